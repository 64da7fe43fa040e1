/- Walks by data and names, part 48: Layer 21, by V: the snapshots of bytes. A part of a variable is stored, in a region that draws its order: the rest of it stays known. Layer 21, by V: the snapshots of bytes, as the document tells them. -/
import Derived.Test.YtkjpcjccddggoaaGreatPk46
import Derived.Test.YtkjpcjccddggoaaGreatPk47
import Derived.Test.YtkjpcjccddggoaaGreatPk25
namespace Go.Proofs.YtkjpcjccddggoaaGreat
open Go.RowKit
set_option maxRecDepth 10000
set_option maxHeartbeats 4000000
def Sn.zero : Sn := ⟨⟨0, 0, []⟩, 0, 0, .zero⟩
/-- the snapshot that stands in bytes, may it be or not -/
def snRaw (b : List UInt8) : Option Sn :=
  if b.length < 80 then none else if vcB (vcOf (b.drop 16)) = false then none else match readCan (b.drop 80) with
    | none => none
    | some (x, y, A, k) => if 80 + k = b.length then some ⟨⟨x, y, A⟩, numN (b.take 8), numN ((b.take 16).drop 8), vcOf (b.drop 16)⟩ else none
def snRd (b : List UInt8) : Option Sn := match snRaw b with
  | none => none
  | some s => if snB s then some s else none
theorem snRaw_64 {b : List UInt8} {s : Sn} (h : snRaw b = some s) : All64 s.c.L ∧ s.c.L.length ≤ 16 := by
  unfold snRaw at h
  split at h
  · cases h
  split at h
  · cases h
  split at h
  · cases h
  · rename_i x y A k hr
    split at h
    · cases h
      obtain ⟨h1, h2, h3, h4, _⟩ := readcan_own _ _ _ _ _ hr
      refine ⟨h4, ?_⟩
      have := Nat.mul_le_mul h1.2 h2.2
      show A.length ≤ 16
      omega
    · cases h
abbrev snA (o : Option Sn) : D := .agg (snN (o.getD .zero))
theorem snA_none : snA none = .agg [i64D 0, i64D 0, .sl false true [], u64D 0, u64D 0, u64D 0, u64D 0, u64D 0, u64D 0, u64D 0, u64D 0, u64D 0, u64D 0, u64D 0] := rfl
theorem snread_v (b : List UInt8) (hb : b.length ≤ 100000) : VP Tryz.prog 24 [bsD b] (· = .ret (.tup [snA (snRd b), i64D (if (snRd b).isSome then 0 else 310)])) := by
  have hbl := byD_len b
  have hc1 : cutL none (some 16) (byD b) = byD (b.take 16) := cutN b 16
  have hc2 : cutL (some 16) none (byD b) = byD (b.drop 16) := cutD b 16
  have hc3 : cutL (some (16 + 64)) none (byD b) = byD (b.drop 80) := cutD b 80
  have ct := takeC_v (b.drop 16) (by simp; omega)
  have cr := readcan_v (b.drop 80)
  refine VP.le ?_
  by_cases h16 : b.length < 16
  · have hr : snRd b = none := by simp [snRd, snRaw, show b.length < 80 by omega]
    rw [hr, snA_none]
    simp only [Option.isSome_none, Bool.false_eq_true, if_false]
    refine vp_of Tryz.func24 rfl Tryz.ntmps24 rfl Tryz.results24 fun B => ?_
    repeat' (first | fail | fail | refine nzl ?_ | refine nzd ?_ | ((first | with_reducible refine vl_id ?_ | with_reducible refine vd_id ?_); first | (refine vq_l (need_ok 310) ?_; first | refine vs_call (need_ok 310) ?_ | refine vs_pan (need_no 310) ?_ | (refine vs_cifp (need_if _ 310) ?_ ?_ <;> intro _ <;> (try (exfalso; omega))) | (refine vs_cif (need_if _ 310) ?_ ?_ <;> intro _)) | refine vs_vc (hc := vc_of Tryz.func76 rfl Tryz.ntmps76 Tryz.results76 fun _ => ?_) | refine vs_vc (hc := vc_tries (fd := 114) Tryz.func75 rfl Tryz.ntmps75 Tryz.results75 fun _ => ?_)) | refine nzo ?_ | refine nc ?_ ?_ | (with_reducible intro _ <;> (try (exfalso; omega))) | refine vs_eqnil ?_ | refine vs_nenil ?_ | (refine nd ?_ ?_ <;> intro hg <;> (first | (exfalso; (try simp only [decide_eq_true_eq, decide_eq_false_iff_not] at hg); omega) | rw [hg])) | refine vdf_of Tryz.func114 rfl Tryz.ntmps114 Tryz.results114 ?_)
    all_goals first | (simp only [leR]; infer_instance) | (exfalso; omega) | trace_state
  have cs := split2_v (b.take 16) (by simp; omega)
  rw [List.take_take, show min 8 16 = 8 from rfl] at cs
  by_cases h80 : b.length < 80
  · have hr : snRd b = none := by simp [snRd, snRaw, h80]
    have ht : take19 (b.drop 16) = (.zero, 0, 110) := by simp only [take19, List.length_drop]; rw [if_pos (by omega)]
    rw [hr, snA_none]
    rw [ht] at ct
    dsimp only [Vc.zero, vcD] at ct
    clear ht hr cr
    simp only [Option.isSome_none, Bool.false_eq_true, if_false]
    generalize numN (b.take 8) = n1 at *
    generalize numN ((b.take 16).drop 8) = n2 at *
    generalize b.take 16 = B1 at *
    generalize b.drop 16 = B2 at *
    refine vp_of Tryz.func24 rfl Tryz.ntmps24 rfl Tryz.results24 fun B => ?_
    repeat' (first | rw [hc1] | rw [hc2] | rw [hc3] | refine vs_bsd ?_ | fail | refine nzl ?_ | refine nzd ?_ | ((first | with_reducible refine vl_id ?_ | with_reducible refine vd_id ?_); first | (refine vq_l (need_ok 310) ?_; first | refine vs_call (need_ok 310) ?_ | refine vs_pan (need_no 310) ?_ | (refine vs_cifp (need_if _ 310) ?_ ?_ <;> intro _ <;> (try (exfalso; omega))) | (refine vs_cif (need_if _ 310) ?_ ?_ <;> intro _)) | refine cz (cs) ?_ | refine cz (ct) ?_ | refine vs_vc (hc := vc_of Tryz.func76 rfl Tryz.ntmps76 Tryz.results76 fun _ => ?_) | refine vs_vc (hc := vc_tries (fd := 114) Tryz.func75 rfl Tryz.ntmps75 Tryz.results75 fun _ => ?_)) | refine nzo ?_ | refine nc ?_ ?_ | (with_reducible intro _ <;> (try (exfalso; omega))) | refine vs_eqnil ?_ | refine vs_nenil ?_ | (refine nd ?_ ?_ <;> intro hg <;> (first | (exfalso; (try simp only [decide_eq_true_eq, decide_eq_false_iff_not] at hg); omega) | rw [hg])) | refine vdf_of Tryz.func114 rfl Tryz.ntmps114 Tryz.results114 ?_)
    all_goals first | (simp only [leR]; infer_instance) | (exfalso; omega) | trace_state
  by_cases hv : vcB (vcOf (b.drop 16)) = false
  · have hr : snRd b = none := by simp [snRd, snRaw, h80, hv]
    have ht : take19 (b.drop 16) = (.zero, 0, 290) := by simp only [take19, List.length_drop]; rw [if_neg (by omega), hv]; rfl
    rw [hr, snA_none]
    rw [ht] at ct
    dsimp only [Vc.zero, vcD] at ct
    clear ht hr cr hv
    simp only [Option.isSome_none, Bool.false_eq_true, if_false]
    generalize numN (b.take 8) = n1 at *
    generalize numN ((b.take 16).drop 8) = n2 at *
    generalize b.take 16 = B1 at *
    generalize b.drop 16 = B2 at *
    refine vp_of Tryz.func24 rfl Tryz.ntmps24 rfl Tryz.results24 fun B => ?_
    repeat' (first | rw [hc1] | rw [hc2] | rw [hc3] | refine vs_bsd ?_ | fail | refine nzl ?_ | refine nzd ?_ | ((first | with_reducible refine vl_id ?_ | with_reducible refine vd_id ?_); first | (refine vq_l (need_ok 310) ?_; first | refine vs_call (need_ok 310) ?_ | refine vs_pan (need_no 310) ?_ | (refine vs_cifp (need_if _ 310) ?_ ?_ <;> intro _ <;> (try (exfalso; omega))) | (refine vs_cif (need_if _ 310) ?_ ?_ <;> intro _)) | refine cz (cs) ?_ | refine cz (ct) ?_ | refine vs_vc (hc := vc_of Tryz.func76 rfl Tryz.ntmps76 Tryz.results76 fun _ => ?_) | refine vs_vc (hc := vc_tries (fd := 114) Tryz.func75 rfl Tryz.ntmps75 Tryz.results75 fun _ => ?_)) | refine nzo ?_ | refine nc ?_ ?_ | (with_reducible intro _ <;> (try (exfalso; omega))) | refine vs_eqnil ?_ | refine vs_nenil ?_ | (refine nd ?_ ?_ <;> intro hg <;> (first | (exfalso; (try simp only [decide_eq_true_eq, decide_eq_false_iff_not] at hg); omega) | rw [hg])) | refine vdf_of Tryz.func114 rfl Tryz.ntmps114 Tryz.results114 ?_)
    all_goals first | (simp only [leR]; infer_instance) | (exfalso; omega) | trace_state
  have hv := Bool.of_not_eq_false hv
  have ht : take19 (b.drop 16) = (vcOf (b.drop 16), 64, 0) := by simp only [take19, List.length_drop]; rw [if_neg (by omega), if_pos hv]
  rw [ht] at ct
  dsimp only at ct
  clear ht
  cases hrc : readCan (b.drop 80) with
  | none =>
    have hr : snRd b = none := by simp [snRd, snRaw, h80, hv, hrc]
    rw [hr, snA_none]
    simp only [rdCv, hrc] at cr
    clear hr hrc hv
    simp only [Option.isSome_none, Bool.false_eq_true, if_false]
    generalize numN (b.take 8) = n1 at *
    generalize numN ((b.take 16).drop 8) = n2 at *
    generalize vcOf (b.drop 16) = v at *
    generalize b.take 16 = B1 at *
    generalize b.drop 16 = B2 at *
    generalize b.drop 80 = B3 at *
    refine vp_of Tryz.func24 rfl Tryz.ntmps24 rfl Tryz.results24 fun B => ?_
    repeat' (first | rw [hc1] | rw [hc2] | rw [hc3] | refine vs_bsd ?_ | fail | refine nzl ?_ | refine nzd ?_ | ((first | with_reducible refine vl_id ?_ | with_reducible refine vd_id ?_); first | (refine vq_l (need_ok 310) ?_; first | refine vs_call (need_ok 310) ?_ | refine vs_pan (need_no 310) ?_ | (refine vs_cifp (need_if _ 310) ?_ ?_ <;> intro _ <;> (try (exfalso; omega))) | (refine vs_cif (need_if _ 310) ?_ ?_ <;> intro _)) | refine cz (cs) ?_ | refine cz (ct) ?_ | refine cz (cr) ?_ | refine vs_vc (hc := vc_of Tryz.func76 rfl Tryz.ntmps76 Tryz.results76 fun _ => ?_) | refine vs_vc (hc := vc_tries (fd := 114) Tryz.func75 rfl Tryz.ntmps75 Tryz.results75 fun _ => ?_)) | refine nzo ?_ | refine nc ?_ ?_ | (with_reducible intro _ <;> (try (exfalso; omega))) | refine vs_eqnil ?_ | refine vs_nenil ?_ | (refine nd ?_ ?_ <;> intro hg <;> (first | (exfalso; (try simp only [decide_eq_true_eq, decide_eq_false_iff_not] at hg); omega) | rw [hg])) | refine vdf_of Tryz.func114 rfl Tryz.ntmps114 Tryz.results114 ?_)
    all_goals first | (simp only [leR]; infer_instance) | (exfalso; omega) | trace_state
  | some z =>
    obtain ⟨x, y, A, k⟩ := z
    have hkl := (readcan_own _ _ _ _ _ hrc).2.2.2.2.1
    rw [List.length_drop] at hkl
    by_cases hk : 80 + k = b.length
    · have hr : snRaw b = some ⟨⟨x, y, A⟩, numN (b.take 8), numN ((b.take 16).drop 8), vcOf (b.drop 16)⟩ := by simp [snRaw, h80, hv, hrc, hk]
      have ck := sncheck_v _ (snRaw_64 hr).1
      simp only [snRd, hr]
      simp only [rdCv, hrc] at cr
      clear hr hrc hv
      generalize numN (b.take 8) = n1 at *
      generalize numN ((b.take 16).drop 8) = n2 at *
      generalize vcOf (b.drop 16) = v at *
      generalize b.take 16 = B1 at *
      generalize b.drop 16 = B2 at *
      generalize b.drop 80 = B3 at *
      simp only [snD, vcD] at ck ct
      cases hsb : snB ⟨⟨x, y, A⟩, n1, n2, v⟩ with
      | false =>
        rw [hsb] at ck
        simp only [Bool.false_eq_true, if_false, Option.isSome_none, snA_none] at ck ⊢
        refine vp_of Tryz.func24 rfl Tryz.ntmps24 rfl Tryz.results24 fun B => ?_
        repeat' (first | rw [hc1] | rw [hc2] | rw [hc3] | refine vs_bsd ?_ | fail | refine nzl ?_ | refine nzd ?_ | ((first | with_reducible refine vl_id ?_ | with_reducible refine vd_id ?_); first | (refine vq_l (need_ok 310) ?_; first | refine vs_call (need_ok 310) ?_ | refine vs_pan (need_no 310) ?_ | (refine vs_cifp (need_if _ 310) ?_ ?_ <;> intro _ <;> (try (exfalso; omega))) | (refine vs_cif (need_if _ 310) ?_ ?_ <;> intro _)) | refine cz (cs) ?_ | refine cz (ct) ?_ | refine cz (cr) ?_ | refine cz (ck) ?_ | refine vs_vc (hc := vc_of Tryz.func76 rfl Tryz.ntmps76 Tryz.results76 fun _ => ?_) | refine vs_vc (hc := vc_tries (fd := 114) Tryz.func75 rfl Tryz.ntmps75 Tryz.results75 fun _ => ?_)) | refine nzo ?_ | refine nc ?_ ?_ | (with_reducible intro _ <;> (try (exfalso; omega))) | refine vs_eqnil ?_ | refine vs_nenil ?_ | (refine nd ?_ ?_ <;> intro hg <;> (first | (exfalso; (try simp only [decide_eq_true_eq, decide_eq_false_iff_not] at hg); omega) | rw [hg])) | refine vdf_of Tryz.func114 rfl Tryz.ntmps114 Tryz.results114 ?_)
        all_goals first | (simp only [leR]; infer_instance) | (exfalso; omega) | trace_state
      | true =>
        rw [hsb] at ck
        simp only [if_true, Option.isSome_some] at ck ⊢
        refine vp_of Tryz.func24 rfl Tryz.ntmps24 rfl Tryz.results24 fun B => ?_
        repeat' (first | rw [hc1] | rw [hc2] | rw [hc3] | refine vs_bsd ?_ | fail | refine nzl ?_ | refine nzd ?_ | ((first | with_reducible refine vl_id ?_ | with_reducible refine vd_id ?_); first | (refine vq_l (need_ok 310) ?_; first | refine vs_call (need_ok 310) ?_ | refine vs_pan (need_no 310) ?_ | (refine vs_cifp (need_if _ 310) ?_ ?_ <;> intro _ <;> (try (exfalso; omega))) | (refine vs_cif (need_if _ 310) ?_ ?_ <;> intro _)) | refine cz (cs) ?_ | refine cz (ct) ?_ | refine cz (cr) ?_ | refine cz (ck) ?_ | refine vs_vc (hc := vc_of Tryz.func76 rfl Tryz.ntmps76 Tryz.results76 fun _ => ?_) | refine vs_vc (hc := vc_tries (fd := 114) Tryz.func75 rfl Tryz.ntmps75 Tryz.results75 fun _ => ?_)) | refine nzo ?_ | refine nc ?_ ?_ | (with_reducible intro _ <;> (try (exfalso; omega))) | refine vs_eqnil ?_ | refine vs_nenil ?_ | (refine nd ?_ ?_ <;> intro hg <;> (first | (exfalso; (try simp only [decide_eq_true_eq, decide_eq_false_iff_not] at hg); omega) | rw [hg])) | refine vdf_of Tryz.func114 rfl Tryz.ntmps114 Tryz.results114 ?_)
        all_goals first | exact de_refl _ | trace_state
    · have hr : snRd b = none := by simp [snRd, snRaw, h80, hv, hrc, hk]
      rw [hr, snA_none]
      simp only [rdCv, hrc] at cr
      clear hr hrc hv
      simp only [Option.isSome_none, Bool.false_eq_true, if_false]
      generalize numN (b.take 8) = n1 at *
      generalize numN ((b.take 16).drop 8) = n2 at *
      generalize vcOf (b.drop 16) = v at *
      generalize b.take 16 = B1 at *
      generalize b.drop 16 = B2 at *
      generalize b.drop 80 = B3 at *
      refine vp_of Tryz.func24 rfl Tryz.ntmps24 rfl Tryz.results24 fun B => ?_
      repeat' (first | rw [hc1] | rw [hc2] | rw [hc3] | refine vs_bsd ?_ | fail | refine nzl ?_ | refine nzd ?_ | ((first | with_reducible refine vl_id ?_ | with_reducible refine vd_id ?_); first | (refine vq_l (need_ok 310) ?_; first | refine vs_call (need_ok 310) ?_ | refine vs_pan (need_no 310) ?_ | (refine vs_cifp (need_if _ 310) ?_ ?_ <;> intro _ <;> (try (exfalso; omega))) | (refine vs_cif (need_if _ 310) ?_ ?_ <;> intro _)) | refine cz (cs) ?_ | refine cz (ct) ?_ | refine cz (cr) ?_ | refine vs_vc (hc := vc_of Tryz.func76 rfl Tryz.ntmps76 Tryz.results76 fun _ => ?_) | refine vs_vc (hc := vc_tries (fd := 114) Tryz.func75 rfl Tryz.ntmps75 Tryz.results75 fun _ => ?_)) | refine nzo ?_ | refine nc ?_ ?_ | (with_reducible intro _ <;> (try (exfalso; omega))) | refine vs_eqnil ?_ | refine vs_nenil ?_ | (refine nd ?_ ?_ <;> intro hg <;> (first | (exfalso; (try simp only [decide_eq_true_eq, decide_eq_false_iff_not] at hg); omega) | rw [hg])) | refine vdf_of Tryz.func114 rfl Tryz.ntmps114 Tryz.results114 ?_)
      all_goals first | (simp only [leR]; infer_instance) | (exfalso; omega) | trace_state
end Go.Proofs.YtkjpcjccddggoaaGreat

namespace Go.Proofs.YtkjpcjccddggoaaGreat
open Go.RowKit
theorem simS_merge {B : Nat} {g : G} {w : World} {st : List E} {k o0 n : Nat} {mrg : List V} (h : SimS B g w st) (hm : cellsAt k o0 st n = some mrg) : SimS B g w [.c k o0 mrg] := by
  refine ⟨fun {i o x} hc => h.cell ?_, fun hr => (by simp only [rowAt] at hr; cases hr), fun hl => (by simp only [loopAt] at hl; cases hl)⟩
  simp only [cellAt] at hc
  split at hc
  · rename_i hb
    have := Nat.eq_of_beq_eq_true hb
    subst this
    split at hc
    · rename_i ho
      split at hc
      · rename_i v hv
        cases hc
        have := cellsAt_get hm hv
        have ho := Nat.le_of_ble_eq_true ho
        rwa [show o0 + (o - o0) = o by omega] at this
      · cases hc
    · cases hc
  · cases hc
section
variable {P : Program} {cx : Cx}
theorem c_storeW {tm : List (Nat × V)} {st : List E} {t ty : TypeId} {x y : Operand} {k off sz o0 n : Nat} {ag : Bool} {z : List Value} {v : V} {vs old all mrg : List V} {pos : String} {af : Array Edge} [hT : TyI P t ag (sz + 1) z] (hx : ∀ nb, evalV ⟨tm, st, nb⟩ x = some (.ptr k off)) (hy : ∀ nb, evalV ⟨tm, st, nb⟩ y = some v) (hv : cellsV v = some vs) (hl : vs.length = sz + 1) (h1 : leaves vs = true)
    (hold : cellsAt k off (.c k o0 all :: st) (sz + 1) = some old) (hm : cellsAt k o0 [.c k off vs, .c k o0 all] n = some mrg) (_ : noR k st = true) :
    OpC P cx ⟨none, .store t x y, ty, pos, af, none⟩ tm st k (.c k o0 all) (.d .any) (.c k o0 mrg) := fun m nb g a w K Qx hS hE0 hK => by
  obtain ⟨w', r1, r2, r3, r4⟩ := store_core (hT := hT) (ty := ty) (s := ⟨tm, .c k o0 all :: st, nb⟩) (hx nb) (hy nb) hv hl h1 hold hS
  refine ⟨fun _ _ => trivial, ?_⟩
  rw [Oper.semAt_plain (FW cx.rd) _ _ (by intro c e; cases e), execOp_bare, r1]
  exact hK undef g w' r2 (fun _ _ => ⟨rfl, rfl, rfl⟩) (fun st' hn hs => simS_tailc (r4 st' hs) hn) (simS_merge (r4 _ hE0) hm) r3 (by simp only [vrep, drep])
/-- a part of a variable is stored, in a region that draws its order; n cells from o0 on stay known -/
theorem vd_storeW (o0 n : Nat) {l : List Oper} {tm0 : List (Nat × V)} {tm : List (Nat × V)} {st st0 stO : List E} {nb nb0 : Nat} {ds : List Nat} {hd tl : List Oper} {i : Nat} {acc : List Ac} {Q : VE → St → Prop} {t' ty : TypeId} {x y : Operand} {k' off sz : Nat} {ag : Bool} {z : List Value} {v : V} {vs old all mrg : List V} {pos : String} {af : Array Edge} {vis : List E} {tmI : List (Nat × V)} [hT : TyI P t' ag (sz + 1) z]
    (kk : VD P cx l tm0 st0 stO nb0 ds Q hd tl (i + 1) (⟨i, 1000000 + i, .d .any, [.c k' o0 mrg], vis, none, some (k', .c k' o0 all), [.c k' o0 mrg], none⟩ :: acc) ((1000000 + i, .d .any) :: tm) (.c k' o0 mrg :: st) nb)
    (hsel : selT af.toList ds acc tm0 (tmpsL (Op.store t' x y).operands.toList) = some tmI := by rfl) (hvis : visF acc af.toList = some vis := by rfl)
    (hx : ∀ nb, evalV ⟨tmI, vis ++ st0, nb⟩ x = some (.ptr k' off) := by intro _; rfl) (hy : ∀ nb, evalV ⟨tmI, vis ++ st0, nb⟩ y = some v := by intro _; rfl) (hv : cellsV v = some vs := by rfl) (hl : vs.length = sz + 1 := by rfl) (h1 : leaves vs = true := by rfl)
    (hall : cellsAt k' o0 stO n = some all := by rfl) (hold : cellsAt k' off (.c k' o0 all :: (vis ++ st0)) (sz + 1) = some old := by rfl) (hm : cellsAt k' o0 [.c k' off vs, .c k' o0 all] n = some mrg := by rfl)
    (hnk : noR k' (vis ++ st0) = true := by rfl) (hk : Nat.blt k' nb0 = true := by rfl) (hn0 : noR k' st0 = true := by rfl) (hnc : noC k' acc = true := by rfl) (hds : memN (1000000 + i) ds = true := by rfl) (hfa : findA (1000000 + i) acc = none := by rfl) :
    VD P cx l tm0 st0 stO nb0 ds Q (⟨none, .store t' x y, ty, pos, af, none⟩ :: hd) tl i acc tm st nb :=
  vd_cE kk (.inr ⟨rfl, rfl⟩) hds hfa hsel hvis trivial (c_storeW hx hy hv hl h1 hold hm hnk) hn0 noR_nec noR_nec (.inl rfl) (.inl ⟨rfl, ⟨Nat.le_of_ble_eq_true hk, eok_c n hall⟩, hnc⟩)
end
end Go.Proofs.YtkjpcjccddggoaaGreat

namespace Go.Proofs.YtkjpcjccddggoaaGreat
open Go.RowKit
set_option maxRecDepth 10000
set_option maxHeartbeats 4000000
theorem rsnread_v (b : List UInt8) (hb : b.length ≤ 100000) : VP Tryz.prog 25 [bsD b] (· = .ret (.tup [snA (snRaw b), .lit (.bool (snRd b).isSome)])) := by
  have hbl := byD_len b
  have hd1 : cutL none (some 8) (byD b) = byD (b.take 8) := cutN b 8
  have hd2 : cutL (some 8) (some 16) (byD b) = byD ((b.take 16).drop 8) := cutA _ b 8 16
  have hd3 : cutL (some 16) none (byD b) = byD (b.drop 16) := cutD b 16
  have hd4 : cutL (some 80) none (byD b) = byD (b.drop 80) := cutD b 80
  have c1 := number01_v (b.take 8) (by simp; omega)
  have c2 := number01_v ((b.take 16).drop 8) (by simp; omega)
  have ct := take19_v (b.drop 16)
  have cr := refreadcan_v (b.drop 80) (by simp; omega)
  refine VP.le ?_
  by_cases h80 : b.length < 80
  · have hr : snRaw b = none := by simp [snRaw, h80]
    simp only [snRd, hr, snA_none, Option.isSome_none]
    refine vp_of Tryz.func25 rfl Tryz.ntmps25 rfl Tryz.results25 fun B => ?_
    repeat' (first | rw [hd1] | rw [hd2] | rw [hd3] | rw [hd4] | fail | refine nzl ?_ | refine nzd ?_ | ((first | with_reducible refine vl_id ?_ | with_reducible refine vd_id ?_); first | fail) | refine nzo ?_ | refine nc ?_ ?_ | (with_reducible intro _ <;> (try (exfalso; omega))) | refine vs_eqnil ?_ | refine vs_nenil ?_ | (refine nd ?_ ?_ <;> intro hg <;> (first | (exfalso; (try simp only [decide_eq_true_eq, decide_eq_false_iff_not] at hg); omega) | rw [hg])) | fail)
    all_goals first | (simp only [leR]; infer_instance) | (exfalso; omega) | (rename_i hz; exact absurd hz (by decide)) | trace_state
  by_cases hv : vcB (vcOf (b.drop 16)) = false
  · have hr : snRaw b = none := by simp [snRaw, hv]
    have ht : take19 (b.drop 16) = (.zero, 0, 290) := by simp only [take19, List.length_drop]; rw [if_neg (by omega), hv]; rfl
    simp only [snRd, hr, snA_none, Option.isSome_none]
    rw [ht] at ct
    dsimp only [Vc.zero, vcD] at ct
    cases hrc : readCan (b.drop 80)
    all_goals
      simp only [rdCv, hrc] at cr
      clear ht hr hv hrc
      generalize numN (b.take 8) = n1 at *
      generalize numN ((b.take 16).drop 8) = n2 at *
      generalize b.take 8 = B1 at *
      generalize (b.take 16).drop 8 = B2 at *
      generalize b.drop 16 = B3 at *
      generalize b.drop 80 = B4 at *
      refine vp_of Tryz.func25 rfl Tryz.ntmps25 rfl Tryz.results25 fun B => ?_
      repeat' (first | rw [hd1] | rw [hd2] | rw [hd3] | rw [hd4] | fail | refine nzl ?_ | refine nzd ?_ | ((first | with_reducible refine vl_id ?_ | with_reducible refine vd_id ?_); first | refine cz (c1) ?_ | refine cz (c2) ?_ | refine cz (ct) ?_ | refine cz (cr) ?_) | refine nzo ?_ | refine nc ?_ ?_ | (with_reducible intro _ <;> (try (exfalso; omega))) | refine vs_eqnil ?_ | refine vs_nenil ?_ | (refine nd ?_ ?_ <;> intro hg <;> (first | (exfalso; (try simp only [decide_eq_true_eq, decide_eq_false_iff_not] at hg); omega) | rw [hg])) | fail)
      all_goals first | (simp only [leR]; infer_instance) | (exfalso; omega) | (rename_i hz; exact absurd hz (by decide)) | trace_state
  have hv := Bool.of_not_eq_false hv
  have ht : take19 (b.drop 16) = (vcOf (b.drop 16), 64, 0) := by simp only [take19, List.length_drop]; rw [if_neg (by omega), if_pos hv]
  rw [ht] at ct
  dsimp only at ct
  clear ht
  cases hrc : readCan (b.drop 80) with
  | none =>
    have hr : snRaw b = none := by simp [snRaw, hrc]
    simp only [snRd, hr, snA_none, Option.isSome_none]
    simp only [rdCv, hrc] at cr
    clear hr hrc hv
    generalize numN (b.take 8) = n1 at *
    generalize numN ((b.take 16).drop 8) = n2 at *
    generalize vcOf (b.drop 16) = v at *
    generalize b.take 8 = B1 at *
    generalize (b.take 16).drop 8 = B2 at *
    generalize b.drop 16 = B3 at *
    generalize b.drop 80 = B4 at *
    refine vp_of Tryz.func25 rfl Tryz.ntmps25 rfl Tryz.results25 fun B => ?_
    repeat' (first | rw [hd1] | rw [hd2] | rw [hd3] | rw [hd4] | fail | refine nzl ?_ | refine nzd ?_ | ((first | with_reducible refine vl_id ?_ | with_reducible refine vd_id ?_); first | refine cz (c1) ?_ | refine cz (c2) ?_ | refine cz (ct) ?_ | refine cz (cr) ?_) | refine nzo ?_ | refine nc ?_ ?_ | (with_reducible intro _ <;> (try (exfalso; omega))) | refine vs_eqnil ?_ | refine vs_nenil ?_ | (refine nd ?_ ?_ <;> intro hg <;> (first | (exfalso; (try simp only [decide_eq_true_eq, decide_eq_false_iff_not] at hg); omega) | rw [hg])) | fail)
    all_goals first | (simp only [leR]; infer_instance) | (exfalso; omega) | (rename_i hz; exact absurd hz (by decide)) | trace_state
  | some z =>
    obtain ⟨x, y, A, k⟩ := z
    obtain ⟨_, _, _, _, hkl, hk2, _⟩ := readcan_own _ _ _ _ _ hrc
    rw [List.length_drop] at hkl
    by_cases hk : 80 + k = b.length
    · have hr : snRaw b = some ⟨⟨x, y, A⟩, numN (b.take 8), numN ((b.take 16).drop 8), vcOf (b.drop 16)⟩ := by simp [snRaw, h80, hv, hrc, hk]
      have ck := snright_v ⟨⟨x, y, A⟩, numN (b.take 8), numN ((b.take 16).drop 8), vcOf (b.drop 16)⟩
      simp only [snRd, hr]
      simp only [rdCv, hrc] at cr
      clear hr hrc hv
      generalize numN (b.take 8) = n1 at *
      generalize numN ((b.take 16).drop 8) = n2 at *
      generalize vcOf (b.drop 16) = v at *
      generalize b.take 8 = B1 at *
      generalize (b.take 16).drop 8 = B2 at *
      generalize b.drop 16 = B3 at *
      generalize b.drop 80 = B4 at *
      simp only [snD, vcD] at ck ct
      cases hsb : snB ⟨⟨x, y, A⟩, n1, n2, v⟩
      all_goals
        rw [hsb] at ck
        simp only [Bool.false_eq_true, if_false, if_true, Option.isSome_none, Option.isSome_some] at ck ⊢
        refine vp_of Tryz.func25 rfl Tryz.ntmps25 rfl Tryz.results25 fun B => ?_
        repeat' (first | refine vd_storeW 0 14 ?_ | rw [hd1] | rw [hd2] | rw [hd3] | rw [hd4] | refine vw_drawkx (id := 8) [1] ?_ | refine nzl ?_ | refine nzd ?_ | ((first | with_reducible refine vl_id ?_ | with_reducible refine vd_id ?_); first | refine cz (c1) ?_ | refine cz (c2) ?_ | refine cz (ct) ?_ | refine cz (cr) ?_ | refine cz (ck) ?_) | refine nzo ?_ | refine nc ?_ ?_ | (with_reducible intro _ <;> (try (exfalso; omega))) | refine vs_eqnil ?_ | refine vs_nenil ?_ | (refine nd ?_ ?_ <;> intro hg <;> (first | (exfalso; (try simp only [decide_eq_true_eq, decide_eq_false_iff_not] at hg); omega) | rw [hg])) | fail)
        all_goals first | exact de_refl _ | (exfalso; omega) | (rename_i hz; exact absurd hz (by decide)) | trace_state
    · have hr : snRaw b = none := by simp [snRaw, hrc, hk]
      simp only [snRd, hr, snA_none, Option.isSome_none]
      simp only [rdCv, hrc] at cr
      clear hr hrc hv
      generalize numN (b.take 8) = n1 at *
      generalize numN ((b.take 16).drop 8) = n2 at *
      generalize vcOf (b.drop 16) = v at *
      generalize b.take 8 = B1 at *
      generalize (b.take 16).drop 8 = B2 at *
      generalize b.drop 16 = B3 at *
      generalize b.drop 80 = B4 at *
      refine vp_of Tryz.func25 rfl Tryz.ntmps25 rfl Tryz.results25 fun B => ?_
      repeat' (first | rw [hd1] | rw [hd2] | rw [hd3] | rw [hd4] | fail | refine nzl ?_ | refine nzd ?_ | ((first | with_reducible refine vl_id ?_ | with_reducible refine vd_id ?_); first | refine cz (c1) ?_ | refine cz (c2) ?_ | refine cz (ct) ?_ | refine cz (cr) ?_) | refine nzo ?_ | refine nc ?_ ?_ | (with_reducible intro _ <;> (try (exfalso; omega))) | refine vs_eqnil ?_ | refine vs_nenil ?_ | (refine nd ?_ ?_ <;> intro hg <;> (first | (exfalso; (try simp only [decide_eq_true_eq, decide_eq_false_iff_not] at hg); omega) | rw [hg])) | fail)
      all_goals first | (simp only [leR]; infer_instance) | (exfalso; omega) | (rename_i hz; exact absurd hz (by decide)) | trace_state
end Go.Proofs.YtkjpcjccddggoaaGreat
