/- Walks by data and names, part 41: Layer 21, by V: the snapshots of bytes. A part of a variable is stored, in a region that draws its order: the rest of it stays known. Layer 21, by V: the snapshots of bytes, as the document tells them. -/
import Derived.Test.YtkjpcjccddggoaaGreatQk39
import Derived.Test.YtkjpcjccddggoaaGreatQk40
import Derived.Test.YtkjpcjccddggoaaGreatQk25
import Derived.Test.YtkjpcjccddggoaaGreatQk38
namespace Go.Proofs.YtkjpcjccddggoaaGreat
open Go.RowKit
set_option maxRecDepth 10000
set_option maxHeartbeats 4000000
def Sn.zero : Sn := ⟨⟨0, 0, []⟩, 0, 0, .zero⟩
/-- the snapshot that stands in bytes, may it be or not -/
def snRaw (b : List UInt8) : Option Sn :=
  if b.length < 80 then none else if vcB (vcOf (b.drop 16)) = false then none else match readCan (b.drop 80) with
    | none => none
    | some (x, y, A, k) => if 80 + k = b.length then some ⟨⟨x, y, A⟩, numN (b.take 8), numN ((b.take 16).drop 8), vcOf (b.drop 16)⟩ else none
def snRd (b : List UInt8) : Option Sn := match snRaw b with
  | none => none
  | some s => if snB s then some s else none
theorem snRaw_64 {b : List UInt8} {s : Sn} (h : snRaw b = some s) : All64 s.c.L ∧ s.c.L.length ≤ 16 := by
  unfold snRaw at h
  split at h
  · cases h
  split at h
  · cases h
  split at h
  · cases h
  · rename_i x y A k hr
    split at h
    · cases h
      obtain ⟨h1, h2, h3, h4, _⟩ := readcan_own _ _ _ _ _ hr
      refine ⟨h4, ?_⟩
      have := Nat.mul_le_mul h1.2 h2.2
      show A.length ≤ 16
      omega
    · cases h
abbrev snA (o : Option Sn) : D := .agg (snN (o.getD .zero))
theorem snA_none : snA none = .agg [i64D 0, i64D 0, .sl false true [], u64D 0, u64D 0, u64D 0, u64D 0, u64D 0, u64D 0, u64D 0, u64D 0, u64D 0, u64D 0, u64D 0] := rfl
theorem snread_v (b : List UInt8) (hb : b.length ≤ 100000) : VP Tryz.prog 24 [bsD b] (· = .ret (.tup [snA (snRd b), i64D (if (snRd b).isSome then 0 else 310)])) := by
  have hbl := byD_len b
  have hc1 : cutL none (some 16) (byD b) = byD (b.take 16) := cutN b 16
  have hc2 : cutL (some 16) none (byD b) = byD (b.drop 16) := cutD b 16
  have hc3 : cutL (some (16 + 64)) none (byD b) = byD (b.drop 80) := cutD b 80
  have ct := takeC_v (b.drop 16) (by simp; omega)
  have cr := readcan_v (b.drop 80)
  refine VP.le ?_
  by_cases h16 : b.length < 16
  · have hr : snRd b = none := by simp [snRd, snRaw, show b.length < 80 by omega]
    rw [hr, snA_none]
    simp only [Option.isSome_none, Bool.false_eq_true, if_false]
    refine vp_of Tryz.func24 rfl Tryz.ntmps24 rfl Tryz.results24 fun B => ?_
    repeat' (first | fail | fail | refine nzl ?_ | refine nzd ?_ | ((first | with_reducible refine vl_id ?_ | with_reducible refine vd_id ?_); first | (refine vq_l (need_ok 310) ?_; first | refine vs_call (need_ok 310) ?_ | refine vs_pan (need_no 310) ?_ | (refine vs_cifp (need_if _ 310) ?_ ?_ <;> intro _ <;> (try (exfalso; omega))) | (refine vs_cif (need_if _ 310) ?_ ?_ <;> intro _)) | refine vs_vc (hc := vc_of Tryz.func76 rfl Tryz.ntmps76 Tryz.results76 fun _ => ?_) | refine vs_vc (hc := vc_tries (fd := 114) Tryz.func75 rfl Tryz.ntmps75 Tryz.results75 fun _ => ?_)) | refine nzo ?_ | refine nc ?_ ?_ | (with_reducible intro _ <;> (try (exfalso; omega))) | refine vs_eqnil ?_ | refine vs_nenil ?_ | (refine nd ?_ ?_ <;> intro hg <;> (first | (exfalso; (try simp only [decide_eq_true_eq, decide_eq_false_iff_not] at hg); omega) | rw [hg])) | refine vdf_of Tryz.func114 rfl Tryz.ntmps114 Tryz.results114 ?_)
    all_goals first | (simp only [leR]; infer_instance) | (exfalso; omega) | trace_state
  have cs := split2_v (b.take 16) (by simp; omega)
  rw [List.take_take, show min 8 16 = 8 from rfl] at cs
  by_cases h80 : b.length < 80
  · have hr : snRd b = none := by simp [snRd, snRaw, h80]
    have ht : take19 (b.drop 16) = (.zero, 0, 110) := by simp only [take19, List.length_drop]; rw [if_pos (by omega)]
    rw [hr, snA_none]
    rw [ht] at ct
    dsimp only [Vc.zero, vcD] at ct
    clear ht hr cr
    simp only [Option.isSome_none, Bool.false_eq_true, if_false]
    generalize numN (b.take 8) = n1 at *
    generalize numN ((b.take 16).drop 8) = n2 at *
    generalize b.take 16 = B1 at *
    generalize b.drop 16 = B2 at *
    refine vp_of Tryz.func24 rfl Tryz.ntmps24 rfl Tryz.results24 fun B => ?_
    repeat' (first | rw [hc1] | rw [hc2] | rw [hc3] | refine vs_bsd ?_ | fail | refine nzl ?_ | refine nzd ?_ | ((first | with_reducible refine vl_id ?_ | with_reducible refine vd_id ?_); first | (refine vq_l (need_ok 310) ?_; first | refine vs_call (need_ok 310) ?_ | refine vs_pan (need_no 310) ?_ | (refine vs_cifp (need_if _ 310) ?_ ?_ <;> intro _ <;> (try (exfalso; omega))) | (refine vs_cif (need_if _ 310) ?_ ?_ <;> intro _)) | refine cz (cs) ?_ | refine cz (ct) ?_ | refine vs_vc (hc := vc_of Tryz.func76 rfl Tryz.ntmps76 Tryz.results76 fun _ => ?_) | refine vs_vc (hc := vc_tries (fd := 114) Tryz.func75 rfl Tryz.ntmps75 Tryz.results75 fun _ => ?_)) | refine nzo ?_ | refine nc ?_ ?_ | (with_reducible intro _ <;> (try (exfalso; omega))) | refine vs_eqnil ?_ | refine vs_nenil ?_ | (refine nd ?_ ?_ <;> intro hg <;> (first | (exfalso; (try simp only [decide_eq_true_eq, decide_eq_false_iff_not] at hg); omega) | rw [hg])) | refine vdf_of Tryz.func114 rfl Tryz.ntmps114 Tryz.results114 ?_)
    all_goals first | (simp only [leR]; infer_instance) | (exfalso; omega) | trace_state
  by_cases hv : vcB (vcOf (b.drop 16)) = false
  · have hr : snRd b = none := by simp [snRd, snRaw, h80, hv]
    have ht : take19 (b.drop 16) = (.zero, 0, 290) := by simp only [take19, List.length_drop]; rw [if_neg (by omega), hv]; rfl
    rw [hr, snA_none]
    rw [ht] at ct
    dsimp only [Vc.zero, vcD] at ct
    clear ht hr cr hv
    simp only [Option.isSome_none, Bool.false_eq_true, if_false]
    generalize numN (b.take 8) = n1 at *
    generalize numN ((b.take 16).drop 8) = n2 at *
    generalize b.take 16 = B1 at *
    generalize b.drop 16 = B2 at *
    refine vp_of Tryz.func24 rfl Tryz.ntmps24 rfl Tryz.results24 fun B => ?_
    repeat' (first | rw [hc1] | rw [hc2] | rw [hc3] | refine vs_bsd ?_ | fail | refine nzl ?_ | refine nzd ?_ | ((first | with_reducible refine vl_id ?_ | with_reducible refine vd_id ?_); first | (refine vq_l (need_ok 310) ?_; first | refine vs_call (need_ok 310) ?_ | refine vs_pan (need_no 310) ?_ | (refine vs_cifp (need_if _ 310) ?_ ?_ <;> intro _ <;> (try (exfalso; omega))) | (refine vs_cif (need_if _ 310) ?_ ?_ <;> intro _)) | refine cz (cs) ?_ | refine cz (ct) ?_ | refine vs_vc (hc := vc_of Tryz.func76 rfl Tryz.ntmps76 Tryz.results76 fun _ => ?_) | refine vs_vc (hc := vc_tries (fd := 114) Tryz.func75 rfl Tryz.ntmps75 Tryz.results75 fun _ => ?_)) | refine nzo ?_ | refine nc ?_ ?_ | (with_reducible intro _ <;> (try (exfalso; omega))) | refine vs_eqnil ?_ | refine vs_nenil ?_ | (refine nd ?_ ?_ <;> intro hg <;> (first | (exfalso; (try simp only [decide_eq_true_eq, decide_eq_false_iff_not] at hg); omega) | rw [hg])) | refine vdf_of Tryz.func114 rfl Tryz.ntmps114 Tryz.results114 ?_)
    all_goals first | (simp only [leR]; infer_instance) | (exfalso; omega) | trace_state
  have hv := Bool.of_not_eq_false hv
  have ht : take19 (b.drop 16) = (vcOf (b.drop 16), 64, 0) := by simp only [take19, List.length_drop]; rw [if_neg (by omega), if_pos hv]
  rw [ht] at ct
  dsimp only at ct
  clear ht
  cases hrc : readCan (b.drop 80) with
  | none =>
    have hr : snRd b = none := by simp [snRd, snRaw, h80, hv, hrc]
    rw [hr, snA_none]
    simp only [rdCv, hrc] at cr
    clear hr hrc hv
    simp only [Option.isSome_none, Bool.false_eq_true, if_false]
    generalize numN (b.take 8) = n1 at *
    generalize numN ((b.take 16).drop 8) = n2 at *
    generalize vcOf (b.drop 16) = v at *
    generalize b.take 16 = B1 at *
    generalize b.drop 16 = B2 at *
    generalize b.drop 80 = B3 at *
    refine vp_of Tryz.func24 rfl Tryz.ntmps24 rfl Tryz.results24 fun B => ?_
    repeat' (first | rw [hc1] | rw [hc2] | rw [hc3] | refine vs_bsd ?_ | fail | refine nzl ?_ | refine nzd ?_ | ((first | with_reducible refine vl_id ?_ | with_reducible refine vd_id ?_); first | (refine vq_l (need_ok 310) ?_; first | refine vs_call (need_ok 310) ?_ | refine vs_pan (need_no 310) ?_ | (refine vs_cifp (need_if _ 310) ?_ ?_ <;> intro _ <;> (try (exfalso; omega))) | (refine vs_cif (need_if _ 310) ?_ ?_ <;> intro _)) | refine cz (cs) ?_ | refine cz (ct) ?_ | refine cz (cr) ?_ | refine vs_vc (hc := vc_of Tryz.func76 rfl Tryz.ntmps76 Tryz.results76 fun _ => ?_) | refine vs_vc (hc := vc_tries (fd := 114) Tryz.func75 rfl Tryz.ntmps75 Tryz.results75 fun _ => ?_)) | refine nzo ?_ | refine nc ?_ ?_ | (with_reducible intro _ <;> (try (exfalso; omega))) | refine vs_eqnil ?_ | refine vs_nenil ?_ | (refine nd ?_ ?_ <;> intro hg <;> (first | (exfalso; (try simp only [decide_eq_true_eq, decide_eq_false_iff_not] at hg); omega) | rw [hg])) | refine vdf_of Tryz.func114 rfl Tryz.ntmps114 Tryz.results114 ?_)
    all_goals first | (simp only [leR]; infer_instance) | (exfalso; omega) | trace_state
  | some z =>
    obtain ⟨x, y, A, k⟩ := z
    have hkl := (readcan_own _ _ _ _ _ hrc).2.2.2.2.1
    rw [List.length_drop] at hkl
    by_cases hk : 80 + k = b.length
    · have hr : snRaw b = some ⟨⟨x, y, A⟩, numN (b.take 8), numN ((b.take 16).drop 8), vcOf (b.drop 16)⟩ := by simp [snRaw, h80, hv, hrc, hk]
      have ck := sncheck_v _ (snRaw_64 hr).1
      simp only [snRd, hr]
      simp only [rdCv, hrc] at cr
      clear hr hrc hv
      generalize numN (b.take 8) = n1 at *
      generalize numN ((b.take 16).drop 8) = n2 at *
      generalize vcOf (b.drop 16) = v at *
      generalize b.take 16 = B1 at *
      generalize b.drop 16 = B2 at *
      generalize b.drop 80 = B3 at *
      simp only [snD, vcD] at ck ct
      cases hsb : snB ⟨⟨x, y, A⟩, n1, n2, v⟩ with
      | false =>
        rw [hsb] at ck
        simp only [Bool.false_eq_true, if_false, Option.isSome_none, snA_none] at ck ⊢
        refine vp_of Tryz.func24 rfl Tryz.ntmps24 rfl Tryz.results24 fun B => ?_
        repeat' (first | rw [hc1] | rw [hc2] | rw [hc3] | refine vs_bsd ?_ | fail | refine nzl ?_ | refine nzd ?_ | ((first | with_reducible refine vl_id ?_ | with_reducible refine vd_id ?_); first | (refine vq_l (need_ok 310) ?_; first | refine vs_call (need_ok 310) ?_ | refine vs_pan (need_no 310) ?_ | (refine vs_cifp (need_if _ 310) ?_ ?_ <;> intro _ <;> (try (exfalso; omega))) | (refine vs_cif (need_if _ 310) ?_ ?_ <;> intro _)) | refine cz (cs) ?_ | refine cz (ct) ?_ | refine cz (cr) ?_ | refine cz (ck) ?_ | refine vs_vc (hc := vc_of Tryz.func76 rfl Tryz.ntmps76 Tryz.results76 fun _ => ?_) | refine vs_vc (hc := vc_tries (fd := 114) Tryz.func75 rfl Tryz.ntmps75 Tryz.results75 fun _ => ?_)) | refine nzo ?_ | refine nc ?_ ?_ | (with_reducible intro _ <;> (try (exfalso; omega))) | refine vs_eqnil ?_ | refine vs_nenil ?_ | (refine nd ?_ ?_ <;> intro hg <;> (first | (exfalso; (try simp only [decide_eq_true_eq, decide_eq_false_iff_not] at hg); omega) | rw [hg])) | refine vdf_of Tryz.func114 rfl Tryz.ntmps114 Tryz.results114 ?_)
        all_goals first | (simp only [leR]; infer_instance) | (exfalso; omega) | trace_state
      | true =>
        rw [hsb] at ck
        simp only [if_true, Option.isSome_some] at ck ⊢
        refine vp_of Tryz.func24 rfl Tryz.ntmps24 rfl Tryz.results24 fun B => ?_
        repeat' (first | rw [hc1] | rw [hc2] | rw [hc3] | refine vs_bsd ?_ | fail | refine nzl ?_ | refine nzd ?_ | ((first | with_reducible refine vl_id ?_ | with_reducible refine vd_id ?_); first | (refine vq_l (need_ok 310) ?_; first | refine vs_call (need_ok 310) ?_ | refine vs_pan (need_no 310) ?_ | (refine vs_cifp (need_if _ 310) ?_ ?_ <;> intro _ <;> (try (exfalso; omega))) | (refine vs_cif (need_if _ 310) ?_ ?_ <;> intro _)) | refine cz (cs) ?_ | refine cz (ct) ?_ | refine cz (cr) ?_ | refine cz (ck) ?_ | refine vs_vc (hc := vc_of Tryz.func76 rfl Tryz.ntmps76 Tryz.results76 fun _ => ?_) | refine vs_vc (hc := vc_tries (fd := 114) Tryz.func75 rfl Tryz.ntmps75 Tryz.results75 fun _ => ?_)) | refine nzo ?_ | refine nc ?_ ?_ | (with_reducible intro _ <;> (try (exfalso; omega))) | refine vs_eqnil ?_ | refine vs_nenil ?_ | (refine nd ?_ ?_ <;> intro hg <;> (first | (exfalso; (try simp only [decide_eq_true_eq, decide_eq_false_iff_not] at hg); omega) | rw [hg])) | refine vdf_of Tryz.func114 rfl Tryz.ntmps114 Tryz.results114 ?_)
        all_goals first | exact de_refl _ | trace_state
    · have hr : snRd b = none := by simp [snRd, snRaw, h80, hv, hrc, hk]
      rw [hr, snA_none]
      simp only [rdCv, hrc] at cr
      clear hr hrc hv
      simp only [Option.isSome_none, Bool.false_eq_true, if_false]
      generalize numN (b.take 8) = n1 at *
      generalize numN ((b.take 16).drop 8) = n2 at *
      generalize vcOf (b.drop 16) = v at *
      generalize b.take 16 = B1 at *
      generalize b.drop 16 = B2 at *
      generalize b.drop 80 = B3 at *
      refine vp_of Tryz.func24 rfl Tryz.ntmps24 rfl Tryz.results24 fun B => ?_
      repeat' (first | rw [hc1] | rw [hc2] | rw [hc3] | refine vs_bsd ?_ | fail | refine nzl ?_ | refine nzd ?_ | ((first | with_reducible refine vl_id ?_ | with_reducible refine vd_id ?_); first | (refine vq_l (need_ok 310) ?_; first | refine vs_call (need_ok 310) ?_ | refine vs_pan (need_no 310) ?_ | (refine vs_cifp (need_if _ 310) ?_ ?_ <;> intro _ <;> (try (exfalso; omega))) | (refine vs_cif (need_if _ 310) ?_ ?_ <;> intro _)) | refine cz (cs) ?_ | refine cz (ct) ?_ | refine cz (cr) ?_ | refine vs_vc (hc := vc_of Tryz.func76 rfl Tryz.ntmps76 Tryz.results76 fun _ => ?_) | refine vs_vc (hc := vc_tries (fd := 114) Tryz.func75 rfl Tryz.ntmps75 Tryz.results75 fun _ => ?_)) | refine nzo ?_ | refine nc ?_ ?_ | (with_reducible intro _ <;> (try (exfalso; omega))) | refine vs_eqnil ?_ | refine vs_nenil ?_ | (refine nd ?_ ?_ <;> intro hg <;> (first | (exfalso; (try simp only [decide_eq_true_eq, decide_eq_false_iff_not] at hg); omega) | rw [hg])) | refine vdf_of Tryz.func114 rfl Tryz.ntmps114 Tryz.results114 ?_)
      all_goals first | (simp only [leR]; infer_instance) | (exfalso; omega) | trace_state
end Go.Proofs.YtkjpcjccddggoaaGreat

namespace Go.Proofs.YtkjpcjccddggoaaGreat
open Go.RowKit
set_option maxRecDepth 10000
set_option maxHeartbeats 4000000
def ncB (x : List UInt8) : Bool := !comeB x
theorem idxP_cons (p : List UInt8 → Bool) (i : Nat) (x : List UInt8) (l : List (List UInt8)) : idxP p i (x :: l) = if p x then (i : Int) else idxP p (i + 1) l := rfl
theorem ncome_v' (b : List UInt8) : VP Tryz.prog 55 [bsD b] (· = .ret (.lit (.bool (ncB b)))) := ncome_v b
def nextE (p : Pi) : Int × Bool := if piB p = false then (0, false) else if p.many = 0 then (0, true) else (max (idxP ncB 0 p.parts) 0, decide (0 ≤ idxP ncB 0 p.parts))
theorem next_v (p : Pi) : VP Tryz.prog 12 [.agg (piD p)] (· = .ret (.tup [i64D (nextE p).1, .lit (.bool (nextE p).2)])) := by
  have cc := chk_v p
  have ci := idxF_v (ca := []) p.parts ncB ncome_v'
  unfold nextE
  generalize idxP ncB 0 p.parts = j at *
  cases hb : piB p with
  | false =>
    rw [hb] at cc
    simp only [piD, Bool.false_eq_true, if_false, if_true] at cc ⊢
    refine vp_of Tryz.func12 rfl Tryz.ntmps12 rfl Tryz.results12 fun B => ?_
    repeat' (first | fail | fail | refine nzl ?_ | refine nzd ?_ | ((first | with_reducible refine vl_id ?_ | with_reducible refine vd_id ?_); first | refine cz (cc) ?_) | refine nzo ?_ | refine nc ?_ ?_ | (with_reducible intro _ <;> (try (exfalso; omega))) | refine vs_eqnil ?_ | refine vs_nenil ?_ | (refine nd ?_ ?_ <;> intro hg <;> (first | (exfalso; (try simp only [decide_eq_true_eq, decide_eq_false_iff_not] at hg); omega) | rw [hg])) | fail)
    all_goals first | rfl | trace_state
  | true =>
    rw [hb] at cc
    simp only [piD, if_true] at cc ⊢
    refine vp_of Tryz.func12 rfl Tryz.ntmps12 rfl Tryz.results12 fun B => ?_
    repeat' (first | fail | fail | refine nzl ?_ | refine nzd ?_ | ((first | with_reducible refine vl_id ?_ | with_reducible refine vd_id ?_); first | refine cz (cc) ?_ | refine cz (ci) ?_) | refine nzo ?_ | refine nc ?_ ?_ | (with_reducible intro _ <;> (try (exfalso; omega))) | refine vs_eqnil ?_ | refine vs_nenil ?_ | (refine nd ?_ ?_ <;> intro hg <;> (first | (exfalso; (try simp only [decide_eq_true_eq, decide_eq_false_iff_not] at hg); omega) | rw [hg])) | fail)
    all_goals (simp_all; try omega)
def wholeE (p : Pi) : List UInt8 × Bool := if (nextE p).2 = true ∨ piB p = false then ([], false) else (p.parts.flatten, true)
theorem whole_v (p : Pi) (h : sumL p.parts ≤ 140737488355328) : VP Tryz.prog 13 [.agg (piD p)] (· = .ret (.tup [.sl false true (byD (wholeE p).1), .lit (.bool (wholeE p).2)])) := by
  have cc := chk_v p
  have cn := next_v p
  have ct := concat_v p.parts h
  unfold wholeE
  obtain ⟨⟨n1, n2⟩, hn⟩ : ∃ z, nextE p = z := ⟨_, rfl⟩
  rw [hn] at cn ⊢
  generalize piB p = r at *
  refine VP.le ?_
  simp only [piD] at cc cn ⊢
  cases n2 <;> cases r <;> simp only [Bool.false_eq_true, if_false, if_true, or_true, true_or, or_self] at cc cn ⊢
  all_goals
    refine vp_of Tryz.func13 rfl Tryz.ntmps13 rfl Tryz.results13 fun B => ?_
    repeat' (first | fail | fail | refine nzl ?_ | refine nzd ?_ | ((first | with_reducible refine vl_id ?_ | with_reducible refine vd_id ?_); first | refine cz (cc) ?_ | refine cz (cn) ?_ | refine cz (ct) ?_) | refine nzo ?_ | refine nc ?_ ?_ | (with_reducible intro _ <;> (try (exfalso; omega))) | refine vs_eqnil ?_ | refine vs_nenil ?_ | (refine nd ?_ ?_ <;> intro hg <;> (first | (exfalso; (try simp only [decide_eq_true_eq, decide_eq_false_iff_not] at hg); omega) | rw [hg])) | fail)
  all_goals first | exact de_refl _ | (simp only [byD, List.map_nil, leR]; infer_instance) | trace_state
end Go.Proofs.YtkjpcjccddggoaaGreat

namespace Go.Proofs.YtkjpcjccddggoaaGreat
open Go.RowKit
set_option maxRecDepth 10000
set_option maxHeartbeats 4000000
theorem any_idx : ∀ (l : List (List UInt8)) (i : Nat), l.any comeB = decide (0 ≤ idxP comeB i l)
  | [], i => by simp [idxP]
  | x :: l, i => by
    rw [List.any_cons, any_idx l (i + 1), idxP_cons]
    cases h : comeB x <;> simp
end Go.Proofs.YtkjpcjccddggoaaGreat

namespace Go.Proofs.YtkjpcjccddggoaaGreat
open Go.RowKit
set_option maxRecDepth 10000
set_option maxHeartbeats 4000000
instance (l : List Pc) : DLss (l.map pcD) (l.map pcD) := dlss_map l _ _ (fun _ => inferInstance) (fun _ => rfl)
abbrev fM (b : List UInt8) : List D := [.sl false true (byD b)]
def Pi.own (p : Pi) : Pi := { p with parts := (p.parts.take 66).map (·.take 300) }
abbrev piM (p : Pi) : List D := [u64D p.snap, i64D p.many, .sl false true (p.parts.map fM)]
end Go.Proofs.YtkjpcjccddggoaaGreat

namespace Go.Proofs.YtkjpcjccddggoaaGreat
open Go.RowKit
set_option maxRecDepth 10000
set_option maxHeartbeats 4000000
abbrev nilE : List D := [.lit (.slice none 0 0)]
/-- so many have been cloned -/
def clN (l : List (List UInt8)) (i : Nat) : List (List D) := (l.take i).map fM ++ List.replicate (l.length - i) nilE
theorem clN_0 (l : List (List UInt8)) : clN l 0 = List.replicate l.length nilE := by simp [clN]
theorem clN_n (l : List (List UInt8)) : clN l l.length = l.map fM := by simp [clN]
theorem clN_len (l : List (List UInt8)) (i : Nat) (h : i ≤ l.length) : (clN l i).length = l.length := by simp [clN]; omega
theorem clN_get (l : List (List UInt8)) (i : Nat) (h : i < l.length) : (clN l i)[i]? = some nilE := by
  have hl : ((l.take i).map fM).length = i := by simp; omega
  rw [clN, List.getElem?_append_right (by omega), hl, Nat.sub_self, List.getElem?_replicate, if_pos (by omega)]
theorem clN_set (l : List (List UInt8)) (i : Nat) (x : List UInt8) (h : l[i]? = some x) : (clN l i).set i (fM x) = clN l (i + 1) := by
  have hi := (List.getElem?_eq_some_iff.1 h).1
  have hl : ((l.take i).map fM).length = i := by simp; omega
  rw [clN, List.set_append_right _ _ (by omega), hl, Nat.sub_self, show l.length - i = (l.length - (i + 1)) + 1 by omega, List.replicate_succ, List.set_cons_zero, clN, List.take_add_one, h]
  simp
theorem of_v (p : Pi) (hp : piB p = true) (hb : ∀ x ∈ p.parts, x.length ≤ 1000000) (hn : p.parts.length ≤ 1000) : VM1 Tryz.prog 46 0 [.d (.agg (piD p))] [] 0 (.ret (.ptr 2 0)) [.c 2 0 [.d (u64D p.snap), .d (i64D p.many), .row 1 0], .r true true 1 0 23 1 (p.parts.map fM)] 3 := by
  have cc := chk_v p
  have hlm : (p.parts.map fD).length = p.parts.length := List.length_map _
  rw [hp] at cc
  simp only [if_true] at cc
  refine vm1_of Tryz.func46 rfl Tryz.ntmps46 Tryz.results46 fun B M => ?_
  simp only [piD] at cc ⊢
  repeat' (first | fail | fail | refine nzl ?_ | refine nzd ?_ | ((first | with_reducible refine vl_id ?_ | with_reducible refine vd_id ?_); first | refine cz (cc) ?_ | (refine vq_l (need_ok 312) ?_; first | refine vs_call (need_ok 312) ?_ | refine vs_pan (need_no 312) ?_ | (refine vs_cifp (need_if _ 312) ?_ ?_ <;> intro _ <;> (try (exfalso; omega))) | (refine vs_cif (need_if _ 312) ?_ ?_ <;> intro _))) | refine nzo ?_ | refine nc ?_ ?_ | (with_reducible intro _ <;> (try (exfalso; omega))) | refine vs_eqnil ?_ | refine vs_nenil ?_ | (refine nd ?_ ?_ <;> intro hg <;> (first | (exfalso; (try simp only [decide_eq_true_eq, decide_eq_false_iff_not] at hg); omega) | rw [hg])) | fail)
  rw [show List.replicate ((p.parts.map fD).length : Int).toNat (List.map D.lit [Value.slice none 0 0]) = clN p.parts 0 by rw [clN_0, hlm]; rfl]
  refine vw_each 22 p.parts fD (fun (i : Nat) (_ : Unit) => ⟨[(24, I .i64 i), (23, I .i64 (p.parts.map fD).length), (22, .d (.sl false false (p.parts.map fD))), (3, .ptr 2 0)], [.c 2 0 [.d (u64D p.snap), .d (i64D p.many), .row 1 0], .r true true 1 0 23 1 (clN p.parts i)], 3⟩) (fun i _ => True) () (sub_zr [(1, _, _)]) trivial (fun i y x hT hi hx hx' hlt hlm hlen hdr => ?_) (fun y hT hlt hlm => ?_)
  · have hg : (clN p.parts i)[((i : Nat) : Int).toNat]? = some nilE := clN_get p.parts i hi
    have hgl := clN_len p.parts i (by omega)
    have c := clone_v x (by have := hb x (List.mem_of_getElem? hx); omega)
    have hs := clN_set p.parts i x hx
    repeat' (first | fail | fail | refine nzl ?_ | refine nzd ?_ | ((first | with_reducible refine vl_id ?_ | with_reducible refine vd_id ?_); first | refine cz (c) ?_) | refine nzo ?_ | refine nc ?_ ?_ | (with_reducible intro _ <;> (try (exfalso; omega))) | refine vs_eqnil ?_ | refine vs_nenil ?_ | (refine nd ?_ ?_ <;> intro hg <;> (first | (exfalso; (try simp only [decide_eq_true_eq, decide_eq_false_iff_not] at hg); omega) | rw [hg])) | fail)
    refine nx_each () hi trivial ?_
    rw [← hs]
    exact (sub_zr [(1, _, _)])
  · repeat' (first | fail | fail | refine nzl ?_ | refine nzd ?_ | ((first | with_reducible refine vl_id ?_ | with_reducible refine vd_id ?_); first | fail) | refine nzo ?_ | refine nc ?_ ?_ | (with_reducible intro _ <;> (try (exfalso; omega))) | refine vs_eqnil ?_ | refine vs_nenil ?_ | (refine nd ?_ ?_ <;> intro hg <;> (first | (exfalso; (try simp only [decide_eq_true_eq, decide_eq_false_iff_not] at hg); omega) | rw [hg])) | fail)
    rw [clN_n]
    exact nx_sub []
end Go.Proofs.YtkjpcjccddggoaaGreat
