/- Walks by data and names, part 34: Layer 19, by V: operations, laid; rows of them; their sizes. Layer 19: arguments of its laws, as data. -/
import Derived.Test.YtnjaohdadaifhaaGreatPk33
import Derived.Test.YtnjaohdadaifhaaGreatPk3
import Derived.Test.YtnjaohdadaifhaaGreatPk28
namespace Go.Proofs.YtnjaohdadaifhaaGreat
set_option maxRecDepth 20000
open Go.RowKit
set_option maxRecDepth 10000
set_option maxHeartbeats 4000000
abbrev fnD (f : FuncId) : List D := [.lit (.func (.func f) #[] #[])]
abbrev fldA : List (List D) := [fnD 102, fnD 103, fnD 104, fnD 105]
abbrev fldB : List (List D) := [fnD 102, fnD 103, fnD 105]
abbrev fldC : List (List D) := [fnD 102, fnD 104, fnD 105]
abbrev fldD6 : List (List D) := [fnD 102, fnD 107]
abbrev fldE : List (List D) := [fnD 106]
abbrev fldsD : List D := [.lit (.slice none 0 0), .sl false true fldA, .sl false true fldA, .sl false true fldB, .sl false true fldB, .sl false true fldC, .sl false true fldD6, .sl false true fldE, .sl false true fldE]
theorem fields_v : VP Tryz.prog 74 [] (· = .ret (.agg fldsD)) := by
  refine VP.le ?_
  refine vp_of Tryz.func74 rfl Tryz.ntmps74 rfl Tryz.results74 fun B => ?_
  repeat' (first | refine nz1 ?_ | refine nzo ?_ | refine nc ?_ ?_ | (with_reducible intro _ <;> (try (exfalso; omega))) | refine nnil ?_ | (refine nd ?_ ?_ <;> intro hg <;> first | exact xo hg | rw [hg]))
  all_goals exact de_refl _
theorem layOp_no (b : List UInt8) (o : Opp) (h : opB o = false) (hl : o.px.length ≤ 1000000) : VM1 Tryz.prog 35 1 [.ptr 0 0, .d (.agg (oD o))] (lyE b) 1 (.panic (.d (errD 220))) (lyE b) 1 := by
  have cc := ocheck_v o hl
  rw [h] at cc
  simp only [Bool.false_eq_true, if_false] at cc
  simp only [oD, oDf] at *
  refine vm1_of Tryz.func35 rfl Tryz.ntmps35 Tryz.results35 fun B M => ?_
  repeat' (first | refine nz1 ?_ | (refine vid ?_; first | refine cz (cc) ?_ | (refine vq_l (cneed_ok 220) ?_; first | refine vs_call (cneed_ok 220) ?_ | refine vs_pan (cneed_no 220) ?_ | (refine vs_cifp (cneed_if _ 220) ?_ ?_ <;> intro _ <;> (try (exfalso; omega))) | (refine vs_cif (cneed_if _ 220) ?_ ?_ <;> intro _))) | refine nzo ?_ | refine nc ?_ ?_ | (with_reducible intro _ <;> (try (exfalso; omega))) | refine nnil ?_ | (refine nd ?_ ?_ <;> intro hg <;> first | exact xo hg | rw [hg]))
  exact nx_subp []
theorem layOp_ok (b : List UInt8) (o : Opp) (h : opB o = true) (hl : o.px.length ≤ 1000000) (hb : b.length ≤ 70000000) : VM1 Tryz.prog 35 1 [.ptr 0 0, .d (.agg (oD o))] (lyE b) 1 (.ret (.tup [])) (lyE (b ++ opBy o)) 1 := by
  have cc := ocheck_v o hl
  have cf := fields_v
  obtain ⟨h1, h2, h3, ⟨h4, h5, h6, h7⟩, h8, h9, ha⟩ := opB_in h
  have hz := opB_z h
  rw [h] at cc
  simp only [if_true] at cc
  have d1 := layNum_v b 1 o.k (by omega) (by omega) (by omega) (by omega)
  have d2 := layId_v (b ++ layN 1 o.k.toNat) o.id h1 (by simp [layN_len]; omega)
  rw [show ((1 : Nat) : Int) = 1 from rfl] at d1
  have hB2 : (b ++ layN 1 o.k.toNat ++ idBy o.id).length ≤ 70000018 := by simp [layN_len, idBy_len]; omega
  rw [opBy, ← List.append_assoc, ← List.append_assoc]
  generalize b ++ layN 1 o.k.toNat = B1 at *
  generalize B1 ++ idBy o.id = B2 at *
  have k5 : (o.k = 1 ∨ o.k = 2) ∨ (o.k = 3 ∨ o.k = 4) ∨ o.k = 5 ∨ o.k = 6 ∨ (o.k = 7 ∨ o.k = 8) := by omega
  have lf : (frBy o).length = 2 := by simp [frBy, layN_len]
  have lt : (toBy o).length = 2 := by simp [toBy, layN_len]
  have ls : (szBy o).length = 2 := by simp [szBy, layN_len]
  have d3 := fromL_v B2 o h4 h5 (by omega)
  rcases k5 with hk | hk | hk | hk | hk
  · have hi : (fldsD.map V.d)[o.k.toNat * 1]? = some (.d (.sl false true fldA)) := by rcases hk with hk | hk <;> (rw [hk]; rfl)
    have hln : fldA.length = 4 := rfl
    have e1 := fromL_v (B2) o h4 h5 (by omega)
    have e2 := toL_v (B2 ++ frBy o) o h6 h7 (by simp; omega)
    have e3 := sizeL_v (B2 ++ frBy o ++ toBy o) o hz.1 hz.2 (by simp; omega)
    have e4 := colorL_v (B2 ++ frBy o ++ toBy o ++ szBy o) o (by simp; omega)
    rw [show B2 ++ tailBy o = B2 ++ frBy o ++ toBy o ++ szBy o ++ c4 o.c by rw [tailBy, if_pos hk]; simp only [List.append_assoc]]
    generalize B2 ++ frBy o = B3 at *
    generalize B3 ++ toBy o = B4 at *
    generalize B4 ++ szBy o = B5 at *
    generalize B5 ++ c4 o.c = B6 at *
    clear d3
    simp only [oD, oDf] at *
    refine vm1_of Tryz.func35 rfl Tryz.ntmps35 Tryz.results35 fun B M => ?_
    repeat' (first | refine nz1 ?_ | (refine vid ?_; first | refine cz (cc) ?_ | refine cz (cf) ?_ | (refine vq_l (cneed_ok 220) ?_; first | refine vs_call (cneed_ok 220) ?_ | refine vs_pan (cneed_no 220) ?_ | (refine vs_cifp (cneed_if _ 220) ?_ ?_ <;> intro _ <;> (try (exfalso; omega))) | (refine vs_cif (cneed_if _ 220) ?_ ?_ <;> intro _)) | refine vs_vm [(0, none)] d1 ?_ | refine vs_vm [(0, none)] d2 ?_) | refine nzo ?_ | refine nc ?_ ?_ | (with_reducible intro _ <;> (try (exfalso; omega))) | refine nnil ?_ | (refine nd ?_ ?_ <;> intro hg <;> first | exact xo hg | rw [hg]))
    refine vw_rounds 5 ?_
    repeat' (first | refine nz1 ?_ | (refine vid ?_; first | refine vs_vm [(2, none), (0, none)] e1 ?_ | refine vs_vm [(2, none), (0, none)] e2 ?_ | refine vs_vm [(2, none), (0, none)] e3 ?_ | refine vs_vm [(2, none), (0, none)] e4 ?_) | refine nzo ?_ | refine nc ?_ ?_ | (with_reducible intro _ <;> (try (exfalso; omega))) | refine nnil ?_ | (refine nd ?_ ?_ <;> intro hg <;> first | exact xo hg | rw [hg]))
    exact nx_sub []
  · have hi : (fldsD.map V.d)[o.k.toNat * 1]? = some (.d (.sl false true fldB)) := by rcases hk with hk | hk <;> (rw [hk]; rfl)
    have hln : fldB.length = 3 := rfl
    have e1 := fromL_v (B2) o h4 h5 (by omega)
    have e2 := toL_v (B2 ++ frBy o) o h6 h7 (by simp; omega)
    have e3 := colorL_v (B2 ++ frBy o ++ toBy o) o (by simp; omega)
    rw [show B2 ++ tailBy o = B2 ++ frBy o ++ toBy o ++ c4 o.c by rw [tailBy, if_neg (by omega), if_pos hk]; simp only [List.append_assoc]]
    generalize B2 ++ frBy o = B3 at *
    generalize B3 ++ toBy o = B4 at *
    generalize B4 ++ c4 o.c = B5 at *
    clear d3
    simp only [oD, oDf] at *
    refine vm1_of Tryz.func35 rfl Tryz.ntmps35 Tryz.results35 fun B M => ?_
    repeat' (first | refine nz1 ?_ | (refine vid ?_; first | refine cz (cc) ?_ | refine cz (cf) ?_ | (refine vq_l (cneed_ok 220) ?_; first | refine vs_call (cneed_ok 220) ?_ | refine vs_pan (cneed_no 220) ?_ | (refine vs_cifp (cneed_if _ 220) ?_ ?_ <;> intro _ <;> (try (exfalso; omega))) | (refine vs_cif (cneed_if _ 220) ?_ ?_ <;> intro _)) | refine vs_vm [(0, none)] d1 ?_ | refine vs_vm [(0, none)] d2 ?_) | refine nzo ?_ | refine nc ?_ ?_ | (with_reducible intro _ <;> (try (exfalso; omega))) | refine nnil ?_ | (refine nd ?_ ?_ <;> intro hg <;> first | exact xo hg | rw [hg]))
    refine vw_rounds 4 ?_
    repeat' (first | refine nz1 ?_ | (refine vid ?_; first | refine vs_vm [(2, none), (0, none)] e1 ?_ | refine vs_vm [(2, none), (0, none)] e2 ?_ | refine vs_vm [(2, none), (0, none)] e3 ?_) | refine nzo ?_ | refine nc ?_ ?_ | (with_reducible intro _ <;> (try (exfalso; omega))) | refine nnil ?_ | (refine nd ?_ ?_ <;> intro hg <;> first | exact xo hg | rw [hg]))
    exact nx_sub []
  · have hi : (fldsD.map V.d)[o.k.toNat * 1]? = some (.d (.sl false true fldC)) := by rw [hk]; rfl
    have hln : fldC.length = 3 := rfl
    have e1 := fromL_v (B2) o h4 h5 (by omega)
    have e2 := sizeL_v (B2 ++ frBy o) o hz.1 hz.2 (by simp; omega)
    have e3 := colorL_v (B2 ++ frBy o ++ szBy o) o (by simp; omega)
    rw [show B2 ++ tailBy o = B2 ++ frBy o ++ szBy o ++ c4 o.c by rw [tailBy, if_neg (by omega), if_neg (by omega), if_pos hk]; simp only [List.append_assoc]]
    generalize B2 ++ frBy o = B3 at *
    generalize B3 ++ szBy o = B4 at *
    generalize B4 ++ c4 o.c = B5 at *
    clear d3
    simp only [oD, oDf] at *
    refine vm1_of Tryz.func35 rfl Tryz.ntmps35 Tryz.results35 fun B M => ?_
    repeat' (first | refine nz1 ?_ | (refine vid ?_; first | refine cz (cc) ?_ | refine cz (cf) ?_ | (refine vq_l (cneed_ok 220) ?_; first | refine vs_call (cneed_ok 220) ?_ | refine vs_pan (cneed_no 220) ?_ | (refine vs_cifp (cneed_if _ 220) ?_ ?_ <;> intro _ <;> (try (exfalso; omega))) | (refine vs_cif (cneed_if _ 220) ?_ ?_ <;> intro _)) | refine vs_vm [(0, none)] d1 ?_ | refine vs_vm [(0, none)] d2 ?_) | refine nzo ?_ | refine nc ?_ ?_ | (with_reducible intro _ <;> (try (exfalso; omega))) | refine nnil ?_ | (refine nd ?_ ?_ <;> intro hg <;> first | exact xo hg | rw [hg]))
    refine vw_rounds 4 ?_
    repeat' (first | refine nz1 ?_ | (refine vid ?_; first | refine vs_vm [(2, none), (0, none)] e1 ?_ | refine vs_vm [(2, none), (0, none)] e2 ?_ | refine vs_vm [(2, none), (0, none)] e3 ?_) | refine nzo ?_ | refine nc ?_ ?_ | (with_reducible intro _ <;> (try (exfalso; omega))) | refine nnil ?_ | (refine nd ?_ ?_ <;> intro hg <;> first | exact xo hg | rw [hg]))
    exact nx_sub []
  · have hi : (fldsD.map V.d)[o.k.toNat * 1]? = some (.d (.sl false true fldD6)) := by rw [hk]; rfl
    have hln : fldD6.length = 2 := rfl
    have e1 := fromL_v (B2) o h4 h5 (by omega)
    have e2 := stampL_v (B2 ++ frBy o) o (h9 hk) (by simp; omega)
    rw [show B2 ++ tailBy o = B2 ++ frBy o ++ layN 1 o.w.toNat ++ layN 1 o.h.toNat ++ pxBy o.px by rw [tailBy, if_neg (by omega), if_neg (by omega), if_neg (by omega), if_pos hk]; simp only [List.append_assoc]]
    generalize B2 ++ frBy o = B3 at *
    generalize B3 ++ layN 1 o.w.toNat ++ layN 1 o.h.toNat ++ pxBy o.px = B4 at *
    clear d3
    simp only [oD, oDf] at *
    refine vm1_of Tryz.func35 rfl Tryz.ntmps35 Tryz.results35 fun B M => ?_
    repeat' (first | refine nz1 ?_ | (refine vid ?_; first | refine cz (cc) ?_ | refine cz (cf) ?_ | (refine vq_l (cneed_ok 220) ?_; first | refine vs_call (cneed_ok 220) ?_ | refine vs_pan (cneed_no 220) ?_ | (refine vs_cifp (cneed_if _ 220) ?_ ?_ <;> intro _ <;> (try (exfalso; omega))) | (refine vs_cif (cneed_if _ 220) ?_ ?_ <;> intro _)) | refine vs_vm [(0, none)] d1 ?_ | refine vs_vm [(0, none)] d2 ?_) | refine nzo ?_ | refine nc ?_ ?_ | (with_reducible intro _ <;> (try (exfalso; omega))) | refine nnil ?_ | (refine nd ?_ ?_ <;> intro hg <;> first | exact xo hg | rw [hg]))
    refine vw_rounds 3 ?_
    repeat' (first | refine nz1 ?_ | (refine vid ?_; first | refine vs_vm [(2, none), (0, none)] e1 ?_ | refine vs_vm [(2, none), (0, none)] e2 ?_) | refine nzo ?_ | refine nc ?_ ?_ | (with_reducible intro _ <;> (try (exfalso; omega))) | refine nnil ?_ | (refine nd ?_ ?_ <;> intro hg <;> first | exact xo hg | rw [hg]))
    exact nx_sub []
  · have hi : (fldsD.map V.d)[o.k.toNat * 1]? = some (.d (.sl false true fldE)) := by rcases hk with hk | hk <;> (rw [hk]; rfl)
    have hln : fldE.length = 1 := rfl
    have e1 := targetL_v (B2) o (ha (by omega)).1 (by omega)
    rw [show B2 ++ tailBy o = B2 ++ idBy o.tg by rw [tailBy, if_neg (by omega), if_neg (by omega), if_neg (by omega), if_neg (by omega)]]
    generalize B2 ++ idBy o.tg = B3 at *
    clear d3
    simp only [oD, oDf] at *
    refine vm1_of Tryz.func35 rfl Tryz.ntmps35 Tryz.results35 fun B M => ?_
    repeat' (first | refine nz1 ?_ | (refine vid ?_; first | refine cz (cc) ?_ | refine cz (cf) ?_ | (refine vq_l (cneed_ok 220) ?_; first | refine vs_call (cneed_ok 220) ?_ | refine vs_pan (cneed_no 220) ?_ | (refine vs_cifp (cneed_if _ 220) ?_ ?_ <;> intro _ <;> (try (exfalso; omega))) | (refine vs_cif (cneed_if _ 220) ?_ ?_ <;> intro _)) | refine vs_vm [(0, none)] d1 ?_ | refine vs_vm [(0, none)] d2 ?_) | refine nzo ?_ | refine nc ?_ ?_ | (with_reducible intro _ <;> (try (exfalso; omega))) | refine nnil ?_ | (refine nd ?_ ?_ <;> intro hg <;> first | exact xo hg | rw [hg]))
    refine vw_rounds 2 ?_
    repeat' (first | refine nz1 ?_ | (refine vid ?_; first | refine vs_vm [(2, none), (0, none)] e1 ?_) | refine nzo ?_ | refine nc ?_ ?_ | (with_reducible intro _ <;> (try (exfalso; omega))) | refine nnil ?_ | (refine nd ?_ ?_ <;> intro hg <;> first | exact xo hg | rw [hg]))
    exact nx_sub []
theorem op_len {o : Opp} (h : opB o = true) : (opBy o).length ≤ 1000 := by
  have hp : o.k = 6 → o.px.length ≤ 64 := fun hk => by
    obtain ⟨s1, s2, s3⟩ := st_in ((opB_in h).2.2.2.2.2.1 hk)
    simp only [sideB, Bool.and_eq_true, decide_eq_true_eq] at s1 s2
    rw [s3]; exact Nat.mul_le_mul (show o.w.toNat ≤ 8 by omega) (show o.h.toNat ≤ 8 by omega)
  simp only [opBy, tailBy, frBy, toBy, szBy, List.length_append, layN_len, idBy_len]
  repeat' split
  all_goals simp [layN_len, idBy_len, pxBy_len]
  all_goals (rename_i hk; have := hp hk; omega)
theorem opC_v (o : Opp) (hl : o.px.length ≤ 1000000) : VP Tryz.prog 13 [.agg (oD o)] (· = .ret (.tup [bsD (if opB o then opBy o else []), i64D (if opB o then 0 else 220)])) := by
  refine VP.le ?_
  cases hv : opB o with
  | false =>
    have c := layOp_no [] o hv hl
    simp only [Bool.false_eq_true, if_false]
    simp only [oD, oDf] at *
    refine vp_of Tryz.func13 rfl Tryz.ntmps13 rfl Tryz.results13 fun B => ?_
    repeat' (first | refine nz1 ?_ | (refine vid ?_; first | refine vs_vm [(2, none)] c ?_ | refine vs_vc (hc := vc_of Tryz.func31 rfl Tryz.ntmps31 Tryz.results31 fun _ => ?_) | refine vs_vc (hc := vc_of Tryz.func72 rfl Tryz.ntmps72 Tryz.results72 fun _ => ?_) | refine vs_vc (hc := vc_of Tryz.func44 rfl Tryz.ntmps44 Tryz.results44 fun _ => ?_) | refine vs_vc (hc := vc_tries (fd := 97) Tryz.func71 rfl Tryz.ntmps71 Tryz.results71 fun _ => ?_)) | refine nzo ?_ | refine nc ?_ ?_ | (with_reducible intro _ <;> (try (exfalso; omega))) | refine nnil ?_ | (refine nd ?_ ?_ <;> intro hg <;> first | exact xo hg | rw [hg]) | refine vdf_of Tryz.func97 rfl Tryz.ntmps97 Tryz.results97 ?_)
    all_goals first | (simp only [leR, bsD, byD, List.map_nil]; infer_instance) | (exfalso; simp_all; fail_if_success (focus skip)) | trace_state
  | true =>
    have c := layOp_ok [] o hv hl (by simp)
    simp only [if_true]
    rw [List.nil_append] at c
    generalize opBy o = L at *
    simp only [oD, oDf] at *
    refine vp_of Tryz.func13 rfl Tryz.ntmps13 rfl Tryz.results13 fun B => ?_
    repeat' (first | refine nz1 ?_ | (refine vid ?_; first | refine vs_vm [(2, none)] c ?_ | refine vs_vc (hc := vc_of Tryz.func31 rfl Tryz.ntmps31 Tryz.results31 fun _ => ?_) | refine vs_vc (hc := vc_of Tryz.func72 rfl Tryz.ntmps72 Tryz.results72 fun _ => ?_) | refine vs_vc (hc := vc_of Tryz.func44 rfl Tryz.ntmps44 Tryz.results44 fun _ => ?_) | refine vs_vc (hc := vc_tries (fd := 97) Tryz.func71 rfl Tryz.ntmps71 Tryz.results71 fun _ => ?_)) | refine nzo ?_ | refine nc ?_ ?_ | (with_reducible intro _ <;> (try (exfalso; omega))) | refine nnil ?_ | (refine nd ?_ ?_ <;> intro hg <;> first | exact xo hg | rw [hg]) | refine vdf_of Tryz.func97 rfl Tryz.ntmps97 Tryz.results97 ?_)
    all_goals first | (simp only [leR, bsD, byD]; infer_instance) | (exfalso; simp_all; fail_if_success (focus skip)) | trace_state
abbrev opsD (l : List Opp) : D := .sl false false (l.map oD)
theorem opsD_len (l : List Opp) : (l.map oD).length = l.length := List.length_map _
instance dlss_ops (l : List Opp) : DLss (l.map oD) (l.map oD) := dlss_map l _ _ (fun _ => inferInstance) (fun _ => rfl)
theorem op_sz (l : List Opp) : ∀ x ∈ l.map oD, x.length = 19 := fun x hx => by
  obtain ⟨y, _, rfl⟩ := List.mem_map.1 hx; rfl
theorem size_v (o : Opp) (hl : o.px.length ≤ 1000000) : VP Tryz.prog 15 [.agg (oD o)] (· = .ret (i64D (if opB o then opBy o else []).length)) := by
  have c := opC_v o hl
  have hb := byD_len (if opB o then opBy o else [])
  generalize (if opB o then opBy o else []) = L at *
  generalize (if opB o then (0 : Int) else 220) = e at *
  simp only [oD, oDf] at *
  refine vp_of Tryz.func15 rfl Tryz.ntmps15 rfl Tryz.results15 fun B => ?_
  repeat' (first | refine nz1 ?_ | (refine vid ?_; first | refine cz (c) ?_) | refine nzo ?_ | refine nc ?_ ?_ | (with_reducible intro _ <;> (try (exfalso; omega))) | refine nnil ?_ | (refine nd ?_ ?_ <;> intro hg <;> first | exact xo hg | rw [hg]))
  rw [hb]
theorem ops_len : ∀ (m : List Opp), (∀ o ∈ m, opB o = true) → (m.flatMap opBy).length ≤ 1000 * m.length
  | [], _ => by simp
  | o :: m, h => by
    have h1 := op_len (h o (by simp))
    have h2 := ops_len m fun p hp => h p (by simp [hp])
    simp only [List.flatMap_cons, List.length_append, List.length_cons]; omega
def opsE (l : List Opp) : List UInt8 × Int := if 64 < l.length then ([], 3) else if l.all opB then (opsBy l, 0) else ([], 220)
theorem opsC_v (l : List Opp) (hl : ∀ o ∈ l, o.px.length ≤ 1000000) : VP Tryz.prog 8 [opsD l] (· = .ret (.tup [bsD (opsE l).1, i64D (opsE l).2])) := by
  have hln := opsD_len l
  have hsz := op_sz l
  refine VP.le ?_
  by_cases h64 : 64 < l.length
  · rw [show opsE l = ([], 3) by rw [opsE, if_pos h64]]
    refine vp_of Tryz.func8 rfl Tryz.ntmps8 rfl Tryz.results8 fun B => ?_
    repeat' (first | refine nz1 ?_ | (refine vid ?_; first | (refine vq_l (cneed_ok 3) ?_; first | refine vs_call (cneed_ok 3) ?_ | refine vs_pan (cneed_no 3) ?_ | (refine vs_cifp (cneed_if _ 3) ?_ ?_ <;> intro _ <;> (try (exfalso; omega))) | (refine vs_cif (cneed_if _ 3) ?_ ?_ <;> intro _)) | refine vs_vc (hc := vc_of Tryz.func31 rfl Tryz.ntmps31 Tryz.results31 fun _ => ?_) | refine vs_vc (hc := vc_of Tryz.func72 rfl Tryz.ntmps72 Tryz.results72 fun _ => ?_) | refine vs_vc (hc := vc_of Tryz.func32 rfl Tryz.ntmps32 Tryz.results32 fun _ => ?_) | refine vs_vc (hc := vc_tries (fd := 97) Tryz.func71 rfl Tryz.ntmps71 Tryz.results71 fun _ => ?_)) | refine nzo ?_ | refine nc ?_ ?_ | (with_reducible intro _ <;> (try (exfalso; omega))) | refine nnil ?_ | (refine nd ?_ ?_ <;> intro hg <;> first | exact xo hg | rw [hg]) | refine vdf_of Tryz.func97 rfl Tryz.ntmps97 Tryz.results97 ?_)
    all_goals first | (simp only [leR, bsD, byD, List.map_nil]; infer_instance) | trace_state
  · have c1 := layNum_v [] 1 (l.map oD).length (by omega) (by omega) (by omega) (by simp)
    rw [List.nil_append, show ((1 : Nat) : Int) = 1 from rfl, Int.toNat_natCast] at c1
    have hb1 := layN_len 1 (l.map oD).length
    obtain ⟨B1, hB1⟩ : ∃ B, layN 1 (l.map oD).length = B := ⟨_, rfl⟩
    rw [hB1] at c1 hb1
    rw [hln] at hB1
    refine vp_of Tryz.func8 rfl Tryz.ntmps8 rfl Tryz.results8 fun B => ?_
    repeat' (first | refine nz1 ?_ | (refine vid ?_; first | (refine vq_l (cneed_ok 3) ?_; first | refine vs_call (cneed_ok 3) ?_ | refine vs_pan (cneed_no 3) ?_ | (refine vs_cifp (cneed_if _ 3) ?_ ?_ <;> intro _ <;> (try (exfalso; omega))) | (refine vs_cif (cneed_if _ 3) ?_ ?_ <;> intro _)) | refine vs_vm [(2, none)] c1 ?_ | refine vs_vc (hc := vc_of Tryz.func31 rfl Tryz.ntmps31 Tryz.results31 fun _ => ?_) | refine vs_vc (hc := vc_of Tryz.func72 rfl Tryz.ntmps72 Tryz.results72 fun _ => ?_) | refine vs_vc (hc := vc_of Tryz.func32 rfl Tryz.ntmps32 Tryz.results32 fun _ => ?_) | refine vs_vc (hc := vc_tries (fd := 97) Tryz.func71 rfl Tryz.ntmps71 Tryz.results71 fun _ => ?_)) | refine nzo ?_ | refine nc ?_ ?_ | (with_reducible intro _ <;> (try (exfalso; omega))) | refine nnil ?_ | (refine nd ?_ ?_ <;> intro hg <;> first | exact xo hg | rw [hg]) | refine vdf_of Tryz.func97 rfl Tryz.ntmps97 Tryz.results97 ?_)
    refine vw_each 17 l oD (fun (i : Nat) (_ : Unit) => ⟨[(19, I .i64 i), (18, I .i64 (l.map oD).length), (17, .d (opsD l)), (3, .fn (.func 35) [.ptr 2 0] [])],
          [.c 2 0 [.d (bsD (B1 ++ (l.take i).flatMap opBy))], .c 4 0 [.d (i64D 0)], .c 3 0 [.ptr 2 0], .c 1 0 [.fn (.func 32) [] [.ptr 0 0]], .c 0 0 [.d (opsD l)]], 5⟩) (fun i _ => (∀ o ∈ l.take i, opB o = true)) () (by rw [List.take_zero, List.flatMap_nil, List.append_nil]; exact (sub_z)) (by simp) (fun i y x hT hi hx hx' hlt hlm hlen hdr => ?_) (fun y hT hlt hlm => ?_)
    · have hxl := hl x (List.mem_of_getElem? hx)
      have htk : l.take (i + 1) = l.take i ++ [x] := by rw [List.take_add_one, hx]; rfl
      have hbl : (B1 ++ (l.take i).flatMap opBy).length ≤ 1000000 := by
        have := ops_len _ hT
        rw [List.length_append, hb1]
        have h2 : (l.take i).length ≤ i := by simp; omega
        omega
      have hfm : (l.take (i + 1)).flatMap opBy = (l.take i).flatMap opBy ++ opBy x := by rw [htk]; simp
      cases hv : opB x with
      | false =>
        have c := layOp_no (B1 ++ (l.take i).flatMap opBy) x hv hxl
        rw [show opsE l = ([], 220) by
          rw [opsE, if_neg h64, if_neg]
          intro h
          rw [List.all_eq_true] at h
          rw [h x (List.mem_of_getElem? hx)] at hv; cases hv]
        repeat' (first | refine nz1 ?_ | (refine vid ?_; first | refine vs_vm [(2, none)] c ?_) | refine nzo ?_ | refine nc ?_ ?_ | (with_reducible intro _ <;> (try (exfalso; omega))) | refine nnil ?_ | (refine nd ?_ ?_ <;> intro hg <;> first | exact xo hg | rw [hg]) | refine vdf_of Tryz.func97 rfl Tryz.ntmps97 Tryz.results97 ?_)
        all_goals first | (simp only [leR, bsD, byD, List.map_nil]; infer_instance) | (exfalso; simp_all; fail_if_success (focus skip)) | trace_state
      | true =>
        have c := layOp_ok (B1 ++ (l.take i).flatMap opBy) x hv hxl (by omega)
        repeat' (first | refine nz1 ?_ | (refine vid ?_; first | refine vs_vm [(2, none)] c ?_) | refine nzo ?_ | refine nc ?_ ?_ | (with_reducible intro _ <;> (try (exfalso; omega))) | refine nnil ?_ | (refine nd ?_ ?_ <;> intro hg <;> first | exact xo hg | rw [hg]) | refine vdf_of Tryz.func97 rfl Tryz.ntmps97 Tryz.results97 ?_)
        refine nx_each () hi ?_ ?_
        · rw [htk]; intro o ho
          rcases List.mem_append.1 ho with ho | ho
          · exact hT o ho
          · simp at ho; rw [ho]; exact hv
        · rw [hfm, ← List.append_assoc]
          exact (sub_z)
    · rw [List.take_of_length_le (Nat.le_refl _)] at hT ⊢
      rw [show opsE l = (opsBy l, 0) by rw [opsE, if_neg h64, if_pos (by rw [List.all_eq_true]; exact hT)], opsBy, hB1]
      repeat' (first | refine nz1 ?_ | refine nzo ?_ | refine nc ?_ ?_ | (with_reducible intro _ <;> (try (exfalso; omega))) | refine nnil ?_ | (refine nd ?_ ?_ <;> intro hg <;> first | exact xo hg | rw [hg]) | refine vdf_of Tryz.func97 rfl Tryz.ntmps97 Tryz.results97 ?_)
      all_goals first | (simp only [leR]; infer_instance) | (exfalso; simp_all; fail_if_success (focus skip)) | trace_state
end Go.Proofs.YtnjaohdadaifhaaGreat

namespace Go.Proofs.YtnjaohdadaifhaaGreat
set_option maxRecDepth 20000
open Go.RowKit
def I64 (n : Int) : Prop := -9223372036854775808 ≤ n ∧ n ≤ 9223372036854775807
def U64 (n : Int) : Prop := 0 ≤ n ∧ n ≤ 18446744073709551615
theorem opn_int : Opn Tryz.prog 3 I64 (fun n => [.lit (.int .i64 n)]) := Opn.i64 Tryz.underlying3 (by kernel_rfl)
theorem opn_u64 : Opn Tryz.prog 33 U64 (fun n => [.lit (.int .u64 n)]) := (Opn.int Tryz.underlying33 (by kernel_rfl)).map (fun y h => ⟨y, by have := bounds_u64 h; exact this, rfl⟩) (fun _ _ => by rw [show Tryz.prog.cellsOf 33 = 1 by kernel_rfl]; rfl)
theorem opn_u8 : Opn Tryz.prog 5 (fun _ : UInt8 => True) (fun y => [.lit (vb y)]) := Opn.u8 Tryz.underlying5 (by kernel_rfl)
theorem opn_by : Opn Tryz.prog 23 (fun b : List UInt8 => b.length ≤ 9223372036854775807) (fun b => [.sl false false (byD b)]) :=
  (Opn.slice opn_u8 Tryz.underlying23 (by rw [show Tryz.prog.cellsOf 5 = 1 by kernel_rfl]; omega) (by kernel_rfl)).map (fun y h => ⟨y, h.2, rfl⟩) (fun z hz => by rw [show Tryz.prog.cellsOf 23 = 1 by kernel_rfl]; rfl)
theorem opn_col : Opn Tryz.prog 37 (fun _ : Col => True) (fun c => [.lit (vb c.r), .lit (vb c.g), .lit (vb c.b), .lit (vb c.a)]) :=
  (Opn.struct (tot := 4) Tryz.underlying37 (by kernel_rfl) (OpnF.cons opn_u8 rfl (OpnF.cons opn_u8 (by kernel_rfl) (OpnF.cons opn_u8 (by kernel_rfl) (OpnF.cons opn_u8 (by kernel_rfl) (OpnF.nil (by kernel_rfl))))))).map
    (fun y _ => ⟨⟨y.1, y.2.1, y.2.2.1, y.2.2.2.1⟩, trivial, rfl⟩) (fun z hz => by rw [show Tryz.prog.cellsOf 37 = 4 by kernel_rfl]; rfl)
theorem opn_vc : Opn Tryz.prog 55 Vc.in vcD :=
  (Opn.array (n := 9) opn_u64 Tryz.underlying55 (by kernel_rfl)).map (fun y h => by
    obtain ⟨h1, h2⟩ := h
    match y, h1, h2 with
    | [a, b, c, d, e, f, g, i, j], _, h2 =>
      have q : ∀ x ∈ [a, b, c, d, e, f, g, i, j], ((x.toNat : Nat) : Int) = x := fun x hx => Int.toNat_of_nonneg (h2 x hx).1
      have r : ∀ x ∈ [a, b, c, d, e, f, g, i, j], x.toNat < 18446744073709551616 := fun x hx => by have := h2 x hx; unfold U64 at this; omega
      refine ⟨⟨a.toNat, b.toNat, c.toNat, d.toNat, e.toNat, f.toNat, g.toNat, i.toNat, j.toNat⟩, ⟨r a (by simp), r b (by simp), r c (by simp), r d (by simp), r e (by simp), r f (by simp), r g (by simp), r i (by simp), r j (by simp)⟩, ?_⟩
      simp only [vcD, u64D]
      rw [q a (by simp), q b (by simp), q c (by simp), q d (by simp), q e (by simp), q f (by simp), q g (by simp), q i (by simp), q j (by simp)]
      rfl) (fun z hz => by rw [show Tryz.prog.cellsOf 55 = 9 by kernel_rfl]; rfl)
theorem opn_id : Opn Tryz.prog 35 (fun _ : Idd => True) idD :=
  (Opn.struct (tot := 3) Tryz.underlying35 (by kernel_rfl) (OpnF.cons opn_u64 rfl (OpnF.cons opn_int (by kernel_rfl) (OpnF.cons opn_u64 (by kernel_rfl) (OpnF.nil (by kernel_rfl)))))).map
    (fun y h => ⟨⟨y.1.toNat, y.2.1, y.2.2.1.toNat⟩, trivial, by
      have q1 : ((y.1.toNat : Nat) : Int) = y.1 := Int.toNat_of_nonneg h.1.1
      have q2 : ((y.2.2.1.toNat : Nat) : Int) = y.2.2.1 := Int.toNat_of_nonneg h.2.2.1.1
      simp only [idD, u64D]
      rw [q1, q2]
      rfl⟩) (fun z hz => by rw [show Tryz.prog.cellsOf 35 = 3 by kernel_rfl]; rfl)
theorem opn_ids : Opn Tryz.prog 61 (fun _ : List Idd => True) (fun l => [.sl false false (l.map idD)]) :=
  (Opn.slice opn_id Tryz.underlying61 (by rw [show Tryz.prog.cellsOf 35 = 3 by kernel_rfl]; omega) (by kernel_rfl)).map (fun y h => ⟨y, trivial, rfl⟩) (fun z hz => by rw [show Tryz.prog.cellsOf 61 = 1 by kernel_rfl]; rfl)
theorem opn_cols : Opn Tryz.prog 38 (fun _ : List Col => True) (fun l => [.sl false false (l.map colD)]) :=
  (Opn.slice opn_col Tryz.underlying38 (by rw [show Tryz.prog.cellsOf 37 = 4 by kernel_rfl]; omega) (by kernel_rfl)).map (fun y h => ⟨y, trivial, rfl⟩) (fun z hz => by rw [show Tryz.prog.cellsOf 38 = 1 by kernel_rfl]; rfl)
theorem opn_stamp : Opn Tryz.prog 40 (fun _ : Int × Int × List Col => True) (fun s => [i64D s.1, i64D s.2.1, .sl false false (s.2.2.map colD)]) :=
  (Opn.struct (tot := 3) Tryz.underlying40 (by kernel_rfl) (OpnF.cons opn_int rfl (OpnF.cons opn_int (by kernel_rfl) (OpnF.cons opn_cols (by kernel_rfl) (OpnF.nil (by kernel_rfl)))))).map
    (fun y h => ⟨⟨y.1, y.2.1, y.2.2.1⟩, trivial, rfl⟩) (fun z hz => by rw [show Tryz.prog.cellsOf 40 = 3 by kernel_rfl]; rfl)
theorem opn_op : Opn Tryz.prog 42 (fun _ : Opp => True) oD :=
  (Opn.struct (tot := 19) Tryz.underlying42 (by kernel_rfl) (OpnF.cons opn_id rfl (OpnF.cons opn_int (by kernel_rfl) (OpnF.cons opn_int (by kernel_rfl) (OpnF.cons opn_int (by kernel_rfl) (OpnF.cons opn_int (by kernel_rfl) (OpnF.cons opn_int (by kernel_rfl) (OpnF.cons opn_int (by kernel_rfl) (OpnF.cons opn_col (by kernel_rfl) (OpnF.cons opn_stamp (by kernel_rfl) (OpnF.cons opn_id (by kernel_rfl) (OpnF.nil (by kernel_rfl))))))))))))).map
    (fun y _ => ⟨⟨y.1, y.2.1, y.2.2.1, y.2.2.2.1, y.2.2.2.2.1, y.2.2.2.2.2.1, y.2.2.2.2.2.2.1, y.2.2.2.2.2.2.2.1, y.2.2.2.2.2.2.2.2.1.1, y.2.2.2.2.2.2.2.2.1.2.1, y.2.2.2.2.2.2.2.2.1.2.2, y.2.2.2.2.2.2.2.2.2.1⟩, trivial, rfl⟩) (fun z hz => by rw [show Tryz.prog.cellsOf 42 = 19 by kernel_rfl]; rfl)
theorem opn_ops : Opn Tryz.prog 22 (fun _ : List Opp => True) (fun l => [.sl false false (l.map oD)]) :=
  (Opn.slice opn_op Tryz.underlying22 (by rw [show Tryz.prog.cellsOf 42 = 19 by kernel_rfl]; omega) (by kernel_rfl)).map (fun y h => ⟨y, trivial, rfl⟩) (fun z hz => by rw [show Tryz.prog.cellsOf 22 = 1 by kernel_rfl]; rfl)
end Go.Proofs.YtnjaohdadaifhaaGreat
