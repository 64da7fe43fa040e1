/- Walks by data and names, part 39: Layer 21, by V: codec's vectors. How long a canvas's bytes are. Layer 21, by V: the bytes of snapshots. -/
import Derived.Test.YtkjpcjccddggoaaGreatQk38
import Derived.Test.YtkjpcjccddggoaaGreatQk32
namespace Go.Proofs.YtkjpcjccddggoaaGreat
open Go.RowKit
set_option maxRecDepth 10000
set_option maxHeartbeats 4000000
theorem cneed_ok (e : Int) : VP Tryz.prog 108 [.lit (.bool true), i64D e] (· = .ret (.tup [])) := by
  refine vp_of Tryz.func108 rfl Tryz.ntmps108 rfl Tryz.results108 fun B => ?_
  repeat' (first | fail | fail | refine nzl ?_ | refine nzd ?_ | ((first | with_reducible refine vl_id ?_ | with_reducible refine vd_id ?_); first | fail) | refine nzo ?_ | refine nc ?_ ?_ | (with_reducible intro _ <;> (try (exfalso; omega))) | refine vs_eqnil ?_ | refine vs_nenil ?_ | (refine nd ?_ ?_ <;> intro hg <;> (first | (exfalso; (try simp only [decide_eq_true_eq, decide_eq_false_iff_not] at hg); omega) | rw [hg])) | fail)
  all_goals rfl
theorem cneed_no (e : Int) : VP Tryz.prog 108 [.lit (.bool false), i64D e] (· = .panic (errD e)) := by
  refine vp_of Tryz.func108 rfl Tryz.ntmps108 rfl Tryz.results108 fun B => ?_
  repeat' (first | fail | fail | refine nzl ?_ | refine nzd ?_ | ((first | with_reducible refine vl_id ?_ | with_reducible refine vd_id ?_); first | fail) | refine nzo ?_ | refine nc ?_ ?_ | (with_reducible intro _ <;> (try (exfalso; omega))) | refine vs_eqnil ?_ | refine vs_nenil ?_ | (refine nd ?_ ?_ <;> intro hg <;> (first | (exfalso; (try simp only [decide_eq_true_eq, decide_eq_false_iff_not] at hg); omega) | rw [hg])) | fail)
  all_goals rfl
theorem cneed_if (c : Bool) (e : Int) : VP Tryz.prog 108 [.lit (.bool c), i64D e] (· = if c then .ret (.tup []) else .panic (errD e)) := by
  cases c with
  | true => exact cneed_ok e
  | false => exact cneed_no e
theorem vectorC_v (v : Vc) (h : v.in) : VP Tryz.prog 70 [.agg (vcD v)] (· = .ret (.tup [.sl false true (byD (if vcB v then vcBy v else [])), i64D (if vcB v then 0 else 230)])) := by
  obtain ⟨h0, h1, h2, h3, h4, h5, h6, h7, h8⟩ := h
  have cc := vcheck_v v
  refine VP.le ?_
  cases hv : vcB v with
  | false =>
    rw [hv] at cc
    simp only [Bool.false_eq_true, if_false] at cc ⊢
    refine vp_of Tryz.func70 rfl Tryz.ntmps70 rfl Tryz.results70 fun B => ?_
    repeat' (first | fail | fail | refine nzl ?_ | refine nzd ?_ | ((first | with_reducible refine vl_id ?_ | with_reducible refine vd_id ?_); first | refine cz (cc) ?_ | (refine vq_l (cneed_ok 230) ?_; first | refine vs_call (cneed_ok 230) ?_ | refine vs_pan (cneed_no 230) ?_ | (refine vs_cifp (cneed_if _ 230) ?_ ?_ <;> intro _ <;> (try (exfalso; omega))) | (refine vs_cif (cneed_if _ 230) ?_ ?_ <;> intro _)) | refine vs_vc (hc := vc_of Tryz.func106 rfl Tryz.ntmps106 Tryz.results106 fun _ => ?_) | refine vs_vc (hc := vc_of Tryz.func134 rfl Tryz.ntmps134 Tryz.results134 fun _ => ?_) | refine vs_vc (hc := vc_of Tryz.func107 rfl Tryz.ntmps107 Tryz.results107 fun _ => ?_) | refine vs_vc (hc := vc_tries (fd := 150) Tryz.func133 rfl Tryz.ntmps133 Tryz.results133 fun _ => ?_)) | refine nzo ?_ | refine nc ?_ ?_ | (with_reducible intro _ <;> (try (exfalso; omega))) | refine vs_eqnil ?_ | refine vs_nenil ?_ | (refine nd ?_ ?_ <;> intro hg <;> (first | (exfalso; (try simp only [decide_eq_true_eq, decide_eq_false_iff_not] at hg); omega) | rw [hg])) | refine vdf_of Tryz.func150 rfl Tryz.ntmps150 Tryz.results150 ?_)
    all_goals (simp only [byD, List.map_nil, leR]; infer_instance)
  | true =>
    rw [hv] at cc
    simp only [if_true] at cc ⊢
    have c1 := put_v [] 8 v.n1 (by omega) (by simpa using h1) (by simp)
    have c2 := put_v ([] ++ layN 8 v.n1) 8 v.n2 (by omega) (by simpa using h2) (by simp [layN_len])
    have c3 := put_v ([] ++ layN 8 v.n1 ++ layN 8 v.n2) 8 v.n3 (by omega) (by simpa using h3) (by simp [layN_len])
    have c4 := put_v ([] ++ layN 8 v.n1 ++ layN 8 v.n2 ++ layN 8 v.n3) 8 v.n4 (by omega) (by simpa using h4) (by simp [layN_len])
    have c5 := put_v ([] ++ layN 8 v.n1 ++ layN 8 v.n2 ++ layN 8 v.n3 ++ layN 8 v.n4) 8 v.n5 (by omega) (by simpa using h5) (by simp [layN_len])
    have c6 := put_v ([] ++ layN 8 v.n1 ++ layN 8 v.n2 ++ layN 8 v.n3 ++ layN 8 v.n4 ++ layN 8 v.n5) 8 v.n6 (by omega) (by simpa using h6) (by simp [layN_len])
    have c7 := put_v ([] ++ layN 8 v.n1 ++ layN 8 v.n2 ++ layN 8 v.n3 ++ layN 8 v.n4 ++ layN 8 v.n5 ++ layN 8 v.n6) 8 v.n7 (by omega) (by simpa using h7) (by simp [layN_len])
    have c8 := put_v ([] ++ layN 8 v.n1 ++ layN 8 v.n2 ++ layN 8 v.n3 ++ layN 8 v.n4 ++ layN 8 v.n5 ++ layN 8 v.n6 ++ layN 8 v.n7) 8 v.n8 (by omega) (by simpa using h8) (by simp [layN_len])
    simp only [bsD, show byD ([] : List UInt8) = [] from rfl] at c1
    rw [show ((8 : Nat) : Int) = 8 from rfl] at c1 c2 c3 c4 c5 c6 c7 c8
    simp only [vcBy]
    generalize layN 8 v.n1 = L1 at *
    generalize layN 8 v.n2 = L2 at *
    generalize layN 8 v.n3 = L3 at *
    generalize layN 8 v.n4 = L4 at *
    generalize layN 8 v.n5 = L5 at *
    generalize layN 8 v.n6 = L6 at *
    generalize layN 8 v.n7 = L7 at *
    generalize layN 8 v.n8 = L8 at *
    refine vp_of Tryz.func70 rfl Tryz.ntmps70 rfl Tryz.results70 fun B => ?_
    repeat' (first | fail | fail | refine nzl ?_ | refine nzd ?_ | ((first | with_reducible refine vl_id ?_ | with_reducible refine vd_id ?_); first | refine cz (cc) ?_ | (refine vq_l (cneed_ok 230) ?_; first | refine vs_call (cneed_ok 230) ?_ | refine vs_pan (cneed_no 230) ?_ | (refine vs_cifp (cneed_if _ 230) ?_ ?_ <;> intro _ <;> (try (exfalso; omega))) | (refine vs_cif (cneed_if _ 230) ?_ ?_ <;> intro _)) | refine vs_vc (hc := vc_of Tryz.func106 rfl Tryz.ntmps106 Tryz.results106 fun _ => ?_) | refine vs_vc (hc := vc_of Tryz.func134 rfl Tryz.ntmps134 Tryz.results134 fun _ => ?_) | refine vs_vc (hc := vc_of Tryz.func107 rfl Tryz.ntmps107 Tryz.results107 fun _ => ?_) | refine vs_slicelo ?_ | refine vs_lensv ?_ | refine vs_vc (hc := vc_tries (fd := 150) Tryz.func133 rfl Tryz.ntmps133 Tryz.results133 fun _ => ?_)) | refine nzo ?_ | refine nc ?_ ?_ | (with_reducible intro _ <;> (try (exfalso; omega))) | refine vs_eqnil ?_ | refine vs_nenil ?_ | (refine nd ?_ ?_ <;> intro hg <;> (first | (exfalso; (try simp only [decide_eq_true_eq, decide_eq_false_iff_not] at hg); omega) | rw [hg])) | refine vdf_of Tryz.func150 rfl Tryz.ntmps150 Tryz.results150 ?_)
    refine vw_rounds 9 ?_
    repeat' (first | fail | fail | refine nzl ?_ | refine nzd ?_ | ((first | with_reducible refine vl_id ?_ | with_reducible refine vd_id ?_); first | refine vs_idxsv ?_ | refine vs_vc (hc := vc_of Tryz.func109 rfl Tryz.ntmps109 Tryz.results109 fun _ => ?_) | refine cz (c1) ?_ | refine cz (c2) ?_ | refine cz (c3) ?_ | refine cz (c4) ?_ | refine cz (c5) ?_ | refine cz (c6) ?_ | refine cz (c7) ?_ | refine cz (c8) ?_ | (refine vq_l (cneed_ok 0) ?_; first | refine vs_call (cneed_ok 0) ?_ | refine vs_pan (cneed_no 0) ?_ | (refine vs_cifp (cneed_if _ 0) ?_ ?_ <;> intro _ <;> (try (exfalso; omega))) | (refine vs_cif (cneed_if _ 0) ?_ ?_ <;> intro _))) | refine nzo ?_ | refine nc ?_ ?_ | (with_reducible intro _ <;> (try (exfalso; omega))) | refine vs_eqnil ?_ | refine vs_nenil ?_ | (refine nd ?_ ?_ <;> intro hg <;> (first | (exfalso; (try simp only [decide_eq_true_eq, decide_eq_false_iff_not] at hg); omega) | rw [hg])) | refine vdf_of Tryz.func150 rfl Tryz.ntmps150 Tryz.results150 ?_)
    have hv : byD ([] ++ L1 ++ L2 ++ L3 ++ L4 ++ L5 ++ L6 ++ L7 ++ L8) = byD (L1 ++ L2 ++ L3 ++ L4 ++ L5 ++ L6 ++ L7 ++ L8) := by rw [List.nil_append]
    rw [hv]
    exact de_refl _
end Go.Proofs.YtkjpcjccddggoaaGreat

namespace Go.Proofs.YtkjpcjccddggoaaGreat
theorem canvasB_le (a b : Nat) (L : List (List Col)) (hL : All64 L) : (canvasB a b L).length ≤ 2 + 325 * L.length := by
  unfold canvasB headB
  have := bodyB_len (aheadZ L) L hL 0
  simp
  omega
end Go.Proofs.YtkjpcjccddggoaaGreat

namespace Go.Proofs.YtkjpcjccddggoaaGreat
open Go.RowKit
set_option maxRecDepth 10000
set_option maxHeartbeats 4000000
def snBy (s : Sn) : List UInt8 := layN 8 s.f ++ layN 8 s.s ++ vcBy s.v ++ canvasB s.c.x.toNat s.c.y.toNat s.c.L
theorem snB_in {s : Sn} (h : snB s = true) : cvB s.c = true ∧ s.f ≤ s.s ∧ s.s ≤ 4611686018427387904 ∧ vcB s.v = true := by
  simpa [snB, and_assoc] using h
theorem vcB_in {v : Vc} (h : vcB v = true) : v.in := by
  obtain ⟨h0, h1, h2, h3, h4, h5, h6, h7, h8⟩ := (vcB_iff v).1 h
  exact ⟨by omega, by omega, by omega, by omega, by omega, by omega, by omega, by omega, by omega⟩
theorem snbytes_v (s : Sn) (h : All64 s.c.L) (hl : s.c.L.length ≤ 1000) : VP Tryz.prog 21 [.agg (snD s)] (· = .ret (.tup [.sl false true (byD (if snB s then snBy s else [])), i64D (if snB s then 0 else 310)])) := by
  have ck := sncheck_v s h
  refine VP.le ?_
  cases hb : snB s with
  | false =>
    rw [hb] at ck
    simp only [snD, Bool.false_eq_true, if_false] at ck ⊢
    refine vp_of Tryz.func21 rfl Tryz.ntmps21 rfl Tryz.results21 fun B => ?_
    repeat' (first | fail | fail | refine nzl ?_ | refine nzd ?_ | ((first | with_reducible refine vl_id ?_ | with_reducible refine vd_id ?_); first | refine cz (ck) ?_ | (refine vq_l (need_ok 310) ?_; first | refine vs_call (need_ok 310) ?_ | refine vs_pan (need_no 310) ?_ | (refine vs_cifp (need_if _ 310) ?_ ?_ <;> intro _ <;> (try (exfalso; omega))) | (refine vs_cif (need_if _ 310) ?_ ?_ <;> intro _)) | refine vs_vc (hc := vc_of Tryz.func67 rfl Tryz.ntmps67 Tryz.results67 fun _ => ?_) | refine vs_vc (hc := vc_tries (fd := 100) Tryz.func66 rfl Tryz.ntmps66 Tryz.results66 fun _ => ?_)) | refine nzo ?_ | refine nc ?_ ?_ | (with_reducible intro _ <;> (try (exfalso; omega))) | refine vs_eqnil ?_ | refine vs_nenil ?_ | (refine nd ?_ ?_ <;> intro hg <;> (first | (exfalso; (try simp only [decide_eq_true_eq, decide_eq_false_iff_not] at hg); omega) | rw [hg])) | refine vdf_of Tryz.func100 rfl Tryz.ntmps100 Tryz.results100 ?_)
    all_goals first | (simp only [byD, List.map_nil, leR]; infer_instance) | trace_state
  | true =>
    obtain ⟨h1, h2, h3, h4⟩ := snB_in hb
    have hvi := vcB_in h4
    have c1 := lay2_v s.f s.s (by omega) (by omega)
    have c2 := vectorC_v s.v hvi
    have c3 := canvas_v s.c h hl
    have hcl := canvasB_le s.c.x.toNat s.c.y.toNat s.c.L h
    have hvl : (vcBy s.v).length = 64 := by simp [vcBy, layN_len]
    have hll : (layN 8 s.f ++ layN 8 s.s).length = 16 := by simp [layN_len]
    rw [h4] at c2
    rw [h1] at c3
    rw [hb] at ck
    simp only [if_true, snBy] at *
    generalize layN 8 s.f ++ layN 8 s.s = L1 at *
    generalize vcBy s.v = L2 at *
    generalize canvasB s.c.x.toNat s.c.y.toNat s.c.L = L3 at *
    have c4 := concat_v [L1, L2, L3] (by simp [sumL]; omega)
    simp only [List.map_cons, List.map_nil, List.flatten_cons, List.flatten_nil, List.append_nil, snD, cvD, vcD] at *
    rw [← List.append_assoc] at c4
    refine vp_of Tryz.func21 rfl Tryz.ntmps21 rfl Tryz.results21 fun B => ?_
    repeat' (first | refine vs_bsd ?_ | fail | refine nzl ?_ | refine nzd ?_ | ((first | with_reducible refine vl_id ?_ | with_reducible refine vd_id ?_); first | refine cz (ck) ?_ | refine cz (c1) ?_ | refine cz (c2) ?_ | refine cz (c3) ?_ | refine cz (c4) ?_ | (refine vq_l (need_ok 310) ?_; first | refine vs_call (need_ok 310) ?_ | refine vs_pan (need_no 310) ?_ | (refine vs_cifp (need_if _ 310) ?_ ?_ <;> intro _ <;> (try (exfalso; omega))) | (refine vs_cif (need_if _ 310) ?_ ?_ <;> intro _)) | (refine vq_l (need_ok 0) ?_; first | refine vs_call (need_ok 0) ?_ | refine vs_pan (need_no 0) ?_ | (refine vs_cifp (need_if _ 0) ?_ ?_ <;> intro _ <;> (try (exfalso; omega))) | (refine vs_cif (need_if _ 0) ?_ ?_ <;> intro _)) | refine vs_vc (hc := vc_of Tryz.func67 rfl Tryz.ntmps67 Tryz.results67 fun _ => ?_) | refine vs_vc (hc := vc_tries (fd := 100) Tryz.func66 rfl Tryz.ntmps66 Tryz.results66 fun _ => ?_)) | refine nzo ?_ | refine nc ?_ ?_ | (with_reducible intro _ <;> (try (exfalso; omega))) | refine vs_eqnil ?_ | refine vs_nenil ?_ | (refine nd ?_ ?_ <;> intro hg <;> (first | (exfalso; (try simp only [decide_eq_true_eq, decide_eq_false_iff_not] at hg); omega) | rw [hg])) | refine vdf_of Tryz.func100 rfl Tryz.ntmps100 Tryz.results100 ?_)
    all_goals first | exact de_refl _ | trace_state
end Go.Proofs.YtkjpcjccddggoaaGreat
