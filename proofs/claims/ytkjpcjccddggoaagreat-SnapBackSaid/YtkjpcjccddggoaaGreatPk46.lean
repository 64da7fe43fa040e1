/- Walks by data and names, part 46: Layer 21: canvases of bytes, from the contracts of layer 10, as contracts over data. Layer 21, by V: codec's vectors. How long a canvas's bytes are. -/
import Derived.Test.YtkjpcjccddggoaaGreatPk40
import Derived.Test.YtkjpcjccddggoaaGreatPk39
import Derived.Test.YtkjpcjccddggoaaGreatPk45
import Derived.Test.YtkjpcjccddggoaaGreatPk43
import Derived.Test.YtkjpcjccddggoaaGreatPk36
import Derived.Test.YtkjpcjccddggoaaGreatPk44
namespace Go.Proofs.YtkjpcjccddggoaaGreat
open Go.RowKit
set_option maxRecDepth 10000
set_option maxHeartbeats 4000000
abbrev nilV : D := .lit (.slice none 0 0)
/-- what is read of bytes: the canvas, how many bytes, the error -/
def rdCv (b : List UInt8) : List D × Int × Int := match readCan b with
  | some (x, y, A, k) => ([i64D x, i64D y, .sl false true (A.map tlD)], k, 0)
  | none => ([i64D 0, i64D 0, nilV], 0, 200)
theorem refcanvas_v (x y : Nat) (L : List (List Col)) (h : All64 L) (hx : x ≤ 4) (hy : y ≤ 4) (hl : L.length ≤ 1000) : VP Tryz.prog 74 [.agg [i64D x, i64D y, .sl false false (L.map tlD)]] (· = .ret (.sl false true (byD (canvasB x y L)))) := by
  refine vp_bridge (callFunc_run Tryz.func74 (by kernel_rfl) rfl) fun U w us hu => ?_
  obtain ⟨v, rfl, hv⟩ := cv_arg (c := ⟨x, y, L⟩) h hu
  refine (refcanvas_any x y v L w hx hy hv hl).mono ?_
  rintro e w' ⟨v', rfl, ho, hb⟩
  exact ⟨hb, _, rfl, own_bytes ho fun _ => .inr⟩
theorem readcan_v (b : List UInt8) : VP Tryz.prog 79 [bsD b] (· = .ret (.tup [.agg (rdCv b).1, i64D (rdCv b).2.1, i64D (rdCv b).2.2])) := by
  refine vp_bridge (callFunc_run Tryz.func79 (by kernel_rfl) rfl) fun U w us hu => ?_
  simp only [dreps] at hu
  obtain ⟨u, _, rfl, h1, rfl⟩ := hu
  refine (readcan_any u b w (bytes_of h1)).mono ?_
  rintro e w' ⟨hb, hr⟩
  refine ⟨hb, ?_⟩
  unfold rdCv
  cases hc : readCan b with
  | none =>
    rw [hc] at hr
    simp only [CanRet] at hr
    subst hr
    exact ⟨_, rfl, by simp only [drep, dreps]; exact ⟨_, rfl, _, _, rfl, ⟨_, rfl, _, _, rfl, rfl, _, _, rfl, rfl, _, _, rfl, rfl, rfl⟩, _, _, rfl, rfl, _, _, rfl, rfl, rfl⟩⟩
  | some z =>
    obtain ⟨x, y, A, k⟩ := z
    rw [hc] at hr
    simp only [CanRet] at hr
    obtain ⟨tl, rfl, ho⟩ := hr
    have := own_tiles ho (U := fun b => U b ∨ w.heap.size ≤ b) fun _ => .inr
    refine ⟨_, rfl, ?_⟩
    simp only [drep, dreps] at this ⊢
    exact ⟨_, rfl, _, _, rfl, ⟨_, rfl, _, _, rfl, rfl, _, _, rfl, rfl, _, _, rfl, this, rfl⟩, _, _, rfl, rfl, _, _, rfl, rfl, rfl⟩
theorem refreadcan_v (b : List UInt8) (hl : b.length ≤ 100000) : VP Tryz.prog 82 [bsD b] (· = .ret (.tup [.agg (rdCv b).1, i64D (rdCv b).2.1])) := by
  refine vp_bridge (callFunc_run Tryz.func82 (by kernel_rfl) rfl) fun U w us hu => ?_
  simp only [dreps] at hu
  obtain ⟨u, _, rfl, h1, rfl⟩ := hu
  refine (refreadcan_any u b w (bytes_of h1) hl).mono ?_
  rintro e w' ⟨hb, hr⟩
  refine ⟨hb, ?_⟩
  unfold rdCv
  cases hc : readCan b with
  | none =>
    rw [hc] at hr
    simp only [RefCan] at hr
    subst hr
    exact ⟨_, rfl, by simp only [drep, dreps]; exact ⟨_, rfl, _, _, rfl, ⟨_, rfl, _, _, rfl, rfl, _, _, rfl, rfl, _, _, rfl, rfl, rfl⟩, _, _, rfl, rfl, rfl⟩⟩
  | some z =>
    obtain ⟨x, y, A, k⟩ := z
    rw [hc] at hr
    simp only [RefCan] at hr
    obtain ⟨a, c, rfl, ho⟩ := hr
    have := own_tiles ho (U := fun b => U b ∨ w.heap.size ≤ b) fun _ => .inr
    refine ⟨_, rfl, ?_⟩
    simp only [drep, dreps] at this ⊢
    exact ⟨_, rfl, _, _, rfl, ⟨_, rfl, _, _, rfl, rfl, _, _, rfl, rfl, _, _, rfl, this, rfl⟩, _, _, rfl, rfl, rfl⟩
end Go.Proofs.YtkjpcjccddggoaaGreat

namespace Go.Proofs.YtkjpcjccddggoaaGreat
open Go.RowKit
set_option maxRecDepth 10000
set_option maxHeartbeats 4000000
theorem cneed_ok (e : Int) : VP Tryz.prog 108 [.lit (.bool true), i64D e] (· = .ret (.tup [])) := by
  refine vp_of Tryz.func108 rfl Tryz.ntmps108 rfl Tryz.results108 fun B => ?_
  repeat' (first | fail | fail | refine nzl ?_ | refine nzd ?_ | ((first | with_reducible refine vl_id ?_ | with_reducible refine vd_id ?_); first | fail) | refine nzo ?_ | refine nc ?_ ?_ | (with_reducible intro _ <;> (try (exfalso; omega))) | refine vs_eqnil ?_ | refine vs_nenil ?_ | (refine nd ?_ ?_ <;> intro hg <;> (first | (exfalso; (try simp only [decide_eq_true_eq, decide_eq_false_iff_not] at hg); omega) | rw [hg])) | fail)
  all_goals rfl
theorem cneed_no (e : Int) : VP Tryz.prog 108 [.lit (.bool false), i64D e] (· = .panic (errD e)) := by
  refine vp_of Tryz.func108 rfl Tryz.ntmps108 rfl Tryz.results108 fun B => ?_
  repeat' (first | fail | fail | refine nzl ?_ | refine nzd ?_ | ((first | with_reducible refine vl_id ?_ | with_reducible refine vd_id ?_); first | fail) | refine nzo ?_ | refine nc ?_ ?_ | (with_reducible intro _ <;> (try (exfalso; omega))) | refine vs_eqnil ?_ | refine vs_nenil ?_ | (refine nd ?_ ?_ <;> intro hg <;> (first | (exfalso; (try simp only [decide_eq_true_eq, decide_eq_false_iff_not] at hg); omega) | rw [hg])) | fail)
  all_goals rfl
theorem cneed_if (c : Bool) (e : Int) : VP Tryz.prog 108 [.lit (.bool c), i64D e] (· = if c then .ret (.tup []) else .panic (errD e)) := by
  cases c with
  | true => exact cneed_ok e
  | false => exact cneed_no e
theorem vectorC_v (v : Vc) (h : v.in) : VP Tryz.prog 70 [.agg (vcD v)] (· = .ret (.tup [.sl false true (byD (if vcB v then vcBy v else [])), i64D (if vcB v then 0 else 230)])) := by
  obtain ⟨h0, h1, h2, h3, h4, h5, h6, h7, h8⟩ := h
  have cc := vcheck_v v
  refine VP.le ?_
  cases hv : vcB v with
  | false =>
    rw [hv] at cc
    simp only [Bool.false_eq_true, if_false] at cc ⊢
    refine vp_of Tryz.func70 rfl Tryz.ntmps70 rfl Tryz.results70 fun B => ?_
    repeat' (first | fail | fail | refine nzl ?_ | refine nzd ?_ | ((first | with_reducible refine vl_id ?_ | with_reducible refine vd_id ?_); first | refine cz (cc) ?_ | (refine vq_l (cneed_ok 230) ?_; first | refine vs_call (cneed_ok 230) ?_ | refine vs_pan (cneed_no 230) ?_ | (refine vs_cifp (cneed_if _ 230) ?_ ?_ <;> intro _ <;> (try (exfalso; omega))) | (refine vs_cif (cneed_if _ 230) ?_ ?_ <;> intro _)) | refine vs_vc (hc := vc_of Tryz.func106 rfl Tryz.ntmps106 Tryz.results106 fun _ => ?_) | refine vs_vc (hc := vc_of Tryz.func134 rfl Tryz.ntmps134 Tryz.results134 fun _ => ?_) | refine vs_vc (hc := vc_of Tryz.func107 rfl Tryz.ntmps107 Tryz.results107 fun _ => ?_) | refine vs_vc (hc := vc_tries (fd := 150) Tryz.func133 rfl Tryz.ntmps133 Tryz.results133 fun _ => ?_)) | refine nzo ?_ | refine nc ?_ ?_ | (with_reducible intro _ <;> (try (exfalso; omega))) | refine vs_eqnil ?_ | refine vs_nenil ?_ | (refine nd ?_ ?_ <;> intro hg <;> (first | (exfalso; (try simp only [decide_eq_true_eq, decide_eq_false_iff_not] at hg); omega) | rw [hg])) | refine vdf_of Tryz.func150 rfl Tryz.ntmps150 Tryz.results150 ?_)
    all_goals (simp only [byD, List.map_nil, leR]; infer_instance)
  | true =>
    rw [hv] at cc
    simp only [if_true] at cc ⊢
    have c1 := put_v [] 8 v.n1 (by omega) (by simpa using h1) (by simp)
    have c2 := put_v ([] ++ layN 8 v.n1) 8 v.n2 (by omega) (by simpa using h2) (by simp [layN_len])
    have c3 := put_v ([] ++ layN 8 v.n1 ++ layN 8 v.n2) 8 v.n3 (by omega) (by simpa using h3) (by simp [layN_len])
    have c4 := put_v ([] ++ layN 8 v.n1 ++ layN 8 v.n2 ++ layN 8 v.n3) 8 v.n4 (by omega) (by simpa using h4) (by simp [layN_len])
    have c5 := put_v ([] ++ layN 8 v.n1 ++ layN 8 v.n2 ++ layN 8 v.n3 ++ layN 8 v.n4) 8 v.n5 (by omega) (by simpa using h5) (by simp [layN_len])
    have c6 := put_v ([] ++ layN 8 v.n1 ++ layN 8 v.n2 ++ layN 8 v.n3 ++ layN 8 v.n4 ++ layN 8 v.n5) 8 v.n6 (by omega) (by simpa using h6) (by simp [layN_len])
    have c7 := put_v ([] ++ layN 8 v.n1 ++ layN 8 v.n2 ++ layN 8 v.n3 ++ layN 8 v.n4 ++ layN 8 v.n5 ++ layN 8 v.n6) 8 v.n7 (by omega) (by simpa using h7) (by simp [layN_len])
    have c8 := put_v ([] ++ layN 8 v.n1 ++ layN 8 v.n2 ++ layN 8 v.n3 ++ layN 8 v.n4 ++ layN 8 v.n5 ++ layN 8 v.n6 ++ layN 8 v.n7) 8 v.n8 (by omega) (by simpa using h8) (by simp [layN_len])
    simp only [bsD, show byD ([] : List UInt8) = [] from rfl] at c1
    rw [show ((8 : Nat) : Int) = 8 from rfl] at c1 c2 c3 c4 c5 c6 c7 c8
    simp only [vcBy]
    generalize layN 8 v.n1 = L1 at *
    generalize layN 8 v.n2 = L2 at *
    generalize layN 8 v.n3 = L3 at *
    generalize layN 8 v.n4 = L4 at *
    generalize layN 8 v.n5 = L5 at *
    generalize layN 8 v.n6 = L6 at *
    generalize layN 8 v.n7 = L7 at *
    generalize layN 8 v.n8 = L8 at *
    refine vp_of Tryz.func70 rfl Tryz.ntmps70 rfl Tryz.results70 fun B => ?_
    repeat' (first | fail | fail | refine nzl ?_ | refine nzd ?_ | ((first | with_reducible refine vl_id ?_ | with_reducible refine vd_id ?_); first | refine cz (cc) ?_ | (refine vq_l (cneed_ok 230) ?_; first | refine vs_call (cneed_ok 230) ?_ | refine vs_pan (cneed_no 230) ?_ | (refine vs_cifp (cneed_if _ 230) ?_ ?_ <;> intro _ <;> (try (exfalso; omega))) | (refine vs_cif (cneed_if _ 230) ?_ ?_ <;> intro _)) | refine vs_vc (hc := vc_of Tryz.func106 rfl Tryz.ntmps106 Tryz.results106 fun _ => ?_) | refine vs_vc (hc := vc_of Tryz.func134 rfl Tryz.ntmps134 Tryz.results134 fun _ => ?_) | refine vs_vc (hc := vc_of Tryz.func107 rfl Tryz.ntmps107 Tryz.results107 fun _ => ?_) | refine vs_slicelo ?_ | refine vs_lensv ?_ | refine vs_vc (hc := vc_tries (fd := 150) Tryz.func133 rfl Tryz.ntmps133 Tryz.results133 fun _ => ?_)) | refine nzo ?_ | refine nc ?_ ?_ | (with_reducible intro _ <;> (try (exfalso; omega))) | refine vs_eqnil ?_ | refine vs_nenil ?_ | (refine nd ?_ ?_ <;> intro hg <;> (first | (exfalso; (try simp only [decide_eq_true_eq, decide_eq_false_iff_not] at hg); omega) | rw [hg])) | refine vdf_of Tryz.func150 rfl Tryz.ntmps150 Tryz.results150 ?_)
    refine vw_rounds 9 ?_
    repeat' (first | fail | fail | refine nzl ?_ | refine nzd ?_ | ((first | with_reducible refine vl_id ?_ | with_reducible refine vd_id ?_); first | refine vs_idxsv ?_ | refine vs_vc (hc := vc_of Tryz.func109 rfl Tryz.ntmps109 Tryz.results109 fun _ => ?_) | refine cz (c1) ?_ | refine cz (c2) ?_ | refine cz (c3) ?_ | refine cz (c4) ?_ | refine cz (c5) ?_ | refine cz (c6) ?_ | refine cz (c7) ?_ | refine cz (c8) ?_ | (refine vq_l (cneed_ok 0) ?_; first | refine vs_call (cneed_ok 0) ?_ | refine vs_pan (cneed_no 0) ?_ | (refine vs_cifp (cneed_if _ 0) ?_ ?_ <;> intro _ <;> (try (exfalso; omega))) | (refine vs_cif (cneed_if _ 0) ?_ ?_ <;> intro _))) | refine nzo ?_ | refine nc ?_ ?_ | (with_reducible intro _ <;> (try (exfalso; omega))) | refine vs_eqnil ?_ | refine vs_nenil ?_ | (refine nd ?_ ?_ <;> intro hg <;> (first | (exfalso; (try simp only [decide_eq_true_eq, decide_eq_false_iff_not] at hg); omega) | rw [hg])) | refine vdf_of Tryz.func150 rfl Tryz.ntmps150 Tryz.results150 ?_)
    have hv : byD ([] ++ L1 ++ L2 ++ L3 ++ L4 ++ L5 ++ L6 ++ L7 ++ L8) = byD (L1 ++ L2 ++ L3 ++ L4 ++ L5 ++ L6 ++ L7 ++ L8) := by rw [List.nil_append]
    rw [hv]
    exact de_refl _
end Go.Proofs.YtkjpcjccddggoaaGreat

namespace Go.Proofs.YtkjpcjccddggoaaGreat
theorem canvasB_le (a b : Nat) (L : List (List Col)) (hL : All64 L) : (canvasB a b L).length ≤ 2 + 325 * L.length := by
  unfold canvasB headB
  have := bodyB_len (aheadZ L) L hL 0
  simp
  omega
end Go.Proofs.YtkjpcjccddggoaaGreat

namespace Go.Proofs.YtkjpcjccddggoaaGreat
open Go.RowKit
set_option maxRecDepth 10000
set_option maxHeartbeats 4000000
def snBy (s : Sn) : List UInt8 := layN 8 s.f ++ layN 8 s.s ++ vcBy s.v ++ canvasB s.c.x.toNat s.c.y.toNat s.c.L
theorem snB_in {s : Sn} (h : snB s = true) : cvB s.c = true ∧ s.f ≤ s.s ∧ s.s ≤ 4611686018427387904 ∧ vcB s.v = true := by
  simpa [snB, and_assoc] using h
theorem vcB_in {v : Vc} (h : vcB v = true) : v.in := by
  obtain ⟨h0, h1, h2, h3, h4, h5, h6, h7, h8⟩ := (vcB_iff v).1 h
  exact ⟨by omega, by omega, by omega, by omega, by omega, by omega, by omega, by omega, by omega⟩
theorem snbytes_v (s : Sn) (h : All64 s.c.L) (hl : s.c.L.length ≤ 1000) : VP Tryz.prog 21 [.agg (snD s)] (· = .ret (.tup [.sl false true (byD (if snB s then snBy s else [])), i64D (if snB s then 0 else 310)])) := by
  have ck := sncheck_v s h
  refine VP.le ?_
  cases hb : snB s with
  | false =>
    rw [hb] at ck
    simp only [snD, Bool.false_eq_true, if_false] at ck ⊢
    refine vp_of Tryz.func21 rfl Tryz.ntmps21 rfl Tryz.results21 fun B => ?_
    repeat' (first | fail | fail | refine nzl ?_ | refine nzd ?_ | ((first | with_reducible refine vl_id ?_ | with_reducible refine vd_id ?_); first | refine cz (ck) ?_ | (refine vq_l (need_ok 310) ?_; first | refine vs_call (need_ok 310) ?_ | refine vs_pan (need_no 310) ?_ | (refine vs_cifp (need_if _ 310) ?_ ?_ <;> intro _ <;> (try (exfalso; omega))) | (refine vs_cif (need_if _ 310) ?_ ?_ <;> intro _)) | refine vs_vc (hc := vc_of Tryz.func67 rfl Tryz.ntmps67 Tryz.results67 fun _ => ?_) | refine vs_vc (hc := vc_tries (fd := 100) Tryz.func66 rfl Tryz.ntmps66 Tryz.results66 fun _ => ?_)) | refine nzo ?_ | refine nc ?_ ?_ | (with_reducible intro _ <;> (try (exfalso; omega))) | refine vs_eqnil ?_ | refine vs_nenil ?_ | (refine nd ?_ ?_ <;> intro hg <;> (first | (exfalso; (try simp only [decide_eq_true_eq, decide_eq_false_iff_not] at hg); omega) | rw [hg])) | refine vdf_of Tryz.func100 rfl Tryz.ntmps100 Tryz.results100 ?_)
    all_goals first | (simp only [byD, List.map_nil, leR]; infer_instance) | trace_state
  | true =>
    obtain ⟨h1, h2, h3, h4⟩ := snB_in hb
    have hvi := vcB_in h4
    have c1 := lay2_v s.f s.s (by omega) (by omega)
    have c2 := vectorC_v s.v hvi
    have c3 := canvas_v s.c h hl
    have hcl := canvasB_le s.c.x.toNat s.c.y.toNat s.c.L h
    have hvl : (vcBy s.v).length = 64 := by simp [vcBy, layN_len]
    have hll : (layN 8 s.f ++ layN 8 s.s).length = 16 := by simp [layN_len]
    rw [h4] at c2
    rw [h1] at c3
    rw [hb] at ck
    simp only [if_true, snBy] at *
    generalize layN 8 s.f ++ layN 8 s.s = L1 at *
    generalize vcBy s.v = L2 at *
    generalize canvasB s.c.x.toNat s.c.y.toNat s.c.L = L3 at *
    have c4 := concat_v [L1, L2, L3] (by simp [sumL]; omega)
    simp only [List.map_cons, List.map_nil, List.flatten_cons, List.flatten_nil, List.append_nil, snD, cvD, vcD] at *
    rw [← List.append_assoc] at c4
    refine vp_of Tryz.func21 rfl Tryz.ntmps21 rfl Tryz.results21 fun B => ?_
    repeat' (first | refine vs_bsd ?_ | fail | refine nzl ?_ | refine nzd ?_ | ((first | with_reducible refine vl_id ?_ | with_reducible refine vd_id ?_); first | refine cz (ck) ?_ | refine cz (c1) ?_ | refine cz (c2) ?_ | refine cz (c3) ?_ | refine cz (c4) ?_ | (refine vq_l (need_ok 310) ?_; first | refine vs_call (need_ok 310) ?_ | refine vs_pan (need_no 310) ?_ | (refine vs_cifp (need_if _ 310) ?_ ?_ <;> intro _ <;> (try (exfalso; omega))) | (refine vs_cif (need_if _ 310) ?_ ?_ <;> intro _)) | (refine vq_l (need_ok 0) ?_; first | refine vs_call (need_ok 0) ?_ | refine vs_pan (need_no 0) ?_ | (refine vs_cifp (need_if _ 0) ?_ ?_ <;> intro _ <;> (try (exfalso; omega))) | (refine vs_cif (need_if _ 0) ?_ ?_ <;> intro _)) | refine vs_vc (hc := vc_of Tryz.func67 rfl Tryz.ntmps67 Tryz.results67 fun _ => ?_) | refine vs_vc (hc := vc_tries (fd := 100) Tryz.func66 rfl Tryz.ntmps66 Tryz.results66 fun _ => ?_)) | refine nzo ?_ | refine nc ?_ ?_ | (with_reducible intro _ <;> (try (exfalso; omega))) | refine vs_eqnil ?_ | refine vs_nenil ?_ | (refine nd ?_ ?_ <;> intro hg <;> (first | (exfalso; (try simp only [decide_eq_true_eq, decide_eq_false_iff_not] at hg); omega) | rw [hg])) | refine vdf_of Tryz.func100 rfl Tryz.ntmps100 Tryz.results100 ?_)
    all_goals first | exact de_refl _ | trace_state
theorem lay01o_v (n : Nat) (hn : n < 18446744073709551616) : VP Tryz.prog 72 [i64D 8, u64D n] (· = .own 5 1 (byD (layN 8 n))) := by
  refine vp_of Tryz.func72 rfl Tryz.ntmps72 rfl Tryz.results72 fun B => ?_
  repeat' (first | fail | fail | refine nzl ?_ | refine nzd ?_ | ((first | with_reducible refine vl_id ?_ | with_reducible refine vd_id ?_); first | fail) | refine nzo ?_ | refine nc ?_ ?_ | (with_reducible intro _ <;> (try (exfalso; omega))) | refine vs_eqnil ?_ | refine vs_nenil ?_ | (refine nd ?_ ?_ <;> intro hg <;> (first | (exfalso; (try simp only [decide_eq_true_eq, decide_eq_false_iff_not] at hg); omega) | rw [hg])) | fail)
  refine vw_nilT 5 5 1 rfl ?_
  refine vw_loop (fun i : Nat => ⟨[(7, I .i64 i), (6, I .i64 8), (5, .row 0 0), (1, I .u64 ((n / 256 ^ i : Nat) : Int))], [.r true true 0 0 5 1 (byD (layN i n))], 1⟩) (fun i => i ≤ 8) (fun i => 8 - i) 0 (by rw [Nat.pow_zero, Nat.div_one]; exact (sub_z)) (Nat.zero_le _) fun i hi => ?_
  have hm : n / 256 ^ i < 18446744073709551616 := Nat.lt_of_le_of_lt (Nat.div_le_self _ _) hn
  have hst : n / 256 ^ (i + 1) = n / 256 ^ i / 256 := by rw [Nat.pow_succ, Nat.div_div_eq_div_mul]
  have hc := layN_cons i n
  generalize n / 256 ^ i = m at *
  have hb : vb (UInt8.ofNat (m % 256)) = .int .u8 (IntKind.u8.wrap ((m : Int).tmod 256)) := by
    rw [vb_of _ (Nat.mod_lt _ (by omega)), Int.tmod_eq_emod_of_nonneg (by omega), show (m : Int) % 256 = ((m % 256 : Nat) : Int) by omega, wrap_8 _ (Nat.mod_lt _ (by omega))]
  have hl : (byD (layN i n)).length = i := by rw [byD_len, layN_len]
  have hl2 := layN_len i n
  rcases Nat.lt_or_ge i 8 with h | h
  · repeat' (first | fail | fail | refine nzl ?_ | refine nzd ?_ | ((first | with_reducible refine vl_id ?_ | with_reducible refine vd_id ?_); first | fail) | refine nzo ?_ | refine nc ?_ ?_ | (with_reducible intro _ <;> (try (exfalso; omega))) | refine vs_eqnil ?_ | refine vs_nenil ?_ | (refine nd ?_ ?_ <;> intro hg <;> (first | (exfalso; (try simp only [decide_eq_true_eq, decide_eq_false_iff_not] at hg); omega) | rw [hg])) | fail)
    refine nx_loop (i + 1) (show i + 1 ≤ _ by omega) (show 8 - (i + 1) < 8 - i by omega) ?_
    rw [hc, hst, ← wrap_q m hm]
    simp only [byD, List.map_cons, hb]
    exact (sub_zr [(0, _, _)])
  · repeat' (first | fail | fail | refine nzl ?_ | refine nzd ?_ | ((first | with_reducible refine vl_id ?_ | with_reducible refine vd_id ?_); first | fail) | refine nzo ?_ | refine nc ?_ ?_ | (with_reducible intro _ <;> (try (exfalso; omega))) | refine vs_eqnil ?_ | refine vs_nenil ?_ | (refine nd ?_ ?_ <;> intro hg <;> (first | (exfalso; (try simp only [decide_eq_true_eq, decide_eq_false_iff_not] at hg); omega) | rw [hg])) | fail)
    obtain rfl : i = 8 := by omega
    rfl
theorem rsnbytes_v (s : Sn) (h : All64 s.c.L) (hb : snB s = true) : VP Tryz.prog 22 [.agg (snD s)] (· = .ret (.sl false true (byD (snBy s)))) := by
  obtain ⟨h1, h2, h3, h4⟩ := snB_in hb
  have hvi := vcB_in h4
  have c0 := lay01o_v s.f (by omega)
  have c1 := lay01_v 8 s.s (by omega) (by omega)
  have c2 := vector19_v s.v hvi
  obtain ⟨a, b, e1, e2, a1, a2, b1, b2, e3⟩ := canOk_nat h1
  have c3 := refcanvas_v a b s.c.L h a2 b2 (by have := Nat.mul_le_mul a2 b2; omega)
  have hcl := canvasB_le s.c.x.toNat s.c.y.toNat s.c.L h
  have hvl : (vcBy s.v).length = 64 := by simp [vcBy, layN_len]
  have hl1 : (layN 8 s.f).length = 8 := layN_len _ _
  have hl2 : (layN 8 s.s).length = 8 := layN_len _ _
  have hn : s.c.L.length ≤ 16 := by have := Nat.mul_le_mul a2 b2; omega
  rw [← e1, ← e2, show a = s.c.x.toNat by omega, show b = s.c.y.toNat by omega] at c3
  refine VP.le ?_
  simp only [snBy] at *
  generalize layN 8 s.f = L0 at *
  generalize layN 8 s.s = L1 at *
  generalize vcBy s.v = L2 at *
  generalize canvasB s.c.x.toNat s.c.y.toNat s.c.L = L3 at *
  simp only [snD, vcD] at *
  have hL0 := byD_len L0
  have hL1 := byD_len L1
  have hL2 := byD_len L2
  have hL3 := byD_len L3
  refine vp_of Tryz.func22 rfl Tryz.ntmps22 rfl Tryz.results22 fun B => ?_
  repeat' (first | fail | refine vw_drawkx (id := 2) [1] ?_ | refine nzl ?_ | refine nzd ?_ | ((first | with_reducible refine vl_id ?_ | with_reducible refine vd_id ?_); first | refine cz (c0) ?_ | refine cz (c1) ?_ | refine cz (c2) ?_ | refine cz (c3) ?_) | refine nzo ?_ | refine nc ?_ ?_ | (with_reducible intro _ <;> (try (exfalso; omega))) | refine vs_eqnil ?_ | refine vs_nenil ?_ | (refine nd ?_ ?_ <;> intro hg <;> (first | (exfalso; (try simp only [decide_eq_true_eq, decide_eq_false_iff_not] at hg); omega) | rw [hg])) | fail)
  rw [show byD (L0 ++ L1 ++ L2 ++ L3) = byD L0 ++ byD L1 ++ byD L2 ++ byD L3 by simp [byD]]
  exact de_refl _
end Go.Proofs.YtkjpcjccddggoaaGreat
