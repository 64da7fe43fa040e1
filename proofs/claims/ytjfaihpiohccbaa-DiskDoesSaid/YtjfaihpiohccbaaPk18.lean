/- Walks by data and names, part 18: Layer 22, by V: what tries does. Layer 22, by V: Do and Run. Layer 22, by V: what is read. -/
import Derived.Test.YtjfaihpiohccbaaPk17
namespace Go.Proofs.Ytjfaihpiohccbaa
open Go.RowKit
set_option maxRecDepth 10000
set_option maxHeartbeats 4000000
abbrev dkN (d : Dk) : List D := [.sl false true (byD d.f0), .sl false true (byD d.f1), .sl false true (byD d.f2), .sl false true (byD d.f3), .lit (.int .i64 d.head), .sl false true (d.waits.map opN), .lit (.bool d.down), .lit (.int .i64 d.fuse)]
def Dk.zero : Dk := ⟨[], [], [], [], 0, [], false, 0⟩
/-- a disk, and an error -/
abbrev dkE (x : Dk × Int) : D := .tup [.agg (dkN x.1), .lit (.int .i64 x.2)]
def Dk.rise (d : Dk) : Dk × Int := if checkB d = false then (.zero, 320) else if d.down = false then (.zero, 4) else ({ d with waits := [], down := false }, 0)
def Dk.arm (d : Dk) (n : Int) : Dk × Int := if checkB d = false then (.zero, 320) else if (decide (0 ≤ n) && decide (n ≤ 4096)) = false then (.zero, 2) else if d.down = true then (.zero, 321) else ({ d with fuse := n }, 0)
def Dk.fall (d : Dk) (keep torn : Int) : Dk × Int := if checkB d = false then (.zero, 320) else if (decide (0 ≤ keep) && decide (0 ≤ torn)) = false then (.zero, 2) else ({ (d.doAll (keptL keep torn 0 d.waits)).clear with down := true, fuse := 0 }, 0)
def Dk.seenE (d : Dk) : Dk × Int := if checkB d = false then (.zero, 320) else (d.seen, 0)
def Dk.doOp (d : Dk) (o : DOp) : Dk × Int := if checkB d = false then (.zero, 320) else match d.step o with
  | .pan e => (.zero, e)
  | .ok up d' => (d', if up then 0 else 321)
theorem rise_v (d : Dk) (hb : ∀ o ∈ d.waits, o.b.length ≤ 1000000000) : VP Try.prog 17 [.agg (dkD d)] (· = .ret (dkE d.rise)) := by
  have cc := check_v d hb
  refine VP.le ?_
  cases hc : checkB d with
  | false =>
    rw [hc] at cc
    simp only [dkD, Bool.false_eq_true, if_false] at cc ⊢
    refine vp_of Try.func17 rfl Try.ntmps17 rfl Try.results17 fun B => ?_
    repeat' (first | fail | fail | refine nzl ?_ | refine nzd ?_ | ((first | with_reducible refine vl_id ?_ | with_reducible refine vd_id ?_); first | refine cz (cc) ?_ | refine vs_call (need_ok 320) ?_ | refine vs_pan (need_no 320) ?_ | (refine vs_cifp (need_if _ 320) ?_ ?_ <;> intro _ <;> (try (exfalso; omega))) | (refine vs_cif (need_if _ 320) ?_ ?_ <;> intro _) | refine vs_vc (hc := vc_tries (fd := 64) Try.func40 rfl Try.ntmps40 Try.results40 fun _ => ?_)) | refine nzo ?_ | refine nc ?_ ?_ | (with_reducible intro _ <;> (try (exfalso; omega))) | refine vs_eqnil ?_ | refine vs_nenil ?_ | (refine nd ?_ ?_ <;> intro hg <;> (first | (exfalso; (try simp only [decide_eq_true_eq, decide_eq_false_iff_not] at hg); omega) | rw [hg])) | refine vdf_of Try.func64 rfl Try.ntmps64 Try.results64 ?_)
    simp only [Dk.rise, hc, dkE, Dk.zero, dkN]
    simp [leR]
    infer_instance
  | true =>
    have co := of_v d (check_len d hc) (check_fuse d hc).2.2 hb
    rw [hc] at cc
    simp only [dkD, if_true] at cc co ⊢
    refine vp_of Try.func17 rfl Try.ntmps17 rfl Try.results17 fun B => ?_
    repeat' (first | fail | fail | refine nzl ?_ | refine nzd ?_ | ((first | with_reducible refine vl_id ?_ | with_reducible refine vd_id ?_); first | refine cz (cc) ?_ | refine vs_call (need_ok 320) ?_ | refine vs_pan (need_no 320) ?_ | (refine vs_cifp (need_if _ 320) ?_ ?_ <;> intro _ <;> (try (exfalso; omega))) | (refine vs_cif (need_if _ 320) ?_ ?_ <;> intro _) | refine vs_vm [] co ?_ | refine vs_call (need_ok 4) ?_ | refine vs_pan (need_no 4) ?_ | (refine vs_cifp (need_if _ 4) ?_ ?_ <;> intro _ <;> (try (exfalso; omega))) | (refine vs_cif (need_if _ 4) ?_ ?_ <;> intro _) | refine vs_vc (hc := vc_of Try.func48 rfl Try.ntmps48 Try.results48 fun _ => ?_) | refine vs_vc (hc := vc_tries (fd := 64) Try.func40 rfl Try.ntmps40 Try.results40 fun _ => ?_)) | refine nzo ?_ | refine nc ?_ ?_ | (with_reducible intro _ <;> (try (exfalso; omega))) | refine vs_eqnil ?_ | refine vs_nenil ?_ | (refine nd ?_ ?_ <;> intro hg <;> (first | (exfalso; (try simp only [decide_eq_true_eq, decide_eq_false_iff_not] at hg); omega) | rw [hg])) | refine vdf_of Try.func64 rfl Try.ntmps64 Try.results64 ?_)
    all_goals (simp only [Dk.rise, hc, dkE, Dk.zero, dkN]; simp [leR, *]; try infer_instance)
theorem arm_v (d : Dk) (n : Int) (hb : ∀ o ∈ d.waits, o.b.length ≤ 1000000000) : VP Try.prog 12 [.agg (dkD d), .lit (.int .i64 n)] (· = .ret (dkE (d.arm n))) := by
  have cc := check_v d hb
  refine VP.le ?_
  cases hc : checkB d with
  | false =>
    rw [hc] at cc
    simp only [dkD, Bool.false_eq_true, if_false] at cc ⊢
    refine vp_of Try.func12 rfl Try.ntmps12 rfl Try.results12 fun B => ?_
    repeat' (first | fail | fail | refine nzl ?_ | refine nzd ?_ | ((first | with_reducible refine vl_id ?_ | with_reducible refine vd_id ?_); first | refine cz (cc) ?_ | refine vs_call (need_ok 320) ?_ | refine vs_pan (need_no 320) ?_ | (refine vs_cifp (need_if _ 320) ?_ ?_ <;> intro _ <;> (try (exfalso; omega))) | (refine vs_cif (need_if _ 320) ?_ ?_ <;> intro _) | refine vs_vc (hc := vc_tries (fd := 64) Try.func40 rfl Try.ntmps40 Try.results40 fun _ => ?_)) | refine nzo ?_ | refine nc ?_ ?_ | (with_reducible intro _ <;> (try (exfalso; omega))) | refine vs_eqnil ?_ | refine vs_nenil ?_ | (refine nd ?_ ?_ <;> intro hg <;> (first | (exfalso; (try simp only [decide_eq_true_eq, decide_eq_false_iff_not] at hg); omega) | rw [hg])) | refine vdf_of Try.func64 rfl Try.ntmps64 Try.results64 ?_)
    simp only [Dk.arm, hc, dkE, Dk.zero, dkN]
    simp [leR]
    infer_instance
  | true =>
    have co := of_v d (check_len d hc) (check_fuse d hc).2.2 hb
    rw [hc] at cc
    simp only [dkD, if_true] at cc co ⊢
    cases hk : decide (0 ≤ n) && decide (n ≤ 4096) with
    | false =>
      refine vp_of Try.func12 rfl Try.ntmps12 rfl Try.results12 fun B => ?_
      repeat' (first | fail | fail | refine nzl ?_ | refine nzd ?_ | ((first | with_reducible refine vl_id ?_ | with_reducible refine vd_id ?_); first | refine cz (cc) ?_ | refine vs_call (need_ok 320) ?_ | refine vs_pan (need_no 320) ?_ | (refine vs_cifp (need_if _ 320) ?_ ?_ <;> intro _ <;> (try (exfalso; omega))) | (refine vs_cif (need_if _ 320) ?_ ?_ <;> intro _) | refine vs_vm [] co ?_ | refine vs_call (need_ok 2) ?_ | refine vs_pan (need_no 2) ?_ | (refine vs_cifp (need_if _ 2) ?_ ?_ <;> intro _ <;> (try (exfalso; omega))) | (refine vs_cif (need_if _ 2) ?_ ?_ <;> intro _) | refine vs_call (need_ok 321) ?_ | refine vs_pan (need_no 321) ?_ | (refine vs_cifp (need_if _ 321) ?_ ?_ <;> intro _ <;> (try (exfalso; omega))) | (refine vs_cif (need_if _ 321) ?_ ?_ <;> intro _) | refine vs_vc (hc := vc_of Try.func41 rfl Try.ntmps41 Try.results41 fun _ => ?_) | refine vs_vc (hc := vc_tries (fd := 64) Try.func40 rfl Try.ntmps40 Try.results40 fun _ => ?_)) | refine nzo ?_ | refine nc ?_ ?_ | (with_reducible intro _ <;> (try (exfalso; omega))) | refine vs_eqnil ?_ | refine vs_nenil ?_ | (refine nd ?_ ?_ <;> intro hg <;> (first | (exfalso; (try simp only [decide_eq_true_eq, decide_eq_false_iff_not] at hg); omega) | rw [hg])) | refine vdf_of Try.func64 rfl Try.ntmps64 Try.results64 ?_)
      all_goals first | (exfalso; simp at hk; omega) | (simp only [Dk.arm, hc, hk, dkE, Dk.zero, dkN]; simp [leR]; try first | infer_instance | exact de_refl _)
    | true =>
      have hk' : 0 ≤ n ∧ n ≤ 4096 := by simpa using hk
      cases hd : d.down with
      | false =>
        rw [hd] at co cc
        refine vp_of Try.func12 rfl Try.ntmps12 rfl Try.results12 fun B => ?_
        repeat' (first | fail | fail | refine nzl ?_ | refine nzd ?_ | ((first | with_reducible refine vl_id ?_ | with_reducible refine vd_id ?_); first | refine cz (cc) ?_ | refine vs_call (need_ok 320) ?_ | refine vs_pan (need_no 320) ?_ | (refine vs_cifp (need_if _ 320) ?_ ?_ <;> intro _ <;> (try (exfalso; omega))) | (refine vs_cif (need_if _ 320) ?_ ?_ <;> intro _) | refine vs_vm [] co ?_ | refine vs_call (need_ok 2) ?_ | refine vs_pan (need_no 2) ?_ | (refine vs_cifp (need_if _ 2) ?_ ?_ <;> intro _ <;> (try (exfalso; omega))) | (refine vs_cif (need_if _ 2) ?_ ?_ <;> intro _) | refine vs_call (need_ok 321) ?_ | refine vs_pan (need_no 321) ?_ | (refine vs_cifp (need_if _ 321) ?_ ?_ <;> intro _ <;> (try (exfalso; omega))) | (refine vs_cif (need_if _ 321) ?_ ?_ <;> intro _) | refine vs_vc (hc := vc_of Try.func41 rfl Try.ntmps41 Try.results41 fun _ => ?_) | refine vs_vc (hc := vc_tries (fd := 64) Try.func40 rfl Try.ntmps40 Try.results40 fun _ => ?_)) | refine nzo ?_ | refine nc ?_ ?_ | (with_reducible intro _ <;> (try (exfalso; omega))) | refine vs_eqnil ?_ | refine vs_nenil ?_ | (refine nd ?_ ?_ <;> intro hg <;> (first | (exfalso; (try simp only [decide_eq_true_eq, decide_eq_false_iff_not] at hg); omega) | rw [hg])) | refine vdf_of Try.func64 rfl Try.ntmps64 Try.results64 ?_)
        all_goals first | (exfalso; omega) | (exfalso; simp_all; fail_if_success (focus skip)) | (simp only [Dk.arm, hc, hk, hd, dkE, Dk.zero, dkN]; simp [leR]; try first | infer_instance | exact de_refl _)
      | true =>
        rw [hd] at co cc
        refine vp_of Try.func12 rfl Try.ntmps12 rfl Try.results12 fun B => ?_
        repeat' (first | fail | fail | refine nzl ?_ | refine nzd ?_ | ((first | with_reducible refine vl_id ?_ | with_reducible refine vd_id ?_); first | refine cz (cc) ?_ | refine vs_call (need_ok 320) ?_ | refine vs_pan (need_no 320) ?_ | (refine vs_cifp (need_if _ 320) ?_ ?_ <;> intro _ <;> (try (exfalso; omega))) | (refine vs_cif (need_if _ 320) ?_ ?_ <;> intro _) | refine vs_vm [] co ?_ | refine vs_call (need_ok 2) ?_ | refine vs_pan (need_no 2) ?_ | (refine vs_cifp (need_if _ 2) ?_ ?_ <;> intro _ <;> (try (exfalso; omega))) | (refine vs_cif (need_if _ 2) ?_ ?_ <;> intro _) | refine vs_call (need_ok 321) ?_ | refine vs_pan (need_no 321) ?_ | (refine vs_cifp (need_if _ 321) ?_ ?_ <;> intro _ <;> (try (exfalso; omega))) | (refine vs_cif (need_if _ 321) ?_ ?_ <;> intro _) | refine vs_vc (hc := vc_of Try.func41 rfl Try.ntmps41 Try.results41 fun _ => ?_) | refine vs_vc (hc := vc_tries (fd := 64) Try.func40 rfl Try.ntmps40 Try.results40 fun _ => ?_)) | refine nzo ?_ | refine nc ?_ ?_ | (with_reducible intro _ <;> (try (exfalso; omega))) | refine vs_eqnil ?_ | refine vs_nenil ?_ | (refine nd ?_ ?_ <;> intro hg <;> (first | (exfalso; (try simp only [decide_eq_true_eq, decide_eq_false_iff_not] at hg); omega) | rw [hg])) | refine vdf_of Try.func64 rfl Try.ntmps64 Try.results64 ?_)
        all_goals first | (exfalso; omega) | (exfalso; simp_all; fail_if_success (focus skip)) | (simp only [Dk.arm, hc, hk, hd, dkE, Dk.zero, dkN]; simp [leR]; try first | infer_instance | exact de_refl _)
theorem seen_v (d : Dk) (hb : ∀ o ∈ d.waits, o.b.length ≤ 1000000000) : VP Try.prog 51 [.agg (dkD d)] (· = .ret (dkE d.seenE)) := by
  have cc := check_v d hb
  refine VP.le ?_
  cases hc : checkB d with
  | false =>
    rw [hc] at cc
    simp only [dkD, Bool.false_eq_true, if_false] at cc ⊢
    refine vp_of Try.func51 rfl Try.ntmps51 rfl Try.results51 fun B => ?_
    repeat' (first | fail | fail | refine nzl ?_ | refine nzd ?_ | ((first | with_reducible refine vl_id ?_ | with_reducible refine vd_id ?_); first | refine cz (cc) ?_ | refine vs_call (need_ok 320) ?_ | refine vs_pan (need_no 320) ?_ | (refine vs_cifp (need_if _ 320) ?_ ?_ <;> intro _ <;> (try (exfalso; omega))) | (refine vs_cif (need_if _ 320) ?_ ?_ <;> intro _) | refine vs_vc (hc := vc_tries (fd := 64) Try.func40 rfl Try.ntmps40 Try.results40 fun _ => ?_)) | refine nzo ?_ | refine nc ?_ ?_ | (with_reducible intro _ <;> (try (exfalso; omega))) | refine vs_eqnil ?_ | refine vs_nenil ?_ | (refine nd ?_ ?_ <;> intro hg <;> (first | (exfalso; (try simp only [decide_eq_true_eq, decide_eq_false_iff_not] at hg); omega) | rw [hg])) | refine vdf_of Try.func64 rfl Try.ntmps64 Try.results64 ?_)
    simp only [Dk.seenE, hc, dkE, Dk.zero, dkN]
    simp [leR]
    infer_instance
  | true =>
    obtain ⟨hf0, hf1, hw⟩ := check_fuse d hc
    have co := of_v d (check_len d hc) hw hb
    have hwl : (d.waits.map opN).length = d.waits.length := List.length_map _
    have ck := kept_v d.waits (d.waits.map opN).length 0
    have cs := settle_v d d.waits (d.waits.map opN).length 0 (by omega) (Int.le_refl _) (fun o ho => ⟨(may_kf o (check_may d hc o ho)).1, (may_kf o (check_may d hc o ho)).2, hb o ho⟩) (check_len d hc) hw
    rw [keptL_all d.waits 0 (d.waits.map opN).length 0 (by omega)] at cs
    rw [hc] at cc
    simp only [dkD, if_true, keptD] at cc co ck cs ⊢
    refine vp_of Try.func51 rfl Try.ntmps51 rfl Try.results51 fun B => ?_
    repeat' (first | fail | fail | refine nzl ?_ | refine nzd ?_ | ((first | with_reducible refine vl_id ?_ | with_reducible refine vd_id ?_); first | refine cz (cc) ?_ | refine vs_call (need_ok 320) ?_ | refine vs_pan (need_no 320) ?_ | (refine vs_cifp (need_if _ 320) ?_ ?_ <;> intro _ <;> (try (exfalso; omega))) | (refine vs_cif (need_if _ 320) ?_ ?_ <;> intro _) | refine vs_vm [] co ?_ | refine cz (ck) ?_ | refine vs_vm [(6, none), (7, some _), (8, some _), (9, some _), (10, some _)] cs ?_ | (refine vs_vc (hc := vc_of Try.func69 rfl Try.ntmps69 Try.results69 fun _ => ?_); refine vw_frz 11 rfl ?_) | refine vs_vc (hc := vc_tries (fd := 64) Try.func40 rfl Try.ntmps40 Try.results40 fun _ => ?_)) | refine nzo ?_ | refine nc ?_ ?_ | (with_reducible intro _ <;> (try (exfalso; omega))) | refine vs_eqnil ?_ | refine vs_nenil ?_ | (refine nd ?_ ?_ <;> intro hg <;> (first | (exfalso; (try simp only [decide_eq_true_eq, decide_eq_false_iff_not] at hg); omega) | rw [hg])) | refine vdf_of Try.func64 rfl Try.ntmps64 Try.results64 ?_)
    all_goals (simp only [Dk.seenE, hc, dkE, Dk.zero, dkN]; simp [leR, *]; try first | infer_instance | exact de_refl _)
theorem fall_v (d : Dk) (keep torn : Int) (hb : ∀ o ∈ d.waits, o.b.length ≤ 1000000000) : VP Try.prog 13 [.agg (dkD d), .lit (.int .i64 keep), .lit (.int .i64 torn)] (· = .ret (dkE (d.fall keep torn))) := by
  have cc := check_v d hb
  refine VP.le ?_
  cases hc : checkB d with
  | false =>
    rw [hc] at cc
    simp only [dkD, Bool.false_eq_true, if_false] at cc ⊢
    refine vp_of Try.func13 rfl Try.ntmps13 rfl Try.results13 fun B => ?_
    repeat' (first | fail | fail | refine nzl ?_ | refine nzd ?_ | ((first | with_reducible refine vl_id ?_ | with_reducible refine vd_id ?_); first | refine cz (cc) ?_ | refine vs_call (need_ok 320) ?_ | refine vs_pan (need_no 320) ?_ | (refine vs_cifp (need_if _ 320) ?_ ?_ <;> intro _ <;> (try (exfalso; omega))) | (refine vs_cif (need_if _ 320) ?_ ?_ <;> intro _) | refine vs_vc (hc := vc_tries (fd := 64) Try.func40 rfl Try.ntmps40 Try.results40 fun _ => ?_)) | refine nzo ?_ | refine nc ?_ ?_ | (with_reducible intro _ <;> (try (exfalso; omega))) | refine vs_eqnil ?_ | refine vs_nenil ?_ | (refine nd ?_ ?_ <;> intro hg <;> (first | (exfalso; (try simp only [decide_eq_true_eq, decide_eq_false_iff_not] at hg); omega) | rw [hg])) | refine vdf_of Try.func64 rfl Try.ntmps64 Try.results64 ?_)
    simp only [Dk.fall, hc, dkE, Dk.zero, dkN]
    simp [leR]
    infer_instance
  | true =>
    obtain ⟨hf0, hf1, hw⟩ := check_fuse d hc
    have co := of_v d (check_len d hc) hw hb
    rw [hc] at cc
    simp only [dkD, if_true] at cc co ⊢
    cases hk : decide (0 ≤ keep) && decide (0 ≤ torn) with
    | false =>
      refine vp_of Try.func13 rfl Try.ntmps13 rfl Try.results13 fun B => ?_
      repeat' (first | fail | fail | refine nzl ?_ | refine nzd ?_ | ((first | with_reducible refine vl_id ?_ | with_reducible refine vd_id ?_); first | refine cz (cc) ?_ | refine vs_call (need_ok 320) ?_ | refine vs_pan (need_no 320) ?_ | (refine vs_cifp (need_if _ 320) ?_ ?_ <;> intro _ <;> (try (exfalso; omega))) | (refine vs_cif (need_if _ 320) ?_ ?_ <;> intro _) | refine vs_vm [] co ?_ | refine vs_call (need_ok 2) ?_ | refine vs_pan (need_no 2) ?_ | (refine vs_cifp (need_if _ 2) ?_ ?_ <;> intro _ <;> (try (exfalso; omega))) | (refine vs_cif (need_if _ 2) ?_ ?_ <;> intro _) | refine vs_vc (hc := vc_of Try.func43 rfl Try.ntmps43 Try.results43 fun _ => ?_) | refine vs_vc (hc := vc_tries (fd := 64) Try.func40 rfl Try.ntmps40 Try.results40 fun _ => ?_)) | refine nzo ?_ | refine nc ?_ ?_ | (with_reducible intro _ <;> (try (exfalso; omega))) | refine vs_eqnil ?_ | refine vs_nenil ?_ | (refine nd ?_ ?_ <;> intro hg <;> (first | (exfalso; (try simp only [decide_eq_true_eq, decide_eq_false_iff_not] at hg); omega) | rw [hg])) | refine vdf_of Try.func64 rfl Try.ntmps64 Try.results64 ?_)
      all_goals first | (exfalso; simp at hk; omega) | (simp only [Dk.fall, hc, hk, dkE, Dk.zero, dkN]; simp [leR]; try first | infer_instance | exact de_refl _)
    | true =>
      have hk' : 0 ≤ keep ∧ 0 ≤ torn := by simpa using hk
      have ck := kept_v d.waits keep torn
      have cs := settle_v d d.waits keep torn hk'.1 hk'.2 (fun o ho => ⟨(may_kf o (check_may d hc o ho)).1, (may_kf o (check_may d hc o ho)).2, hb o ho⟩) (check_len d hc) hw
      simp only [keptD] at ck cs
      refine vp_of Try.func13 rfl Try.ntmps13 rfl Try.results13 fun B => ?_
      repeat' (first | fail | fail | refine nzl ?_ | refine nzd ?_ | ((first | with_reducible refine vl_id ?_ | with_reducible refine vd_id ?_); first | refine cz (cc) ?_ | refine vs_call (need_ok 320) ?_ | refine vs_pan (need_no 320) ?_ | (refine vs_cifp (need_if _ 320) ?_ ?_ <;> intro _ <;> (try (exfalso; omega))) | (refine vs_cif (need_if _ 320) ?_ ?_ <;> intro _) | refine vs_vm [] co ?_ | refine vs_call (need_ok 2) ?_ | refine vs_pan (need_no 2) ?_ | (refine vs_cifp (need_if _ 2) ?_ ?_ <;> intro _ <;> (try (exfalso; omega))) | (refine vs_cif (need_if _ 2) ?_ ?_ <;> intro _) | refine cz (ck) ?_ | refine vs_vm [(8, none), (9, some _), (10, some _), (11, some _), (12, some _)] cs ?_ | (refine vs_vc (hc := vc_of Try.func43 rfl Try.ntmps43 Try.results43 fun _ => ?_); refine vw_frz 13 rfl ?_) | refine vs_vc (hc := vc_tries (fd := 64) Try.func40 rfl Try.ntmps40 Try.results40 fun _ => ?_)) | refine nzo ?_ | refine nc ?_ ?_ | (with_reducible intro _ <;> (try (exfalso; omega))) | refine vs_eqnil ?_ | refine vs_nenil ?_ | (refine nd ?_ ?_ <;> intro hg <;> (first | (exfalso; (try simp only [decide_eq_true_eq, decide_eq_false_iff_not] at hg); omega) | rw [hg])) | refine vdf_of Try.func64 rfl Try.ntmps64 Try.results64 ?_)
      all_goals first | (exfalso; omega) | (simp only [Dk.fall, hc, hk, dkE, Dk.zero, dkN]; simp [leR]; try first | infer_instance | exact de_refl _)
end Go.Proofs.Ytjfaihpiohccbaa

namespace Go.Proofs.Ytjfaihpiohccbaa
open Go.RowKit
set_option maxRecDepth 10000
set_option maxHeartbeats 4000000
theorem step_arg (d : Dk) (o : DOp) (h1 : mayD o = false) (h2 : syncB o = false) : VM Try.prog 50 1 [.ptr 0 0, .d (.agg (opD o))] (drE d) 6 (stepK (d.step o)) := by
  have cm := may_d o
  rw [h1] at cm
  rw [show d.step o = .pan 2 by simp [Dk.step, h1, h2]]
  obtain ⟨k, f, b⟩ := o
  have hbl := byD_len b
  simp [syncB] at h2
  refine vm_of Try.func50 rfl Try.ntmps50 Try.results50 fun B M => ?_
  simp only [opD] at cm ⊢
  repeat' (first | fail | fail | refine nzl ?_ | refine nzd ?_ | ((first | with_reducible refine vl_id ?_ | with_reducible refine vd_id ?_); first | refine cz (cm) ?_ | refine cz (need_no 2) ?_ | (refine vs_cifp (need_if _ 2) ?_ ?_ <;> intro _ <;> (try (exfalso; omega))) | (refine vs_cif (need_if _ 2) ?_ ?_ <;> intro _)) | refine nzo ?_ | refine nc ?_ ?_ | (with_reducible intro _ <;> (try (exfalso; omega))) | refine vs_eqnil ?_ | refine vs_nenil ?_ | (refine nd ?_ ?_ <;> intro hg <;> (first | (exfalso; (try simp only [decide_eq_true_eq, decide_eq_false_iff_not] at hg); omega) | rw [hg])) | fail)
  all_goals first | exact nx_subp [] | (exfalso; simp_all; fail_if_success (focus skip))
/-- any operation -/
theorem step_v (d : Dk) (o : DOp) (hc : checkB d = true) (hob : o.b.length ≤ 1000000000) : VM Try.prog 50 1 [.ptr 0 0, .d (.agg (opD o))] (drE d) 6 (stepK (d.step o)) := by
  cases h1 : mayD o with
  | true => exact step_may d o h1 hc (check_wb d hc) hob
  | false => cases h2 : syncB o with
    | true => exact step_sync d o h1 h2 hc (check_wb d hc)
    | false => exact step_arg d o h1 h2
theorem step_pan (d : Dk) (o : DOp) (e : Int) (hc : checkB d = true) (hob : o.b.length ≤ 1000000000) (h : d.step o = .pan e) : VM1 Try.prog 50 1 [.ptr 0 0, .d (.agg (opD o))] (drE d) 6 (.panic (.d (errD e))) [] 1 := by
  have := step_v d o hc hob
  rw [h] at this
  exact VM.sub1 this
theorem step_ok (d d' : Dk) (o : DOp) (up : Bool) (hc : checkB d = true) (hob : o.b.length ≤ 1000000000) (h : d.step o = .ok up d') : VM1 Try.prog 50 1 [.ptr 0 0, .d (.agg (opD o))] (drE d) 6 (.ret (.d (.lit (.bool up)))) (drE d') 6 := by
  have := step_v d o hc hob
  rw [h] at this
  exact VM.sub1 this
theorem do_v (d : Dk) (o : DOp) (hb : ∀ o ∈ d.waits, o.b.length ≤ 1000000000) (hob : o.b.length ≤ 1000000000) : VP Try.prog 18 [.agg (dkD d), .agg (opD o)] (· = .ret (dkE (d.doOp o))) := by
  have cc := check_v d hb
  refine VP.le ?_
  cases hc : checkB d with
  | false =>
    rw [hc] at cc
    simp only [dkD, opD, Bool.false_eq_true, if_false] at cc ⊢
    refine vp_of Try.func18 rfl Try.ntmps18 rfl Try.results18 fun B => ?_
    repeat' (first | fail | fail | refine nzl ?_ | refine nzd ?_ | ((first | with_reducible refine vl_id ?_ | with_reducible refine vd_id ?_); first | refine cz (cc) ?_ | refine vs_call (need_ok 320) ?_ | refine vs_pan (need_no 320) ?_ | (refine vs_cifp (need_if _ 320) ?_ ?_ <;> intro _ <;> (try (exfalso; omega))) | (refine vs_cif (need_if _ 320) ?_ ?_ <;> intro _) | refine vs_vc (hc := vc_tries (fd := 64) Try.func40 rfl Try.ntmps40 Try.results40 fun _ => ?_)) | refine nzo ?_ | refine nc ?_ ?_ | (with_reducible intro _ <;> (try (exfalso; omega))) | refine vs_eqnil ?_ | refine vs_nenil ?_ | (refine nd ?_ ?_ <;> intro hg <;> (first | (exfalso; (try simp only [decide_eq_true_eq, decide_eq_false_iff_not] at hg); omega) | rw [hg])) | refine vdf_of Try.func64 rfl Try.ntmps64 Try.results64 ?_)
    all_goals first | (exfalso; omega) | (simp only [Dk.doOp, hc, dkE, Dk.zero, dkN]; simp [leR]; try first | infer_instance | exact de_refl _)
  | true =>
    have co := of_v d (check_len d hc) (check_fuse d hc).2.2 hb
    rw [hc] at cc
    cases hs : d.step o with
    | pan e =>
      have cst := step_pan d o e hc hob hs
      simp only [dkD, opD, if_true] at cc co cst ⊢
      refine vp_of Try.func18 rfl Try.ntmps18 rfl Try.results18 fun B => ?_
      repeat' (first | fail | fail | refine nzl ?_ | refine nzd ?_ | ((first | with_reducible refine vl_id ?_ | with_reducible refine vd_id ?_); first | refine cz (cc) ?_ | refine vs_call (need_ok 320) ?_ | refine vs_pan (need_no 320) ?_ | (refine vs_cifp (need_if _ 320) ?_ ?_ <;> intro _ <;> (try (exfalso; omega))) | (refine vs_cif (need_if _ 320) ?_ ?_ <;> intro _) | refine vs_vm [] co ?_ | refine vs_vc (hc := vc_of Try.func49 rfl Try.ntmps49 Try.results49 fun _ => ?_) | refine vs_vm [(8, none), (9, some _), (10, some _), (11, some _), (12, some _), (13, some _)] cst ?_ | refine vs_vc (hc := vc_tries (fd := 64) Try.func40 rfl Try.ntmps40 Try.results40 fun _ => ?_)) | refine nzo ?_ | refine nc ?_ ?_ | (with_reducible intro _ <;> (try (exfalso; omega))) | refine vs_eqnil ?_ | refine vs_nenil ?_ | (refine nd ?_ ?_ <;> intro hg <;> (first | (exfalso; (try simp only [decide_eq_true_eq, decide_eq_false_iff_not] at hg); omega) | rw [hg])) | refine vdf_of Try.func64 rfl Try.ntmps64 Try.results64 ?_)
      all_goals first | (exfalso; omega) | (simp only [Dk.doOp, hc, hs, dkE, Dk.zero, dkN]; simp [leR, *]; try first | infer_instance | exact de_refl _)
    | ok up d' =>
      have cst := step_ok d d' o up hc hob hs
      simp only [dkD, opD, if_true] at cc co cst ⊢
      refine vp_of Try.func18 rfl Try.ntmps18 rfl Try.results18 fun B => ?_
      repeat' (first | fail | fail | refine nzl ?_ | refine nzd ?_ | ((first | with_reducible refine vl_id ?_ | with_reducible refine vd_id ?_); first | refine cz (cc) ?_ | refine vs_call (need_ok 320) ?_ | refine vs_pan (need_no 320) ?_ | (refine vs_cifp (need_if _ 320) ?_ ?_ <;> intro _ <;> (try (exfalso; omega))) | (refine vs_cif (need_if _ 320) ?_ ?_ <;> intro _) | refine vs_vm [] co ?_ | refine vs_vc (hc := vc_of Try.func49 rfl Try.ntmps49 Try.results49 fun _ => ?_) | refine vs_vm [(8, none), (9, some _), (10, some _), (11, some _), (12, some _), (13, some _)] cst ?_ | refine vs_vc (hc := vc_tries (fd := 64) Try.func40 rfl Try.ntmps40 Try.results40 fun _ => ?_)) | refine nzo ?_ | refine nc ?_ ?_ | (with_reducible intro _ <;> (try (exfalso; omega))) | refine vs_eqnil ?_ | refine vs_nenil ?_ | (refine nd ?_ ?_ <;> intro hg <;> (first | (exfalso; (try simp only [decide_eq_true_eq, decide_eq_false_iff_not] at hg); omega) | rw [hg])) | refine vdf_of Try.func64 rfl Try.ntmps64 Try.results64 ?_)
      all_goals first | (exfalso; omega) | (rename_i h; simp only [Bool.not_eq_true', Bool.not_eq_false'] at h; subst h; simp only [Dk.doOp, hc, hs, dkE, Dk.zero, dkN]; simp [leR]; try first | infer_instance | exact de_refl _)
def Dk.runL (d : Dk) : List DOp → Nat → Dk × Nat × Int
  | [], n => (d, n, 0)
  | o :: l, n => match d.step o with
    | .pan e => (.zero, n, e)
    | .ok up d' => if up then d'.runL l (n + 1) else (d', n, 321)
def Dk.run (d : Dk) (l : List DOp) : Dk × Nat × Int := if checkB d = false then (.zero, 0, 320) else d.runL l 0
abbrev dkE3 (x : Dk × Nat × Int) : D := .tup [.agg (dkN x.1), .lit (.int .i64 x.2.1), .lit (.int .i64 x.2.2)]
/-- the log of a drive: variable 9, rows 16 to 20 -/
abbrev drH (d : Dk) : List E := [.c 9 0 [.row 16 0, .row 17 0, .row 18 0, .row 19 0, .d (.lit (.int .i64 d.head)), .row 20 0, .d (.lit (.bool d.down)), .d (.lit (.int .i64 d.fuse))],
  .r true true 16 0 u8T 1 (byD d.f0), .r true true 17 0 u8T 1 (byD d.f1), .r true true 18 0 u8T 1 (byD d.f2), .r true true 19 0 u8T 1 (byD d.f3), .r true true 20 0 opT 3 (d.waits.map opN)]
abbrev zcV : List V := [.d (.lit (.slice none 0 0)), .d (.lit (.slice none 0 0)), .d (.lit (.slice none 0 0)), .d (.lit (.slice none 0 0)), .d (.lit (.int .i64 0)), .d (.lit (.slice none 0 0)), .d (.lit (.bool false)), .d (.lit (.int .i64 0))]
theorem run_v (d : Dk) (l : List DOp) (hb : ∀ o ∈ d.waits, o.b.length ≤ 1000000000) (hlb : ∀ o ∈ l, o.b.length ≤ 1000000000) (hl : l.length ≤ 1000000000) : VP Try.prog 28 [.agg (dkD d), .sl false false (l.map opD)] (· = .ret (dkE3 (d.run l))) := by
  have cc := check_v d hb
  refine VP.le ?_
  cases hc : checkB d with
  | false =>
    rw [hc] at cc
    simp only [dkD, Bool.false_eq_true, if_false] at cc ⊢
    refine vp_of Try.func28 rfl Try.ntmps28 rfl Try.results28 fun B => ?_
    repeat' (first | fail | refine vw_drawkx (id := 5) [2] ?_ | refine nzl ?_ | refine nzd ?_ | ((first | with_reducible refine vl_id ?_ | with_reducible refine vd_id ?_); first | refine cz (cc) ?_ | refine vs_call (need_ok 320) ?_ | refine vs_pan (need_no 320) ?_ | (refine vs_cifp (need_if _ 320) ?_ ?_ <;> intro _ <;> (try (exfalso; omega))) | (refine vs_cif (need_if _ 320) ?_ ?_ <;> intro _) | refine vs_vc (hc := vc_tries (fd := 64) Try.func40 rfl Try.ntmps40 Try.results40 fun _ => ?_)) | refine nzo ?_ | refine nc ?_ ?_ | (with_reducible intro _ <;> (try (exfalso; omega))) | refine vs_eqnil ?_ | refine vs_nenil ?_ | (refine nd ?_ ?_ <;> intro hg <;> (first | (exfalso; (try simp only [decide_eq_true_eq, decide_eq_false_iff_not] at hg); omega) | rw [hg])) | refine vdf_of Try.func64 rfl Try.ntmps64 Try.results64 ?_)
    all_goals first | (exfalso; omega) | (simp only [Dk.run, hc, dkE3, Dk.zero, dkN]; simp [leR]; try first | infer_instance | exact de_refl _)
  | true =>
    have co := of_v d (check_len d hc) (check_fuse d hc).2.2 hb
    rw [hc] at cc
    simp only [dkD, if_true] at cc co ⊢
    refine vp_of Try.func28 rfl Try.ntmps28 rfl Try.results28 fun B => ?_
    repeat' (first | fail | refine vw_drawkx (id := 5) [2] ?_ | refine nzl ?_ | refine nzd ?_ | ((first | with_reducible refine vl_id ?_ | with_reducible refine vd_id ?_); first | refine cz (cc) ?_ | refine vs_call (need_ok 320) ?_ | refine vs_pan (need_no 320) ?_ | (refine vs_cifp (need_if _ 320) ?_ ?_ <;> intro _ <;> (try (exfalso; omega))) | (refine vs_cif (need_if _ 320) ?_ ?_ <;> intro _) | refine vs_vm [] co ?_ | refine vs_vc (hc := vc_of Try.func60 rfl Try.ntmps60 Try.results60 fun _ => ?_) | refine vs_vc (hc := vc_tries (fd := 64) Try.func40 rfl Try.ntmps40 Try.results40 fun _ => ?_)) | refine nzo ?_ | refine nc ?_ ?_ | (with_reducible intro _ <;> (try (exfalso; omega))) | refine vs_eqnil ?_ | refine vs_nenil ?_ | (refine nd ?_ ?_ <;> intro hg <;> (first | (exfalso; (try simp only [decide_eq_true_eq, decide_eq_false_iff_not] at hg); omega) | rw [hg])) | refine vdf_of Try.func64 rfl Try.ntmps64 Try.results64 ?_)
    have hrun : d.run l = d.runL l 0 := by simp [Dk.run, hc]
    have hml : (l.map opD).length = l.length := List.length_map _
    refine vw_loop (fun z : Nat × Dk => ⟨[(9, I .i64 z.1), (8, I .i64 (l.map opD).length), (7, .d (.sl false false (l.map opD))), (0, .ptr 9 0), (1, .ptr 1 0), (2, .ptr 4 0), (3, .ptr 3 0)],
      .c 3 0 [I .i64 z.1] :: .c 4 0 [.d (.lit (.bool true))] :: .c 2 0 zcV :: .c 6 0 zcV :: .c 7 0 [I .i64 0] :: drH z.2, 21⟩)
      (fun z => z.1 ≤ l.length ∧ checkB z.2 = true ∧ d.run l = z.2.runL (l.drop z.1) z.1) (fun z => l.length - z.1) (0, d) (sub_zr [(16, _, _), (17, _, _), (18, _, _), (19, _, _), (20, _, _)]) ⟨Nat.zero_le _, hc, hrun⟩ fun z hz => ?_
    clear hc cc co hrun hb
    obtain ⟨i, d⟩ := z
    obtain ⟨hi, hc, heq⟩ := hz
    simp only at hi hc heq
    rw [heq]
    clear heq
    rcases Nat.lt_or_ge i l.length with h | h
    · have ho : l[i]? = some l[i] := List.getElem?_eq_getElem h
      have hob := hlb _ (List.getElem_mem h)
      have hdrop : l.drop i = l[i] :: l.drop (i + 1) := List.drop_eq_getElem_cons h
      rw [hdrop]
      generalize l[i] = o at *
      have hx' : (l.map opD)[((i : Nat) : Int).toNat]? = some (opD o) := by simp [ho]
      cases hs : d.step o with
      | pan e =>
        have cst := step_pan d o e hc hob hs
        have hans : d.runL (o :: l.drop (i + 1)) i = (.zero, i, e) := by simp only [Dk.runL, hs]
        simp only [opD] at hx' cst
        repeat' (first | fail | refine vw_drawkx (id := 5) [2] ?_ | refine nzl ?_ | refine nzd ?_ | ((first | with_reducible refine vl_id ?_ | with_reducible refine vd_id ?_); first | refine vs_vc (hc := vc_of Try.func60 rfl Try.ntmps60 Try.results60 fun _ => ?_) | refine vs_vm [(9, none), (16, some _), (17, some _), (18, some _), (19, some _), (20, some _)] cst ?_) | refine nzo ?_ | refine nc ?_ ?_ | (with_reducible intro _ <;> (try (exfalso; omega))) | refine vs_eqnil ?_ | refine vs_nenil ?_ | (refine nd ?_ ?_ <;> intro hg <;> (first | (exfalso; (try simp only [decide_eq_true_eq, decide_eq_false_iff_not] at hg); omega) | rw [hg])) | refine vdf_of Try.func64 rfl Try.ntmps64 Try.results64 ?_)
        all_goals first | (exfalso; omega) | (rw [hans]; simp only [dkE3, Dk.zero, dkN]; simp [leR]; try first | infer_instance | exact de_refl _)
      | ok up d' =>
        have cst := step_ok d d' o up hc hob hs
        have hck := step_check d o up d' hc hs
        simp only [opD] at hx' cst
        cases up with
        | true =>
          have hans : d.runL (o :: l.drop (i + 1)) i = d'.runL (l.drop (i + 1)) (i + 1) := by simp only [Dk.runL, hs]; rfl
          rw [hans]
          repeat' (first | fail | refine vw_drawkx (id := 5) [2] ?_ | refine nzl ?_ | refine nzd ?_ | ((first | with_reducible refine vl_id ?_ | with_reducible refine vd_id ?_); first | refine vs_vc (hc := vc_of Try.func60 rfl Try.ntmps60 Try.results60 fun _ => ?_) | refine vs_vm [(9, none), (16, some _), (17, some _), (18, some _), (19, some _), (20, some _)] cst ?_) | refine nzo ?_ | refine nc ?_ ?_ | (with_reducible intro _ <;> (try (exfalso; omega))) | refine vs_eqnil ?_ | refine vs_nenil ?_ | (refine nd ?_ ?_ <;> intro hg <;> (first | (exfalso; (try simp only [decide_eq_true_eq, decide_eq_false_iff_not] at hg); omega) | rw [hg])) | refine vdf_of Try.func64 rfl Try.ntmps64 Try.results64 ?_)
          exact nx_loop (i + 1, d') ⟨by simp only; omega, hck, rfl⟩ (by simp only; omega) (sub_zr [(16, _, _), (17, _, _), (18, _, _), (19, _, _), (20, _, _)])
        | false =>
          have hans : d.runL (o :: l.drop (i + 1)) i = (d', i, 321) := by simp only [Dk.runL, hs]; rfl
          rw [hans]
          repeat' (first | fail | refine vw_drawkx (id := 5) [2] ?_ | refine nzl ?_ | refine nzd ?_ | ((first | with_reducible refine vl_id ?_ | with_reducible refine vd_id ?_); first | refine vs_vc (hc := vc_of Try.func60 rfl Try.ntmps60 Try.results60 fun _ => ?_) | refine vs_vm [(9, none), (16, some _), (17, some _), (18, some _), (19, some _), (20, some _)] cst ?_) | refine nzo ?_ | refine nc ?_ ?_ | (with_reducible intro _ <;> (try (exfalso; omega))) | refine vs_eqnil ?_ | refine vs_nenil ?_ | (refine nd ?_ ?_ <;> intro hg <;> (first | (exfalso; (try simp only [decide_eq_true_eq, decide_eq_false_iff_not] at hg); omega) | rw [hg])) | refine vdf_of Try.func64 rfl Try.ntmps64 Try.results64 ?_)
          all_goals first | (exfalso; omega) | (simp only [dkE3, dkN]; simp [leR]; try first | infer_instance | exact de_refl _)
    · have hl0 : l.drop i = [] := List.drop_eq_nil_of_le h
      have hi' : i = l.length := by omega
      rw [hl0]
      repeat' (first | fail | refine vw_drawkx (id := 5) [2] ?_ | refine nzl ?_ | refine nzd ?_ | ((first | with_reducible refine vl_id ?_ | with_reducible refine vd_id ?_); first | fail) | refine nzo ?_ | refine nc ?_ ?_ | (with_reducible intro _ <;> (try (exfalso; omega))) | refine vs_eqnil ?_ | refine vs_nenil ?_ | (refine nd ?_ ?_ <;> intro hg <;> (first | (exfalso; (try simp only [decide_eq_true_eq, decide_eq_false_iff_not] at hg); omega) | rw [hg])) | refine vdf_of Try.func64 rfl Try.ntmps64 Try.results64 ?_)
      all_goals first | (exfalso; omega) | (simp only [Dk.runL, dkE3, dkN]; simp [leR]; try first | infer_instance | exact de_refl _)
end Go.Proofs.Ytjfaihpiohccbaa

namespace Go.Proofs.Ytjfaihpiohccbaa
open Go.RowKit
set_option maxRecDepth 10000
set_option maxHeartbeats 4000000
def Dk.file (d : Dk) (n : Int) : List UInt8 := if n = 0 then d.f0 else if n = 1 then d.f1 else if n = 2 then d.f2 else d.f3
def Dk.readE (d : Dk) (n : Int) : List UInt8 × Int := if checkB d = false then ([], 320) else if isFile n = false then ([], 2) else (d.seen.file n, 0)
def Dk.headI (d : Dk) : Int := if checkB d = false then 0 else d.seen.head
def Dk.sizeI (d : Dk) (n : Int) : Int := (d.readE n).1.length
theorem head_v (d : Dk) (hb : ∀ o ∈ d.waits, o.b.length ≤ 1000000000) : VP Try.prog 25 [.agg (dkD d)] (· = .ret (.lit (.int .i64 d.headI))) := by
  have cs := seen_v d hb
  obtain ⟨z, hz⟩ : ∃ z, d.seenE = z := ⟨_, rfl⟩
  have hh : d.headI = z.1.head := by
    rw [← hz]; unfold Dk.headI Dk.seenE; split <;> rfl
  rw [hz] at cs
  rw [hh]
  simp only [dkD, dkE, dkN] at cs ⊢
  refine vp_of Try.func25 rfl Try.ntmps25 rfl Try.results25 fun B => ?_
  repeat' (first | fail | fail | refine nzl ?_ | refine nzd ?_ | ((first | with_reducible refine vl_id ?_ | with_reducible refine vd_id ?_); first | refine cz (cs) ?_) | refine nzo ?_ | refine nc ?_ ?_ | (with_reducible intro _ <;> (try (exfalso; omega))) | refine vs_eqnil ?_ | refine vs_nenil ?_ | (refine nd ?_ ?_ <;> intro hg <;> (first | (exfalso; (try simp only [decide_eq_true_eq, decide_eq_false_iff_not] at hg); omega) | rw [hg])) | fail)
  all_goals rfl
theorem read_v (d : Dk) (n : Int) (hb : ∀ o ∈ d.waits, o.b.length ≤ 1000000000) : VP Try.prog 20 [.agg (dkD d), .lit (.int .i64 n)] (· = .ret (.tup [.sl false true (byD (d.readE n).1), .lit (.int .i64 (d.readE n).2)])) := by
  have cs := seen_v d hb
  have cf := file_v n
  refine VP.le ?_
  cases hc : checkB d with
  | false =>
    have h1 : d.seenE = (Dk.zero, 320) := by simp [Dk.seenE, hc]
    have h2 : d.readE n = ([], 320) := by simp [Dk.readE, hc]
    rw [h1] at cs
    rw [h2]
    simp only [dkD, dkE, dkN, Dk.zero] at cs ⊢
    refine vp_of Try.func20 rfl Try.ntmps20 rfl Try.results20 fun B => ?_
    repeat' (first | fail | fail | refine nzl ?_ | refine nzd ?_ | ((first | with_reducible refine vl_id ?_ | with_reducible refine vd_id ?_); first | refine cz (cs) ?_ | refine cz (cf) ?_) | refine nzo ?_ | refine nc ?_ ?_ | (with_reducible intro _ <;> (try (exfalso; omega))) | refine vs_eqnil ?_ | refine vs_nenil ?_ | (refine nd ?_ ?_ <;> intro hg <;> (first | (exfalso; (try simp only [decide_eq_true_eq, decide_eq_false_iff_not] at hg); omega) | rw [hg])) | fail)
    all_goals (simp [leR]; try infer_instance)
  | true =>
    have h1 : d.seenE = (d.seen, 0) := by simp [Dk.seenE, hc]
    rw [h1] at cs
    cases hf : isFile n with
    | false =>
      rw [hf] at cf
      have h2 : d.readE n = ([], 2) := by simp [Dk.readE, hc, hf]
      rw [h2]
      simp only [dkD, dkE, dkN] at cs ⊢
      refine vp_of Try.func20 rfl Try.ntmps20 rfl Try.results20 fun B => ?_
      repeat' (first | fail | fail | refine nzl ?_ | refine nzd ?_ | ((first | with_reducible refine vl_id ?_ | with_reducible refine vd_id ?_); first | refine cz (cs) ?_ | refine cz (cf) ?_) | refine nzo ?_ | refine nc ?_ ?_ | (with_reducible intro _ <;> (try (exfalso; omega))) | refine vs_eqnil ?_ | refine vs_nenil ?_ | (refine nd ?_ ?_ <;> intro hg <;> (first | (exfalso; (try simp only [decide_eq_true_eq, decide_eq_false_iff_not] at hg); omega) | rw [hg])) | fail)
      all_goals (simp [leR]; try infer_instance)
    | true =>
      rw [hf] at cf
      have h2 : d.readE n = (d.seen.file n, 0) := by simp [Dk.readE, hc, hf]
      rw [h2]
      have h4 : n = 0 ∨ n = 1 ∨ n = 2 ∨ n = 3 := by simp [isFile] at hf; omega
      simp only [dkD, dkE, dkN] at cs ⊢
      clear h2 hf
      rcases h4 with rfl | rfl | rfl | rfl
      all_goals
        refine vp_of Try.func20 rfl Try.ntmps20 rfl Try.results20 fun B => ?_
        repeat' (first | fail | fail | refine nzl ?_ | refine nzd ?_ | ((first | with_reducible refine vl_id ?_ | with_reducible refine vd_id ?_); first | refine cz (cs) ?_ | refine cz (cf) ?_) | refine nzo ?_ | refine nc ?_ ?_ | (with_reducible intro _ <;> (try (exfalso; omega))) | refine vs_eqnil ?_ | refine vs_nenil ?_ | (refine nd ?_ ?_ <;> intro hg <;> (first | (exfalso; (try simp only [decide_eq_true_eq, decide_eq_false_iff_not] at hg); omega) | rw [hg])) | fail)
      all_goals (simp [leR, Dk.file]; try exact de_refl _)
theorem size_v (d : Dk) (n : Int) (hb : ∀ o ∈ d.waits, o.b.length ≤ 1000000000) : VP Try.prog 26 [.agg (dkD d), .lit (.int .i64 n)] (· = .ret (.lit (.int .i64 (d.sizeI n)))) := by
  have cs := read_v d n hb
  have hl := byD_len (d.readE n).1
  simp only [dkD] at cs ⊢
  refine vp_of Try.func26 rfl Try.ntmps26 rfl Try.results26 fun B => ?_
  repeat' (first | fail | fail | refine nzl ?_ | refine nzd ?_ | ((first | with_reducible refine vl_id ?_ | with_reducible refine vd_id ?_); first | refine cz (cs) ?_) | refine nzo ?_ | refine nc ?_ ?_ | (with_reducible intro _ <;> (try (exfalso; omega))) | refine vs_eqnil ?_ | refine vs_nenil ?_ | (refine nd ?_ ?_ <;> intro hg <;> (first | (exfalso; (try simp only [decide_eq_true_eq, decide_eq_false_iff_not] at hg); omega) | rw [hg])) | fail)
  all_goals simp [Dk.sizeI]
end Go.Proofs.Ytjfaihpiohccbaa

namespace Go.Proofs.Ytjfaihpiohccbaa
deriving instance DecidableEq for DOp
deriving instance DecidableEq for Dk
theorem u8_ne {x z : UInt8} (h : (x.toNat : Int) ≠ z.toNat) : x ≠ z := fun e => h (by rw [e])
theorem u8_eq {x z : UInt8} (h : ¬ (x.toNat : Int) ≠ z.toNat) : x = z := UInt8.toNat_inj.1 (by omega)
def Dk.beq (d e : Dk) : Bool := decide (d = e) && true
/-- of one length, and alike one by one -/
def eqF {α : Type} (p : α → α → Bool) : List α → List α → Bool
  | [], [] => true
  | x :: l, y :: m => p x y && eqF p l m
  | _, _ => false
theorem eqF_len {α : Type} {p : α → α → Bool} : ∀ {l m : List α}, l.length ≠ m.length → eqF p l m = false
  | [], [], h => absurd rfl h
  | [], _ :: _, _ => rfl
  | _ :: _, [], _ => rfl
  | x :: l, y :: m, h => by simp only [eqF, eqF_len (l := l) (m := m) fun e => h (by simp [e]), Bool.and_false]
theorem eqF_eq {α : Type} [DecidableEq α] : ∀ {l m : List α}, eqF (fun x y => decide (x = y)) l m = decide (l = m)
  | [], [] => by simp [eqF]
  | [], _ :: _ => by simp [eqF]
  | _ :: _, [] => by simp [eqF]
  | x :: l, y :: m => by simp only [eqF, eqF_eq (l := l) (m := m)]; rw [Bool.eq_iff_iff]; simp
end Go.Proofs.Ytjfaihpiohccbaa

namespace Go.Proofs.Ytjfaihpiohccbaa
open Go.RowKit
set_option maxRecDepth 10000
set_option maxHeartbeats 4000000
theorem rfile_v (n : Int) : VP Try.prog 36 [.lit (.int .i64 n)] (· = .ret (.lit (.bool (isFile n)))) := by
  refine vp_of Try.func36 rfl Try.ntmps36 rfl Try.results36 fun B => ?_
  repeat' (first | fail | fail | refine nzl ?_ | refine nzd ?_ | ((first | with_reducible refine vl_id ?_ | with_reducible refine vd_id ?_); first | fail) | refine nzo ?_ | refine nc ?_ ?_ | (with_reducible intro _ <;> (try (exfalso; omega))) | refine vs_eqnil ?_ | refine vs_nenil ?_ | (refine nd ?_ ?_ <;> intro hg <;> (first | (exfalso; (try simp only [decide_eq_true_eq, decide_eq_false_iff_not] at hg); omega) | rw [hg])) | fail)
  all_goals simp [isFile, *]
theorem rmay_v (k f : Int) (b : List (List D)) [DLss b b] : VP Try.prog 39 [.agg [.lit (.int .i64 k), .lit (.int .i64 f), .sl false false b]] (· = .ret (.lit (.bool (mayOp k f b.length)))) := by
  refine vp_of Try.func39 rfl Try.ntmps39 rfl Try.results39 fun B => ?_
  repeat' (first | fail | fail | refine nzl ?_ | refine nzd ?_ | ((first | with_reducible refine vl_id ?_ | with_reducible refine vd_id ?_); first | refine vs_ret (rfile_v _) ?_) | refine nzo ?_ | refine nc ?_ ?_ | (with_reducible intro _ <;> (try (exfalso; omega))) | refine vs_eqnil ?_ | refine vs_nenil ?_ | (refine nd ?_ ?_ <;> intro hg <;> (first | (exfalso; (try simp only [decide_eq_true_eq, decide_eq_false_iff_not] at hg); omega) | rw [hg])) | fail)
  all_goals (try (rw [← Int.lt_add_one_iff] at *)) 
  all_goals (simp [mayOp, *]; try omega)
theorem rmay_d (o : DOp) : VP Try.prog 39 [.agg (opD o)] (· = .ret (.lit (.bool (mayD o)))) := by
  have := rmay_v o.k o.f (byD o.b)
  rw [byD_len] at this
  exact this
theorem rop_v (o : DOp) : VP Try.prog 59 [.agg (opD o)] (· = .ret (.lit (.bool (mayD o || syncB o)))) := by
  have c := rmay_d o
  have hbl := byD_len o.b
  obtain ⟨k, f, b⟩ := o
  simp only [opD] at c ⊢
  refine vp_of Try.func59 rfl Try.ntmps59 rfl Try.results59 fun B => ?_
  repeat' (first | fail | fail | refine nzl ?_ | refine nzd ?_ | ((first | with_reducible refine vl_id ?_ | with_reducible refine vd_id ?_); first | refine cz (c) ?_) | refine nzo ?_ | refine nc ?_ ?_ | (with_reducible intro _ <;> (try (exfalso; omega))) | refine vs_eqnil ?_ | refine vs_nenil ?_ | (refine nd ?_ ?_ <;> intro hg <;> (first | (exfalso; (try simp only [decide_eq_true_eq, decide_eq_false_iff_not] at hg); omega) | rw [hg])) | fail)
  all_goals simp_all [syncB]
theorem rbytes_v (a b : List UInt8) : VP Try.prog 47 [.sl false false (byD a), .sl false false (byD b)] (· = .ret (.lit (.bool (decide (a = b))))) := by
  refine vp_of Try.func47 rfl Try.ntmps47 rfl Try.results47 fun B => ?_
  have hb := byD_len b
  have ha := byD_len a
  repeat' (first | fail | fail | refine nzl ?_ | refine nzd ?_ | ((first | with_reducible refine vl_id ?_ | with_reducible refine vd_id ?_); first | fail) | refine nzo ?_ | refine nc ?_ ?_ | (with_reducible intro _ <;> (try (exfalso; omega))) | refine vs_eqnil ?_ | refine vs_nenil ?_ | (refine nd ?_ ?_ <;> intro hg <;> (first | (exfalso; (try simp only [decide_eq_true_eq, decide_eq_false_iff_not] at hg); omega) | rw [hg])) | fail)
  · rw [decide_eq_false (fun h => by subst h; omega)]
  · refine vw_each 12 a (fun x => [.lit (vb x)]) (fun (i : Nat) (_ : Unit) => ⟨[(14, I .i64 i), (13, I .i64 (byD a).length), (12, .d (.sl false false (byD a))), (1, .d (.sl false false (byD b)))], [], 0⟩) (fun i _ => decide (a = b) = decide (a.drop i = b.drop i)) () (sub_z) rfl (fun i y x hT hi hx hx' hlt hlm hlen hdr => ?_) (fun y hT hlt hlm => ?_)
    · have hlb : i < b.length := by omega
      have hb' : b[i]? = some b[i] := List.getElem?_eq_getElem hlb
      have hbd := List.drop_eq_getElem_cons hlb
      generalize b[i] = z at *
      have hbx : (byD b)[((i : Nat) : Int).toNat]? = some [.lit (vb z)] := by simp [hb']
      rw [hdr, hbd] at hT
      repeat' (first | fail | fail | refine nzl ?_ | refine nzd ?_ | ((first | with_reducible refine vl_id ?_ | with_reducible refine vd_id ?_); first | fail) | refine nzo ?_ | refine nc ?_ ?_ | (with_reducible intro _ <;> (try (exfalso; omega))) | refine vs_eqnil ?_ | refine vs_nenil ?_ | (refine nd ?_ ?_ <;> intro hg <;> (first | (exfalso; (try simp only [decide_eq_true_eq, decide_eq_false_iff_not] at hg); omega) | rw [hg])) | fail)
      · rename_i hne; rw [hT, decide_eq_false (fun h => u8_ne hne (List.cons.inj h).1)]
      · rename_i heq; refine nx_each () hi ?_ (sub_z)
        rw [hT, u8_eq heq]; simp
    · repeat' (first | fail | fail | refine nzl ?_ | refine nzd ?_ | ((first | with_reducible refine vl_id ?_ | with_reducible refine vd_id ?_); first | fail) | refine nzo ?_ | refine nc ?_ ?_ | (with_reducible intro _ <;> (try (exfalso; omega))) | refine vs_eqnil ?_ | refine vs_nenil ?_ | (refine nd ?_ ?_ <;> intro hg <;> (first | (exfalso; (try simp only [decide_eq_true_eq, decide_eq_false_iff_not] at hg); omega) | rw [hg])) | fail)
      rw [hT, List.drop_of_length_le (Nat.le_refl _), List.drop_of_length_le (by omega), decide_eq_true rfl]
/-- are these the same operations? -/
def sameOps (l m : List DOp) : Bool := decide (l = m) && true
def Dk.flat (d : Dk) : Int × Bool × Int := (d.head, d.down, d.fuse)
theorem rsame_v (d e : Dk) : VP Try.prog 15 [.agg (dkD d), .agg (dkD e)] (· = .ret (.lit (.bool (d.beq e)))) := by
  refine vp_of Try.func15 rfl Try.ntmps15 rfl Try.results15 fun B => ?_
  have c0 := rbytes_v d.f0 e.f0
  have c1 := rbytes_v d.f1 e.f1
  have c2 := rbytes_v d.f2 e.f2
  have c3 := rbytes_v d.f3 e.f3
  simp only [dkD]
  repeat' (first | fail | fail | refine nzl ?_ | refine nzd ?_ | ((first | with_reducible refine vl_id ?_ | with_reducible refine vd_id ?_); first | fail) | refine nzo ?_ | refine nc ?_ ?_ | (with_reducible intro _ <;> (try (exfalso; omega))) | refine vs_eqnil ?_ | refine vs_nenil ?_ | (refine nd ?_ ?_ <;> intro hg <;> (first | (exfalso; (try simp only [decide_eq_true_eq, decide_eq_false_iff_not] at hg); omega) | rw [hg])) | fail)
  refine vw_rounds 5 ?_
  repeat' (first | fail | fail | refine nzl ?_ | refine nzd ?_ | ((first | with_reducible refine vl_id ?_ | with_reducible refine vd_id ?_); first | refine cz (c0) ?_ | refine cz (c1) ?_ | refine cz (c2) ?_ | refine cz (c3) ?_) | refine nzo ?_ | refine nc ?_ ?_ | (with_reducible intro _ <;> (try (exfalso; omega))) | refine vs_eqnil ?_ | refine vs_nenil ?_ | (refine nd ?_ ?_ <;> intro hg <;> (first | (exfalso; (try simp only [decide_eq_true_eq, decide_eq_false_iff_not] at hg); omega) | rw [hg])) | fail)
  all_goals try (rw [show d.beq e = false by
      have : d ≠ e := by rintro rfl; simp_all
      simp [Dk.beq, this]]; done)
  rename_i g0 g1 g2 g3 g4 g5 g6 g7
  have hld : (d.waits.map opD).length = d.waits.length := List.length_map _
  have hle : (e.waits.map opD).length = e.waits.length := List.length_map _
  have hll : e.waits.length = d.waits.length := by omega
  have heq : d.beq e = decide (d.waits = e.waits) := by
    obtain ⟨d0, d1, d2, d3, d4, d5, d6, d7⟩ := d
    obtain ⟨e0, e1, e2, e3, e4, e5, e6, e7⟩ := e
    simp_all [Dk.beq]
  rw [heq]
  clear g0 g1 g2 g3 g4 g5 g6 g7 c0 c1 c2 c3 heq
  refine vw_each 53 d.waits opD (fun (i : Nat) (_ : Unit) => ⟨[(55, I .i64 i), (54, I .i64 (d.waits.map opD).length), (53, .d (.sl false false (d.waits.map opD))), (3, .ptr 1 0)], [.c 1 0 ((dkD e).map .d)], 2⟩) (fun i _ => decide (d.waits = e.waits) = decide (d.waits.drop i = e.waits.drop i)) () (sub_z) rfl (fun i y x hT hi hx hx' hlt hlm hlen hdr => ?_) (fun y hT hlt hlm => ?_)
  · have hlb : i < e.waits.length := by omega
    have hb' : e.waits[i]? = some e.waits[i] := List.getElem?_eq_getElem hlb
    have hbd := List.drop_eq_getElem_cons hlb
    generalize e.waits[i] = z at *
    have hbx : (e.waits.map opD)[((i : Nat) : Int).toNat]? = some (opD z) := by simp [hb']
    rw [hdr, hbd] at hT
    have c := rbytes_v x.b z.b
    have hxz : x = z ↔ x.k = z.k ∧ x.f = z.f ∧ x.b = z.b := by cases x; cases z; simp
    simp only [opD, dkD] at hx' hbx ⊢
    repeat' (first | fail | fail | refine nzl ?_ | refine nzd ?_ | ((first | with_reducible refine vl_id ?_ | with_reducible refine vd_id ?_); first | refine cz (c) ?_) | refine nzo ?_ | refine nc ?_ ?_ | (with_reducible intro _ <;> (try (exfalso; omega))) | refine vs_eqnil ?_ | refine vs_nenil ?_ | (refine nd ?_ ?_ <;> intro hg <;> (first | (exfalso; (try simp only [decide_eq_true_eq, decide_eq_false_iff_not] at hg); omega) | rw [hg])) | fail)
    all_goals first
      | (rw [hT, decide_eq_false (fun h => by have := hxz.1 (List.cons.inj h).1; simp_all)]; done)
      | (refine nx_each () hi ?_ (sub_z); rw [hT, hxz.2 (by simp_all)]; simp; done)
      | skip
  · repeat' (first | fail | fail | refine nzl ?_ | refine nzd ?_ | ((first | with_reducible refine vl_id ?_ | with_reducible refine vd_id ?_); first | fail) | refine nzo ?_ | refine nc ?_ ?_ | (with_reducible intro _ <;> (try (exfalso; omega))) | refine vs_eqnil ?_ | refine vs_nenil ?_ | (refine nd ?_ ?_ <;> intro hg <;> (first | (exfalso; (try simp only [decide_eq_true_eq, decide_eq_false_iff_not] at hg); omega) | rw [hg])) | fail)
    rw [hT, List.drop_of_length_le (Nat.le_refl _), List.drop_of_length_le (by omega), decide_eq_true rfl]
end Go.Proofs.Ytjfaihpiohccbaa

namespace Go.Proofs.Ytjfaihpiohccbaa
open Go.RowKit
set_option maxRecDepth 10000
set_option maxHeartbeats 4000000
theorem byD_app (a b : List UInt8) : byD a ++ byD b = byD (a ++ b) := by simp [byD]
theorem rdone_v (d : Dk) (o : DOp) (hk : o.k = 1 ∨ o.k = 2 ∨ o.k = 3) (hf : 0 ≤ o.f ∧ o.f < 4) (hd : d.len 10000000000000) (hb : o.b.length ≤ 1000000000) : VP Try.prog 46 [.agg (dkD d), .agg (opD o)] (· = .ret (.agg (dkD (d.done o)))) := by
  obtain ⟨k, f, b⟩ := o
  have hbl := byD_len b
  have h0 := byD_len d.f0
  have h1 := byD_len d.f1
  have h2 := byD_len d.f2
  have h3 := byD_len d.f3
  simp only [Dk.len] at hf hb hk hd
  have h4 : f = 0 ∨ f = 1 ∨ f = 2 ∨ f = 3 := by omega
  refine VP.le ?_
  rcases hk with rfl | rfl | rfl <;> rcases h4 with rfl | rfl | rfl | rfl
  all_goals
    refine vp_of Try.func46 rfl Try.ntmps46 rfl Try.results46 fun B => ?_
    simp only [dkD, opD]
    repeat' (first | fail | fail | refine nzl ?_ | refine nzd ?_ | ((first | with_reducible refine vl_id ?_ | with_reducible refine vd_id ?_); first | fail) | refine nzo ?_ | refine nc ?_ ?_ | (with_reducible intro _ <;> (try (exfalso; omega))) | refine vs_eqnil ?_ | refine vs_nenil ?_ | (refine nd ?_ ?_ <;> intro hg <;> (first | (exfalso; (try simp only [decide_eq_true_eq, decide_eq_false_iff_not] at hg); omega) | rw [hg])) | fail)
  all_goals simp only [Dk.done, Dk.put, Dk.empty, if_true, Int.reduceEq, if_false, List.nil_append, byD_app, show byD ([] : List UInt8) = [] from rfl, leR]
  all_goals infer_instance
end Go.Proofs.Ytjfaihpiohccbaa

namespace Go.Proofs.Ytjfaihpiohccbaa
open Go.RowKit
/-- pieces of a function's code -/
def bodyC (f : Func) : Code := f.body.getD .skip
def sndC : Nat → Code → Code
  | 0, c => c
  | n + 1, .seq _ y => sndC n y
  | _, c => c
def fstC : Code → Code
  | .seq x _ => x
  | c => c
section
variable {P : Program} {cx : Cx} {s : St} {Q : VE → St → Prop}
/-- the ways that leave a block are joined behind it -/
theorem vw_join {α : Type} (I : α → St) (T : α → Prop) {c y : Code} {id : Nat} (h : VW P cx c s (blockV id (cutV cx I T Q))) (k : ∀ z, T z → VW P cx y (I z) Q) : VW P cx c s (blockV id (thenV P cx y Q)) := by
  have key : ∀ e s', cutV cx I T Q e s' → thenV P cx y Q e s' := fun e s' hq => by
    cases e with
    | normal => obtain ⟨z, h1, h2⟩ := hq; exact vw_sub h2 (k z h1)
    | exit id => exact hq
    | goto id => exact hq
    | ret => exact hq
    | panic v => exact hq
  refine h.mono fun e s' hq => ?_
  cases e with
  | exit i =>
    simp only [blockV] at hq ⊢
    split at hq
    · exact key _ _ hq
    · exact key _ _ hq
  | normal => exact key .normal _ hq
  | goto id => exact key (.goto id) _ hq
  | ret => exact key .ret _ hq
  | panic v => exact key (.panic v) _ hq
theorem rv_sub {c : Code} {s' : St} : ∀ {m : Nat}, Sub cx s s' → RV P cx c Q m s' → RV P cx c Q m s
  | 0, _, h => h
  | _ + 1, hs, h => vw_sub hs h
/-- the ways through a round are joined behind it -/
theorem rv_cut {c : Code} {m : Nat} (I : St) (h : VW P cx c s (thenR (fun s' => Sub cx s' I) Q)) (k : RV P cx c Q m I) : RV P cx c Q (m + 1) s := VW.mono h fun e s' hq => by
  cases e with
  | normal => exact rv_sub hq k
  | exit i => exact hq
  | goto i => exact hq
  | ret => exact hq
  | panic v => exact hq
end
end Go.Proofs.Ytjfaihpiohccbaa

namespace Go.Proofs.Ytjfaihpiohccbaa
open Go.RowKit
set_option maxRecDepth 10000
set_option maxHeartbeats 4000000
/-- all that waits, done; it still waits -/
theorem rseen_v (d : Dk) (hc : checkB d = true) : VP Try.prog 34 [.agg (dkD d)] (· = .ret (.agg (dkD (d.doAll d.waits)))) := by
  have hwb := check_wb d hc
  have hln := check_len d hc
  have hfu := check_fuse d hc
  have hmay := check_may d hc
  refine vp_of Try.func34 rfl Try.ntmps34 rfl Try.results34 fun B => ?_
  simp only [dkD]
  repeat' (first | fail | fail | refine nzl ?_ | refine nzd ?_ | ((first | with_reducible refine vl_id ?_ | with_reducible refine vd_id ?_); first | fail) | refine nzo ?_ | refine nc ?_ ?_ | (with_reducible intro _ <;> (try (exfalso; omega))) | refine vs_eqnil ?_ | refine vs_nenil ?_ | (refine nd ?_ ?_ <;> intro hg <;> (first | (exfalso; (try simp only [decide_eq_true_eq, decide_eq_false_iff_not] at hg); omega) | rw [hg])) | fail)
  refine vw_each 6 d.waits opD (fun (i : Nat) (z : Dk) => ⟨[(8, I .i64 i), (7, I .i64 (d.waits.map opD).length), (6, .d (.sl false false (d.waits.map opD))), (1, .ptr 0 0), (2, .ptr 1 0)], [.c 0 0 ((dkD z).map .d), .c 1 0 zcV], 2⟩) (fun i z => d.doAll d.waits = z.doAll (d.waits.drop i) ∧ z.len (4194304 + i * 1000000000)) d (sub_z) ⟨rfl, by simpa using hln⟩ (fun i y x hT hi hx hx' hlt hlm hlen hdr => ?_) (fun y hT hlt hlm => ?_)
  · have hkf := may_kf x (hmay x (List.mem_of_getElem? hx))
    have hxb := hwb x (List.mem_of_getElem? hx)
    have hyl : y.len 10000000000000 := by have := hT.2; simp only [Dk.len] at this ⊢; omega
    have c := rdone_v y x (by omega) hkf.2 hyl hxb
    have hl2 := Dk.done_len y x _ _ hT.2 hxb
    have hT1 := hT.1
    rw [hdr] at hT1
    simp only [dkD, opD] at c hx'
    repeat' (first | fail | fail | refine nzl ?_ | refine nzd ?_ | ((first | with_reducible refine vl_id ?_ | with_reducible refine vd_id ?_); first | refine cz (c) ?_) | refine nzo ?_ | refine nc ?_ ?_ | (with_reducible intro _ <;> (try (exfalso; omega))) | refine vs_eqnil ?_ | refine vs_nenil ?_ | (refine nd ?_ ?_ <;> intro hg <;> (first | (exfalso; (try simp only [decide_eq_true_eq, decide_eq_false_iff_not] at hg); omega) | rw [hg])) | fail)
    exact nx_each (y.done x) hi ⟨hT1, by rw [Nat.add_mul]; simpa [Nat.add_assoc] using hl2⟩ (sub_z)
  · repeat' (first | fail | fail | refine nzl ?_ | refine nzd ?_ | ((first | with_reducible refine vl_id ?_ | with_reducible refine vd_id ?_); first | fail) | refine nzo ?_ | refine nc ?_ ?_ | (with_reducible intro _ <;> (try (exfalso; omega))) | refine vs_eqnil ?_ | refine vs_nenil ?_ | (refine nd ?_ ?_ <;> intro hg <;> (first | (exfalso; (try simp only [decide_eq_true_eq, decide_eq_false_iff_not] at hg); omega) | rw [hg])) | fail)
    have hT1 := hT.1
    rw [List.drop_eq_nil_of_le (Nat.le_refl _)] at hT1
    rw [hT1]; rfl
end Go.Proofs.Ytjfaihpiohccbaa
