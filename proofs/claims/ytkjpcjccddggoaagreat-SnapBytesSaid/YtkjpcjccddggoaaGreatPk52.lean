/- Walks by data and names, part 52: Layer 21, by V: wakes. What all lifts share. -/
import Derived.ShutString
import Derived.ChangeOld
import Derived.Test.YtkjpcjccddggoaaGreatPk51
import Derived.Test.YtkjpcjccddggoaaGreatPk39
namespace Go.Proofs.YtkjpcjccddggoaaGreat
open Go.RowKit
set_option maxRecDepth 10000
set_option maxHeartbeats 4000000
instance dlss_fMw (l : List (List UInt8)) : DLss (l.map fM) (l.map fD) := dlss_map l _ _ (fun _ => inferInstance) (fun _ => rfl)
theorem wk_D : snD wkS = [i64D 1, i64D 1, .sl false false ([noTile].map tlD), u64D 3, u64D 5, u64D 0, u64D 0, u64D 0, u64D 0, u64D 0, u64D 0, u64D 0, u64D 0, u64D 0] := rfl
theorem wk_N : snA (some wkS) = .agg [i64D 1, i64D 1, .sl false true ([noTile].map tlD), u64D 3, u64D 5, u64D 0, u64D 0, u64D 0, u64D 0, u64D 0, u64D 0, u64D 0, u64D 0, u64D 0] := rfl
theorem wakes_v : VP Tryz.prog 8 [] (· = .ret (.lit (.bool true))) := by
  have cb := snbytes_v wkS wk_64 (by decide)
  rw [wk_B] at cb
  have hln := wk_len
  have cr := snread_v (snBy wkS) (by omega)
  have cr2 := snread_v ((snBy wkS).take 82) (by simp; omega)
  rw [wk_rd] at cr
  rw [wk_no] at cr2
  have hc := cutN (snBy wkS) 82
  rw [show ((82 : Nat) : Int) = 82 from rfl] at hc
  have cs := rsnsame_v wkS wkS wk_64 wk_64 (by decide)
  rw [decide_eq_true rfl] at cs
  rw [wk_D] at cb cs
  rw [wk_N] at cr
  rw [snA_none] at cr2
  simp only [if_true, Option.isSome_some, Option.isSome_none, Bool.false_eq_true, if_false] at cb cr cr2
  have c1 := cut_v 1 (wkZ 300) (by decide)
  rw [wk_cut] at c1
  have c2 := puts_v .zero [wk1, wk1] (by intro y hy; cases hy) (by decide)
  rw [wk_puts] at c2
  have c3 := next_v wkP1
  rw [wk_n1] at c3
  have c4 := whole_v wkP1 (by decide)
  rw [wk_w1] at c4
  have c5 := putS_v wkP1 wk0 (by decide)
  rw [wk_p2] at c5
  have c6 := whole_v wkP2 (by decide)
  rw [wk_w2] at c6
  have c7 := putS_v wkP2 wk2 (by decide)
  rw [wk_p3] at c7
  have c8 := next_v wkP3
  rw [wk_n3] at c8
  have c9 := putS_v wkP3 wk0 (by decide)
  rw [wk_p4] at c9
  have hz : (byD (wkZ 300)).length = 300 := by rw [byD_len]; rfl
  have q0 : pcN wk0 = [u64D 1, i64D 0, i64D 2, .sl true true (byD (wkZ 256))] := rfl
  have q1 : pcN wk1 = [u64D 1, i64D 1, i64D 2, .sl true true (byD (wkZ 44))] := rfl
  have r0 : pcD wk0 = [u64D 1, i64D 0, i64D 2, bsD (wkZ 256)] := rfl
  have r1 : pcD wk1 = [u64D 1, i64D 1, i64D 2, bsD (wkZ 44)] := rfl
  have r2 : pcD wk2 = [u64D 2, i64D 0, i64D 3, bsD (wkZ 256)] := rfl
  have p0 : piD .zero = [u64D 0, i64D 0, .sl false false []] := rfl
  rw [p0] at c2
  simp only [List.map_cons, List.map_nil] at c1 c2
  rw [q0, q1] at c1
  rw [r1] at c2
  rw [r0] at c5 c9
  rw [r2] at c7
  simp only [piD, piM] at c2 c3 c4 c5 c6 c7 c8 c9
  generalize snBy wkS = W at *
  have hWl := byD_len W
  generalize wkP1 = P1 at *
  generalize wkP2 = P2 at *
  generalize wkP3 = P3 at *
  generalize hZ : wkZ 300 = Z at *
  generalize hY : wkZ 256 = Y at *
  generalize wkZ 44 = X at *
  refine vp_of Tryz.func8 rfl Tryz.ntmps8 rfl Tryz.results8 fun B => ?_
  repeat' (first | refine vs_mkd 1 ([noTile].map tlD) rfl (by kernel_rfl) ?_ | refine vs_mkd 300 (byD Z) rfl (by rw [← hZ]; rfl) ?_ | refine vd_mkd 256 (byD Y) rfl (by rw [← hY]; rfl) ?_ | refine vs_bsd ?_ | refine vd_bsd ?_ | rw [hc] | refine vw_any (id := 10) (by kernel_rfl) ?_ | refine nzl ?_ | refine nzd ?_ | ((first | with_reducible refine vl_id ?_ | with_reducible refine vd_id ?_); first | refine cz (cb) ?_ | refine cz (cr) ?_ | refine cz (cr2) ?_ | refine cz (cs) ?_ | refine cz (c1) ?_ | refine cz (c2) ?_ | refine cz (c3) ?_ | refine cz (c4) ?_ | refine cz (c5) ?_ | refine cz (c6) ?_ | refine cz (c7) ?_ | refine cz (c8) ?_ | refine cz (c9) ?_) | refine nzo ?_ | refine nc ?_ ?_ | (with_reducible intro _ <;> (try (exfalso; omega))) | refine vs_eqnil ?_ | refine vs_nenil ?_ | (refine nd ?_ ?_ <;> intro hg <;> (first | (exfalso; (try simp only [decide_eq_true_eq, decide_eq_false_iff_not] at hg); omega) | rw [hg])) | fail)
  all_goals try (first | rfl | (exfalso; omega) | (rename_i hz; exact absurd rfl hz))
  refine va_sub (s' := ⟨[(14, .d (.lit (.bool false))), (12, .d (.lit (.bool true))), (11, .d (i64D 0)), (10, .d (i64D 0)), (9, .d (i64D 1)), (8, .ptr 2 0), (6, .d (.sl false true [[u64D 1, i64D 0, i64D 2, .sl true true (byD Y)], [u64D 1, i64D 1, i64D 2, .sl true true (byD X)]])), (2, .d (.sl false true (byD W)))], [.c 2 0 [.d (u64D P1.snap), .d (i64D P1.many), .d (.sl false true (P1.parts.map fM))]], 3⟩) (sub_z) ?_
  refine va_use ⟨[(100, .d (i64D 0)), (14, .d (.lit (.bool false))), (12, .d (.lit (.bool true))), (11, .d (i64D 0)), (10, .d (i64D 0)), (9, .d (i64D 1)), (8, .ptr 2 0), (6, .d (.sl false true [[u64D 1, i64D 0, i64D 2, .sl true true (byD Y)], [u64D 1, i64D 1, i64D 2, .sl true true (byD X)]])), (2, .d (.sl false true (byD W)))], [.c 2 0 [.d (u64D P2.snap), .d (i64D P2.many), .d (.sl false true (P2.parts.map fM))]], 3⟩ #[true, true, true, true, true, true, true, true, true, false] 1 ?_ fun h3 => ?_
  · refine va_seq 9 rfl rfl (by decide +kernel) ?_
    repeat' (first | refine vd_mkd 256 (byD Y) rfl (by rw [← hY]; rfl) ?_ | rw [hc] | fail | refine nzl ?_ | refine nzd ?_ | ((first | with_reducible refine vl_id ?_ | with_reducible refine vd_id ?_); first | refine cz (c1) ?_ | refine cz (c2) ?_ | refine cz (c3) ?_ | refine cz (c4) ?_ | refine cz (c5) ?_ | refine cz (c6) ?_ | refine cz (c7) ?_ | refine cz (c8) ?_ | refine cz (c9) ?_ | refine cz (cr2) ?_) | refine nzo ?_ | refine nc ?_ ?_ | (with_reducible intro _ <;> (try (exfalso; omega))) | refine vs_eqnil ?_ | refine vs_nenil ?_ | (refine nd ?_ ?_ <;> intro hg <;> (first | (exfalso; (try simp only [decide_eq_true_eq, decide_eq_false_iff_not] at hg); omega) | rw [hg])) | fail)
    all_goals first | rfl | (exfalso; omega) | trace_state
  refine va_use ⟨[(94, .agg [.d (u64D P1.snap), .d (i64D P1.many), .d (.sl false true (P1.parts.map fM))]), (97, .d (.agg [u64D 1, i64D 0, i64D 2, .sl true true (byD Y)])), (14, .d (.lit (.bool false))), (12, .d (.lit (.bool true))), (11, .d (i64D 0)), (10, .d (i64D 0)), (9, .d (i64D 1)), (8, .ptr 2 0), (6, .d (.sl false true [[u64D 1, i64D 0, i64D 2, .sl true true (byD Y)], [u64D 1, i64D 1, i64D 2, .sl true true (byD X)]])), (2, .d (.sl false true (byD W)))], [.c 2 0 [.d (u64D P1.snap), .d (i64D P1.many), .d (.sl false true (P1.parts.map fM))]], 3⟩ #[true, true, true, true, false, false, false, false, false, false] 6 ?_ fun h1 => ?_
  · refine va_one 4 (by decide +kernel) rfl ?_
    repeat' (first | fail | fail | refine nzl ?_ | refine nzd ?_ | ((first | with_reducible refine vl_id ?_ | with_reducible refine vd_id ?_); first | refine cz (c5) ?_) | refine nzo ?_ | refine nc ?_ ?_ | (with_reducible intro _ <;> (try (exfalso; omega))) | refine vs_eqnil ?_ | refine vs_nenil ?_ | (refine nd ?_ ?_ <;> intro hg <;> (first | (exfalso; (try simp only [decide_eq_true_eq, decide_eq_false_iff_not] at hg); omega) | rw [hg])) | fail)
    refine anyV_n ?_
    refine va_one 5 (by decide +kernel) rfl ?_
    repeat' (first | fail | fail | refine nzl ?_ | refine nzd ?_ | ((first | with_reducible refine vl_id ?_ | with_reducible refine vd_id ?_); first | fail) | refine nzo ?_ | refine nc ?_ ?_ | (with_reducible intro _ <;> (try (exfalso; omega))) | refine vs_eqnil ?_ | refine vs_nenil ?_ | (refine nd ?_ ?_ <;> intro hg <;> (first | (exfalso; (try simp only [decide_eq_true_eq, decide_eq_false_iff_not] at hg); omega) | rw [hg])) | fail)
    refine anyV_n ?_
    refine va_two 6 7 (by decide +kernel) rfl rfl ?_ ?_
    · repeat' (first | fail | fail | refine nzl ?_ | refine nzd ?_ | ((first | with_reducible refine vl_id ?_ | with_reducible refine vd_id ?_); first | fail) | refine nzo ?_ | refine nc ?_ ?_ | (with_reducible intro _ <;> (try (exfalso; omega))) | refine vs_eqnil ?_ | refine vs_nenil ?_ | (refine nd ?_ ?_ <;> intro hg <;> (first | (exfalso; (try simp only [decide_eq_true_eq, decide_eq_false_iff_not] at hg); omega) | rw [hg])) | fail)
      refine anyV_n ?_
      refine va_two 7 8 (by decide +kernel) rfl rfl ?_ ?_
      · repeat' (first | fail | fail | refine nzl ?_ | refine nzd ?_ | ((first | with_reducible refine vl_id ?_ | with_reducible refine vd_id ?_); first | fail) | refine nzo ?_ | refine nc ?_ ?_ | (with_reducible intro _ <;> (try (exfalso; omega))) | refine vs_eqnil ?_ | refine vs_nenil ?_ | (refine nd ?_ ?_ <;> intro hg <;> (first | (exfalso; (try simp only [decide_eq_true_eq, decide_eq_false_iff_not] at hg); omega) | rw [hg])) | fail)
        refine anyV_n ?_
        refine va_one 8 (by decide +kernel) rfl ?_
        repeat' (first | fail | fail | refine nzl ?_ | refine nzd ?_ | ((first | with_reducible refine vl_id ?_ | with_reducible refine vd_id ?_); first | fail) | refine nzo ?_ | refine nc ?_ ?_ | (with_reducible intro _ <;> (try (exfalso; omega))) | refine vs_eqnil ?_ | refine vs_nenil ?_ | (refine nd ?_ ?_ <;> intro hg <;> (first | (exfalso; (try simp only [decide_eq_true_eq, decide_eq_false_iff_not] at hg); omega) | rw [hg])) | fail)
        refine anyV_n ?_
        refine va_cast #[true, true, true, true, true, true, true, true, true, false] (by decide +kernel) ?_
        exact va_sub (sub_z) h3
      · repeat' (first | fail | fail | refine nzl ?_ | refine nzd ?_ | ((first | with_reducible refine vl_id ?_ | with_reducible refine vd_id ?_); first | fail) | refine nzo ?_ | refine nc ?_ ?_ | (with_reducible intro _ <;> (try (exfalso; omega))) | refine vs_eqnil ?_ | refine vs_nenil ?_ | (refine nd ?_ ?_ <;> intro hg <;> (first | (exfalso; (try simp only [decide_eq_true_eq, decide_eq_false_iff_not] at hg); omega) | rw [hg])) | fail)
        refine anyV_n ?_
        refine va_one 7 (by decide +kernel) rfl ?_
        repeat' (first | fail | fail | refine nzl ?_ | refine nzd ?_ | ((first | with_reducible refine vl_id ?_ | with_reducible refine vd_id ?_); first | fail) | refine nzo ?_ | refine nc ?_ ?_ | (with_reducible intro _ <;> (try (exfalso; omega))) | refine vs_eqnil ?_ | refine vs_nenil ?_ | (refine nd ?_ ?_ <;> intro hg <;> (first | (exfalso; (try simp only [decide_eq_true_eq, decide_eq_false_iff_not] at hg); omega) | rw [hg])) | fail)
        refine anyV_n ?_
        refine va_cast #[true, true, true, true, true, true, true, true, true, false] (by decide +kernel) ?_
        exact va_sub (sub_z) h3
    · repeat' (first | fail | fail | refine nzl ?_ | refine nzd ?_ | ((first | with_reducible refine vl_id ?_ | with_reducible refine vd_id ?_); first | fail) | refine nzo ?_ | refine nc ?_ ?_ | (with_reducible intro _ <;> (try (exfalso; omega))) | refine vs_eqnil ?_ | refine vs_nenil ?_ | (refine nd ?_ ?_ <;> intro hg <;> (first | (exfalso; (try simp only [decide_eq_true_eq, decide_eq_false_iff_not] at hg); omega) | rw [hg])) | fail)
      refine anyV_n ?_
      refine va_one 6 (by decide +kernel) rfl ?_
      repeat' (first | fail | fail | refine nzl ?_ | refine nzd ?_ | ((first | with_reducible refine vl_id ?_ | with_reducible refine vd_id ?_); first | fail) | refine nzo ?_ | refine nc ?_ ?_ | (with_reducible intro _ <;> (try (exfalso; omega))) | refine vs_eqnil ?_ | refine vs_nenil ?_ | (refine nd ?_ ?_ <;> intro hg <;> (first | (exfalso; (try simp only [decide_eq_true_eq, decide_eq_false_iff_not] at hg); omega) | rw [hg])) | fail)
      refine anyV_n ?_
      refine va_one 8 (by decide +kernel) rfl ?_
      repeat' (first | fail | fail | refine nzl ?_ | refine nzd ?_ | ((first | with_reducible refine vl_id ?_ | with_reducible refine vd_id ?_); first | fail) | refine nzo ?_ | refine nc ?_ ?_ | (with_reducible intro _ <;> (try (exfalso; omega))) | refine vs_eqnil ?_ | refine vs_nenil ?_ | (refine nd ?_ ?_ <;> intro hg <;> (first | (exfalso; (try simp only [decide_eq_true_eq, decide_eq_false_iff_not] at hg); omega) | rw [hg])) | fail)
      refine anyV_n ?_
      refine va_cast #[true, true, true, true, true, true, true, true, true, false] (by decide +kernel) ?_
      exact va_sub (sub_z) h3
  refine va_two 0 1 (by decide +kernel) rfl rfl ?_ ?_
  · repeat' (first | fail | fail | refine nzl ?_ | refine nzd ?_ | ((first | with_reducible refine vl_id ?_ | with_reducible refine vd_id ?_); first | fail) | refine nzo ?_ | refine nc ?_ ?_ | (with_reducible intro _ <;> (try (exfalso; omega))) | refine vs_eqnil ?_ | refine vs_nenil ?_ | (refine nd ?_ ?_ <;> intro hg <;> (first | (exfalso; (try simp only [decide_eq_true_eq, decide_eq_false_iff_not] at hg); omega) | rw [hg])) | fail)
    refine anyV_n ?_
    refine va_one 1 (by decide +kernel) rfl ?_
    repeat' (first | fail | fail | refine nzl ?_ | refine nzd ?_ | ((first | with_reducible refine vl_id ?_ | with_reducible refine vd_id ?_); first | fail) | refine nzo ?_ | refine nc ?_ ?_ | (with_reducible intro _ <;> (try (exfalso; omega))) | refine vs_eqnil ?_ | refine vs_nenil ?_ | (refine nd ?_ ?_ <;> intro hg <;> (first | (exfalso; (try simp only [decide_eq_true_eq, decide_eq_false_iff_not] at hg); omega) | rw [hg])) | fail)
    refine anyV_n ?_
    refine va_one 2 (by decide +kernel) rfl ?_
    repeat' (first | fail | fail | refine nzl ?_ | refine nzd ?_ | ((first | with_reducible refine vl_id ?_ | with_reducible refine vd_id ?_); first | fail) | refine nzo ?_ | refine nc ?_ ?_ | (with_reducible intro _ <;> (try (exfalso; omega))) | refine vs_eqnil ?_ | refine vs_nenil ?_ | (refine nd ?_ ?_ <;> intro hg <;> (first | (exfalso; (try simp only [decide_eq_true_eq, decide_eq_false_iff_not] at hg); omega) | rw [hg])) | fail)
    refine anyV_n ?_
    refine va_one 3 (by decide +kernel) rfl ?_
    repeat' (first | fail | fail | refine nzl ?_ | refine nzd ?_ | ((first | with_reducible refine vl_id ?_ | with_reducible refine vd_id ?_); first | fail) | refine nzo ?_ | refine nc ?_ ?_ | (with_reducible intro _ <;> (try (exfalso; omega))) | refine vs_eqnil ?_ | refine vs_nenil ?_ | (refine nd ?_ ?_ <;> intro hg <;> (first | (exfalso; (try simp only [decide_eq_true_eq, decide_eq_false_iff_not] at hg); omega) | rw [hg])) | fail)
    refine anyV_n ?_
    refine va_cast #[true, true, true, true, false, false, false, false, false, false] (by decide +kernel) ?_
    exact va_sub (sub_z) h1
  · repeat' (first | fail | fail | refine nzl ?_ | refine nzd ?_ | ((first | with_reducible refine vl_id ?_ | with_reducible refine vd_id ?_); first | fail) | refine nzo ?_ | refine nc ?_ ?_ | (with_reducible intro _ <;> (try (exfalso; omega))) | refine vs_eqnil ?_ | refine vs_nenil ?_ | (refine nd ?_ ?_ <;> intro hg <;> (first | (exfalso; (try simp only [decide_eq_true_eq, decide_eq_false_iff_not] at hg); omega) | rw [hg])) | fail)
    refine anyV_n ?_
    refine va_two 0 2 (by decide +kernel) rfl rfl ?_ ?_
    · repeat' (first | fail | fail | refine nzl ?_ | refine nzd ?_ | ((first | with_reducible refine vl_id ?_ | with_reducible refine vd_id ?_); first | fail) | refine nzo ?_ | refine nc ?_ ?_ | (with_reducible intro _ <;> (try (exfalso; omega))) | refine vs_eqnil ?_ | refine vs_nenil ?_ | (refine nd ?_ ?_ <;> intro hg <;> (first | (exfalso; (try simp only [decide_eq_true_eq, decide_eq_false_iff_not] at hg); omega) | rw [hg])) | fail)
      refine anyV_n ?_
      refine va_one 2 (by decide +kernel) rfl ?_
      repeat' (first | fail | fail | refine nzl ?_ | refine nzd ?_ | ((first | with_reducible refine vl_id ?_ | with_reducible refine vd_id ?_); first | fail) | refine nzo ?_ | refine nc ?_ ?_ | (with_reducible intro _ <;> (try (exfalso; omega))) | refine vs_eqnil ?_ | refine vs_nenil ?_ | (refine nd ?_ ?_ <;> intro hg <;> (first | (exfalso; (try simp only [decide_eq_true_eq, decide_eq_false_iff_not] at hg); omega) | rw [hg])) | fail)
      refine anyV_n ?_
      refine va_one 3 (by decide +kernel) rfl ?_
      repeat' (first | fail | fail | refine nzl ?_ | refine nzd ?_ | ((first | with_reducible refine vl_id ?_ | with_reducible refine vd_id ?_); first | fail) | refine nzo ?_ | refine nc ?_ ?_ | (with_reducible intro _ <;> (try (exfalso; omega))) | refine vs_eqnil ?_ | refine vs_nenil ?_ | (refine nd ?_ ?_ <;> intro hg <;> (first | (exfalso; (try simp only [decide_eq_true_eq, decide_eq_false_iff_not] at hg); omega) | rw [hg])) | fail)
      refine anyV_n ?_
      refine va_cast #[true, true, true, true, false, false, false, false, false, false] (by decide +kernel) ?_
      exact va_sub (sub_z) h1
    · repeat' (first | fail | fail | refine nzl ?_ | refine nzd ?_ | ((first | with_reducible refine vl_id ?_ | with_reducible refine vd_id ?_); first | fail) | refine nzo ?_ | refine nc ?_ ?_ | (with_reducible intro _ <;> (try (exfalso; omega))) | refine vs_eqnil ?_ | refine vs_nenil ?_ | (refine nd ?_ ?_ <;> intro hg <;> (first | (exfalso; (try simp only [decide_eq_true_eq, decide_eq_false_iff_not] at hg); omega) | rw [hg])) | fail)
      refine anyV_n ?_
      refine va_two 0 3 (by decide +kernel) rfl rfl ?_ ?_
      · repeat' (first | fail | fail | refine nzl ?_ | refine nzd ?_ | ((first | with_reducible refine vl_id ?_ | with_reducible refine vd_id ?_); first | fail) | refine nzo ?_ | refine nc ?_ ?_ | (with_reducible intro _ <;> (try (exfalso; omega))) | refine vs_eqnil ?_ | refine vs_nenil ?_ | (refine nd ?_ ?_ <;> intro hg <;> (first | (exfalso; (try simp only [decide_eq_true_eq, decide_eq_false_iff_not] at hg); omega) | rw [hg])) | fail)
        refine anyV_n ?_
        refine va_one 3 (by decide +kernel) rfl ?_
        repeat' (first | fail | fail | refine nzl ?_ | refine nzd ?_ | ((first | with_reducible refine vl_id ?_ | with_reducible refine vd_id ?_); first | fail) | refine nzo ?_ | refine nc ?_ ?_ | (with_reducible intro _ <;> (try (exfalso; omega))) | refine vs_eqnil ?_ | refine vs_nenil ?_ | (refine nd ?_ ?_ <;> intro hg <;> (first | (exfalso; (try simp only [decide_eq_true_eq, decide_eq_false_iff_not] at hg); omega) | rw [hg])) | fail)
        refine anyV_n ?_
        refine va_cast #[true, true, true, true, false, false, false, false, false, false] (by decide +kernel) ?_
        exact va_sub (sub_z) h1
      · repeat' (first | fail | fail | refine nzl ?_ | refine nzd ?_ | ((first | with_reducible refine vl_id ?_ | with_reducible refine vd_id ?_); first | fail) | refine nzo ?_ | refine nc ?_ ?_ | (with_reducible intro _ <;> (try (exfalso; omega))) | refine vs_eqnil ?_ | refine vs_nenil ?_ | (refine nd ?_ ?_ <;> intro hg <;> (first | (exfalso; (try simp only [decide_eq_true_eq, decide_eq_false_iff_not] at hg); omega) | rw [hg])) | fail)
        refine anyV_n ?_
        refine va_one 0 (by decide +kernel) rfl ?_
        repeat' (first | fail | fail | refine nzl ?_ | refine nzd ?_ | ((first | with_reducible refine vl_id ?_ | with_reducible refine vd_id ?_); first | fail) | refine nzo ?_ | refine nc ?_ ?_ | (with_reducible intro _ <;> (try (exfalso; omega))) | refine vs_eqnil ?_ | refine vs_nenil ?_ | (refine nd ?_ ?_ <;> intro hg <;> (first | (exfalso; (try simp only [decide_eq_true_eq, decide_eq_false_iff_not] at hg); omega) | rw [hg])) | fail)
        refine anyV_n ?_
        refine va_cast #[true, true, true, true, false, false, false, false, false, false] (by decide +kernel) ?_
        exact va_sub (sub_z) h1
end Go.Proofs.YtkjpcjccddggoaaGreat

namespace Go.Proofs.YtkjpcjccddggoaaGreat
open Go.ChangeShapes Go.WideShapes Go.ChangeAt Go.RowKit
theorem l_own : ownKnob Tryz.prog.godebug = none := by kernel_rfl
theorem l_laidOut : laidOutB Tryz.prog = true := by kernel_rfl
end Go.Proofs.YtkjpcjccddggoaaGreat
