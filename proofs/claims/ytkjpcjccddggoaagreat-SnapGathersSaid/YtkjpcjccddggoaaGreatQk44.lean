/- Walks by data and names, part 44: Layer 21, by V: wakes. Layer 21, plain: a right pile into which a piece is put is right. Layer 21, plain: piles of some of the pieces of bytes. -/
import Derived.Test.YtkjpcjccddggoaaGreatQk43
import Derived.Test.YtkjpcjccddggoaaGreatQk42
import Derived.Test.YtkjpcjccddggoaaGreatQk41
namespace Go.Proofs.YtkjpcjccddggoaaGreat
open Go.RowKit
set_option maxRecDepth 10000
set_option maxHeartbeats 4000000
instance dlss_fMw (l : List (List UInt8)) : DLss (l.map fM) (l.map fD) := dlss_map l _ _ (fun _ => inferInstance) (fun _ => rfl)
theorem wk_D : snD wkS = [i64D 1, i64D 1, .sl false false ([noTile].map tlD), u64D 3, u64D 5, u64D 0, u64D 0, u64D 0, u64D 0, u64D 0, u64D 0, u64D 0, u64D 0, u64D 0] := rfl
theorem wk_N : snA (some wkS) = .agg [i64D 1, i64D 1, .sl false true ([noTile].map tlD), u64D 3, u64D 5, u64D 0, u64D 0, u64D 0, u64D 0, u64D 0, u64D 0, u64D 0, u64D 0, u64D 0] := rfl
theorem wakes_v : VP Tryz.prog 8 [] (· = .ret (.lit (.bool true))) := by
  have cb := snbytes_v wkS wk_64 (by decide)
  rw [wk_B] at cb
  have hln := wk_len
  have cr := snread_v (snBy wkS) (by omega)
  have cr2 := snread_v ((snBy wkS).take 82) (by simp; omega)
  rw [wk_rd] at cr
  rw [wk_no] at cr2
  have hc := cutN (snBy wkS) 82
  rw [show ((82 : Nat) : Int) = 82 from rfl] at hc
  have cs := rsnsame_v wkS wkS wk_64 wk_64 (by decide)
  rw [decide_eq_true rfl] at cs
  rw [wk_D] at cb cs
  rw [wk_N] at cr
  rw [snA_none] at cr2
  simp only [if_true, Option.isSome_some, Option.isSome_none, Bool.false_eq_true, if_false] at cb cr cr2
  have c1 := cut_v 1 (wkZ 300) (by decide)
  rw [wk_cut] at c1
  have c2 := puts_v .zero [wk1, wk1] (by intro y hy; cases hy) (by decide)
  rw [wk_puts] at c2
  have c3 := next_v wkP1
  rw [wk_n1] at c3
  have c4 := whole_v wkP1 (by decide)
  rw [wk_w1] at c4
  have c5 := putS_v wkP1 wk0 (by decide)
  rw [wk_p2] at c5
  have c6 := whole_v wkP2 (by decide)
  rw [wk_w2] at c6
  have c7 := putS_v wkP2 wk2 (by decide)
  rw [wk_p3] at c7
  have c8 := next_v wkP3
  rw [wk_n3] at c8
  have c9 := putS_v wkP3 wk0 (by decide)
  rw [wk_p4] at c9
  have hz : (byD (wkZ 300)).length = 300 := by rw [byD_len]; rfl
  have q0 : pcN wk0 = [u64D 1, i64D 0, i64D 2, .sl true true (byD (wkZ 256))] := rfl
  have q1 : pcN wk1 = [u64D 1, i64D 1, i64D 2, .sl true true (byD (wkZ 44))] := rfl
  have r0 : pcD wk0 = [u64D 1, i64D 0, i64D 2, bsD (wkZ 256)] := rfl
  have r1 : pcD wk1 = [u64D 1, i64D 1, i64D 2, bsD (wkZ 44)] := rfl
  have r2 : pcD wk2 = [u64D 2, i64D 0, i64D 3, bsD (wkZ 256)] := rfl
  have p0 : piD .zero = [u64D 0, i64D 0, .sl false false []] := rfl
  rw [p0] at c2
  simp only [List.map_cons, List.map_nil] at c1 c2
  rw [q0, q1] at c1
  rw [r1] at c2
  rw [r0] at c5 c9
  rw [r2] at c7
  simp only [piD, piM] at c2 c3 c4 c5 c6 c7 c8 c9
  generalize snBy wkS = W at *
  have hWl := byD_len W
  generalize wkP1 = P1 at *
  generalize wkP2 = P2 at *
  generalize wkP3 = P3 at *
  generalize hZ : wkZ 300 = Z at *
  generalize hY : wkZ 256 = Y at *
  generalize wkZ 44 = X at *
  refine vp_of Tryz.func8 rfl Tryz.ntmps8 rfl Tryz.results8 fun B => ?_
  repeat' (first | refine vs_mkd 1 ([noTile].map tlD) rfl (by kernel_rfl) ?_ | refine vs_mkd 300 (byD Z) rfl (by rw [← hZ]; rfl) ?_ | refine vd_mkd 256 (byD Y) rfl (by rw [← hY]; rfl) ?_ | refine vs_bsd ?_ | refine vd_bsd ?_ | rw [hc] | refine vw_any (id := 10) (by kernel_rfl) ?_ | refine nzl ?_ | refine nzd ?_ | ((first | with_reducible refine vl_id ?_ | with_reducible refine vd_id ?_); first | refine cz (cb) ?_ | refine cz (cr) ?_ | refine cz (cr2) ?_ | refine cz (cs) ?_ | refine cz (c1) ?_ | refine cz (c2) ?_ | refine cz (c3) ?_ | refine cz (c4) ?_ | refine cz (c5) ?_ | refine cz (c6) ?_ | refine cz (c7) ?_ | refine cz (c8) ?_ | refine cz (c9) ?_) | refine nzo ?_ | refine nc ?_ ?_ | (with_reducible intro _ <;> (try (exfalso; omega))) | refine vs_eqnil ?_ | refine vs_nenil ?_ | (refine nd ?_ ?_ <;> intro hg <;> (first | (exfalso; (try simp only [decide_eq_true_eq, decide_eq_false_iff_not] at hg); omega) | rw [hg])) | fail)
  all_goals try (first | rfl | (exfalso; omega) | (rename_i hz; exact absurd rfl hz))
  refine va_sub (s' := ⟨[(14, .d (.lit (.bool false))), (12, .d (.lit (.bool true))), (11, .d (i64D 0)), (10, .d (i64D 0)), (9, .d (i64D 1)), (8, .ptr 2 0), (6, .d (.sl false true [[u64D 1, i64D 0, i64D 2, .sl true true (byD Y)], [u64D 1, i64D 1, i64D 2, .sl true true (byD X)]])), (2, .d (.sl false true (byD W)))], [.c 2 0 [.d (u64D P1.snap), .d (i64D P1.many), .d (.sl false true (P1.parts.map fM))]], 3⟩) (sub_z) ?_
  refine va_use ⟨[(100, .d (i64D 0)), (14, .d (.lit (.bool false))), (12, .d (.lit (.bool true))), (11, .d (i64D 0)), (10, .d (i64D 0)), (9, .d (i64D 1)), (8, .ptr 2 0), (6, .d (.sl false true [[u64D 1, i64D 0, i64D 2, .sl true true (byD Y)], [u64D 1, i64D 1, i64D 2, .sl true true (byD X)]])), (2, .d (.sl false true (byD W)))], [.c 2 0 [.d (u64D P2.snap), .d (i64D P2.many), .d (.sl false true (P2.parts.map fM))]], 3⟩ #[true, true, true, true, true, true, true, true, true, false] 1 ?_ fun h3 => ?_
  · refine va_seq 9 rfl rfl (by decide +kernel) ?_
    repeat' (first | refine vd_mkd 256 (byD Y) rfl (by rw [← hY]; rfl) ?_ | rw [hc] | fail | refine nzl ?_ | refine nzd ?_ | ((first | with_reducible refine vl_id ?_ | with_reducible refine vd_id ?_); first | refine cz (c1) ?_ | refine cz (c2) ?_ | refine cz (c3) ?_ | refine cz (c4) ?_ | refine cz (c5) ?_ | refine cz (c6) ?_ | refine cz (c7) ?_ | refine cz (c8) ?_ | refine cz (c9) ?_ | refine cz (cr2) ?_) | refine nzo ?_ | refine nc ?_ ?_ | (with_reducible intro _ <;> (try (exfalso; omega))) | refine vs_eqnil ?_ | refine vs_nenil ?_ | (refine nd ?_ ?_ <;> intro hg <;> (first | (exfalso; (try simp only [decide_eq_true_eq, decide_eq_false_iff_not] at hg); omega) | rw [hg])) | fail)
    all_goals first | rfl | (exfalso; omega) | trace_state
  refine va_use ⟨[(94, .agg [.d (u64D P1.snap), .d (i64D P1.many), .d (.sl false true (P1.parts.map fM))]), (97, .d (.agg [u64D 1, i64D 0, i64D 2, .sl true true (byD Y)])), (14, .d (.lit (.bool false))), (12, .d (.lit (.bool true))), (11, .d (i64D 0)), (10, .d (i64D 0)), (9, .d (i64D 1)), (8, .ptr 2 0), (6, .d (.sl false true [[u64D 1, i64D 0, i64D 2, .sl true true (byD Y)], [u64D 1, i64D 1, i64D 2, .sl true true (byD X)]])), (2, .d (.sl false true (byD W)))], [.c 2 0 [.d (u64D P1.snap), .d (i64D P1.many), .d (.sl false true (P1.parts.map fM))]], 3⟩ #[true, true, true, true, false, false, false, false, false, false] 6 ?_ fun h1 => ?_
  · refine va_one 4 (by decide +kernel) rfl ?_
    repeat' (first | fail | fail | refine nzl ?_ | refine nzd ?_ | ((first | with_reducible refine vl_id ?_ | with_reducible refine vd_id ?_); first | refine cz (c5) ?_) | refine nzo ?_ | refine nc ?_ ?_ | (with_reducible intro _ <;> (try (exfalso; omega))) | refine vs_eqnil ?_ | refine vs_nenil ?_ | (refine nd ?_ ?_ <;> intro hg <;> (first | (exfalso; (try simp only [decide_eq_true_eq, decide_eq_false_iff_not] at hg); omega) | rw [hg])) | fail)
    refine anyV_n ?_
    refine va_one 5 (by decide +kernel) rfl ?_
    repeat' (first | fail | fail | refine nzl ?_ | refine nzd ?_ | ((first | with_reducible refine vl_id ?_ | with_reducible refine vd_id ?_); first | fail) | refine nzo ?_ | refine nc ?_ ?_ | (with_reducible intro _ <;> (try (exfalso; omega))) | refine vs_eqnil ?_ | refine vs_nenil ?_ | (refine nd ?_ ?_ <;> intro hg <;> (first | (exfalso; (try simp only [decide_eq_true_eq, decide_eq_false_iff_not] at hg); omega) | rw [hg])) | fail)
    refine anyV_n ?_
    refine va_two 6 7 (by decide +kernel) rfl rfl ?_ ?_
    · repeat' (first | fail | fail | refine nzl ?_ | refine nzd ?_ | ((first | with_reducible refine vl_id ?_ | with_reducible refine vd_id ?_); first | fail) | refine nzo ?_ | refine nc ?_ ?_ | (with_reducible intro _ <;> (try (exfalso; omega))) | refine vs_eqnil ?_ | refine vs_nenil ?_ | (refine nd ?_ ?_ <;> intro hg <;> (first | (exfalso; (try simp only [decide_eq_true_eq, decide_eq_false_iff_not] at hg); omega) | rw [hg])) | fail)
      refine anyV_n ?_
      refine va_two 7 8 (by decide +kernel) rfl rfl ?_ ?_
      · repeat' (first | fail | fail | refine nzl ?_ | refine nzd ?_ | ((first | with_reducible refine vl_id ?_ | with_reducible refine vd_id ?_); first | fail) | refine nzo ?_ | refine nc ?_ ?_ | (with_reducible intro _ <;> (try (exfalso; omega))) | refine vs_eqnil ?_ | refine vs_nenil ?_ | (refine nd ?_ ?_ <;> intro hg <;> (first | (exfalso; (try simp only [decide_eq_true_eq, decide_eq_false_iff_not] at hg); omega) | rw [hg])) | fail)
        refine anyV_n ?_
        refine va_one 8 (by decide +kernel) rfl ?_
        repeat' (first | fail | fail | refine nzl ?_ | refine nzd ?_ | ((first | with_reducible refine vl_id ?_ | with_reducible refine vd_id ?_); first | fail) | refine nzo ?_ | refine nc ?_ ?_ | (with_reducible intro _ <;> (try (exfalso; omega))) | refine vs_eqnil ?_ | refine vs_nenil ?_ | (refine nd ?_ ?_ <;> intro hg <;> (first | (exfalso; (try simp only [decide_eq_true_eq, decide_eq_false_iff_not] at hg); omega) | rw [hg])) | fail)
        refine anyV_n ?_
        refine va_cast #[true, true, true, true, true, true, true, true, true, false] (by decide +kernel) ?_
        exact va_sub (sub_z) h3
      · repeat' (first | fail | fail | refine nzl ?_ | refine nzd ?_ | ((first | with_reducible refine vl_id ?_ | with_reducible refine vd_id ?_); first | fail) | refine nzo ?_ | refine nc ?_ ?_ | (with_reducible intro _ <;> (try (exfalso; omega))) | refine vs_eqnil ?_ | refine vs_nenil ?_ | (refine nd ?_ ?_ <;> intro hg <;> (first | (exfalso; (try simp only [decide_eq_true_eq, decide_eq_false_iff_not] at hg); omega) | rw [hg])) | fail)
        refine anyV_n ?_
        refine va_one 7 (by decide +kernel) rfl ?_
        repeat' (first | fail | fail | refine nzl ?_ | refine nzd ?_ | ((first | with_reducible refine vl_id ?_ | with_reducible refine vd_id ?_); first | fail) | refine nzo ?_ | refine nc ?_ ?_ | (with_reducible intro _ <;> (try (exfalso; omega))) | refine vs_eqnil ?_ | refine vs_nenil ?_ | (refine nd ?_ ?_ <;> intro hg <;> (first | (exfalso; (try simp only [decide_eq_true_eq, decide_eq_false_iff_not] at hg); omega) | rw [hg])) | fail)
        refine anyV_n ?_
        refine va_cast #[true, true, true, true, true, true, true, true, true, false] (by decide +kernel) ?_
        exact va_sub (sub_z) h3
    · repeat' (first | fail | fail | refine nzl ?_ | refine nzd ?_ | ((first | with_reducible refine vl_id ?_ | with_reducible refine vd_id ?_); first | fail) | refine nzo ?_ | refine nc ?_ ?_ | (with_reducible intro _ <;> (try (exfalso; omega))) | refine vs_eqnil ?_ | refine vs_nenil ?_ | (refine nd ?_ ?_ <;> intro hg <;> (first | (exfalso; (try simp only [decide_eq_true_eq, decide_eq_false_iff_not] at hg); omega) | rw [hg])) | fail)
      refine anyV_n ?_
      refine va_one 6 (by decide +kernel) rfl ?_
      repeat' (first | fail | fail | refine nzl ?_ | refine nzd ?_ | ((first | with_reducible refine vl_id ?_ | with_reducible refine vd_id ?_); first | fail) | refine nzo ?_ | refine nc ?_ ?_ | (with_reducible intro _ <;> (try (exfalso; omega))) | refine vs_eqnil ?_ | refine vs_nenil ?_ | (refine nd ?_ ?_ <;> intro hg <;> (first | (exfalso; (try simp only [decide_eq_true_eq, decide_eq_false_iff_not] at hg); omega) | rw [hg])) | fail)
      refine anyV_n ?_
      refine va_one 8 (by decide +kernel) rfl ?_
      repeat' (first | fail | fail | refine nzl ?_ | refine nzd ?_ | ((first | with_reducible refine vl_id ?_ | with_reducible refine vd_id ?_); first | fail) | refine nzo ?_ | refine nc ?_ ?_ | (with_reducible intro _ <;> (try (exfalso; omega))) | refine vs_eqnil ?_ | refine vs_nenil ?_ | (refine nd ?_ ?_ <;> intro hg <;> (first | (exfalso; (try simp only [decide_eq_true_eq, decide_eq_false_iff_not] at hg); omega) | rw [hg])) | fail)
      refine anyV_n ?_
      refine va_cast #[true, true, true, true, true, true, true, true, true, false] (by decide +kernel) ?_
      exact va_sub (sub_z) h3
  refine va_two 0 1 (by decide +kernel) rfl rfl ?_ ?_
  · repeat' (first | fail | fail | refine nzl ?_ | refine nzd ?_ | ((first | with_reducible refine vl_id ?_ | with_reducible refine vd_id ?_); first | fail) | refine nzo ?_ | refine nc ?_ ?_ | (with_reducible intro _ <;> (try (exfalso; omega))) | refine vs_eqnil ?_ | refine vs_nenil ?_ | (refine nd ?_ ?_ <;> intro hg <;> (first | (exfalso; (try simp only [decide_eq_true_eq, decide_eq_false_iff_not] at hg); omega) | rw [hg])) | fail)
    refine anyV_n ?_
    refine va_one 1 (by decide +kernel) rfl ?_
    repeat' (first | fail | fail | refine nzl ?_ | refine nzd ?_ | ((first | with_reducible refine vl_id ?_ | with_reducible refine vd_id ?_); first | fail) | refine nzo ?_ | refine nc ?_ ?_ | (with_reducible intro _ <;> (try (exfalso; omega))) | refine vs_eqnil ?_ | refine vs_nenil ?_ | (refine nd ?_ ?_ <;> intro hg <;> (first | (exfalso; (try simp only [decide_eq_true_eq, decide_eq_false_iff_not] at hg); omega) | rw [hg])) | fail)
    refine anyV_n ?_
    refine va_one 2 (by decide +kernel) rfl ?_
    repeat' (first | fail | fail | refine nzl ?_ | refine nzd ?_ | ((first | with_reducible refine vl_id ?_ | with_reducible refine vd_id ?_); first | fail) | refine nzo ?_ | refine nc ?_ ?_ | (with_reducible intro _ <;> (try (exfalso; omega))) | refine vs_eqnil ?_ | refine vs_nenil ?_ | (refine nd ?_ ?_ <;> intro hg <;> (first | (exfalso; (try simp only [decide_eq_true_eq, decide_eq_false_iff_not] at hg); omega) | rw [hg])) | fail)
    refine anyV_n ?_
    refine va_one 3 (by decide +kernel) rfl ?_
    repeat' (first | fail | fail | refine nzl ?_ | refine nzd ?_ | ((first | with_reducible refine vl_id ?_ | with_reducible refine vd_id ?_); first | fail) | refine nzo ?_ | refine nc ?_ ?_ | (with_reducible intro _ <;> (try (exfalso; omega))) | refine vs_eqnil ?_ | refine vs_nenil ?_ | (refine nd ?_ ?_ <;> intro hg <;> (first | (exfalso; (try simp only [decide_eq_true_eq, decide_eq_false_iff_not] at hg); omega) | rw [hg])) | fail)
    refine anyV_n ?_
    refine va_cast #[true, true, true, true, false, false, false, false, false, false] (by decide +kernel) ?_
    exact va_sub (sub_z) h1
  · repeat' (first | fail | fail | refine nzl ?_ | refine nzd ?_ | ((first | with_reducible refine vl_id ?_ | with_reducible refine vd_id ?_); first | fail) | refine nzo ?_ | refine nc ?_ ?_ | (with_reducible intro _ <;> (try (exfalso; omega))) | refine vs_eqnil ?_ | refine vs_nenil ?_ | (refine nd ?_ ?_ <;> intro hg <;> (first | (exfalso; (try simp only [decide_eq_true_eq, decide_eq_false_iff_not] at hg); omega) | rw [hg])) | fail)
    refine anyV_n ?_
    refine va_two 0 2 (by decide +kernel) rfl rfl ?_ ?_
    · repeat' (first | fail | fail | refine nzl ?_ | refine nzd ?_ | ((first | with_reducible refine vl_id ?_ | with_reducible refine vd_id ?_); first | fail) | refine nzo ?_ | refine nc ?_ ?_ | (with_reducible intro _ <;> (try (exfalso; omega))) | refine vs_eqnil ?_ | refine vs_nenil ?_ | (refine nd ?_ ?_ <;> intro hg <;> (first | (exfalso; (try simp only [decide_eq_true_eq, decide_eq_false_iff_not] at hg); omega) | rw [hg])) | fail)
      refine anyV_n ?_
      refine va_one 2 (by decide +kernel) rfl ?_
      repeat' (first | fail | fail | refine nzl ?_ | refine nzd ?_ | ((first | with_reducible refine vl_id ?_ | with_reducible refine vd_id ?_); first | fail) | refine nzo ?_ | refine nc ?_ ?_ | (with_reducible intro _ <;> (try (exfalso; omega))) | refine vs_eqnil ?_ | refine vs_nenil ?_ | (refine nd ?_ ?_ <;> intro hg <;> (first | (exfalso; (try simp only [decide_eq_true_eq, decide_eq_false_iff_not] at hg); omega) | rw [hg])) | fail)
      refine anyV_n ?_
      refine va_one 3 (by decide +kernel) rfl ?_
      repeat' (first | fail | fail | refine nzl ?_ | refine nzd ?_ | ((first | with_reducible refine vl_id ?_ | with_reducible refine vd_id ?_); first | fail) | refine nzo ?_ | refine nc ?_ ?_ | (with_reducible intro _ <;> (try (exfalso; omega))) | refine vs_eqnil ?_ | refine vs_nenil ?_ | (refine nd ?_ ?_ <;> intro hg <;> (first | (exfalso; (try simp only [decide_eq_true_eq, decide_eq_false_iff_not] at hg); omega) | rw [hg])) | fail)
      refine anyV_n ?_
      refine va_cast #[true, true, true, true, false, false, false, false, false, false] (by decide +kernel) ?_
      exact va_sub (sub_z) h1
    · repeat' (first | fail | fail | refine nzl ?_ | refine nzd ?_ | ((first | with_reducible refine vl_id ?_ | with_reducible refine vd_id ?_); first | fail) | refine nzo ?_ | refine nc ?_ ?_ | (with_reducible intro _ <;> (try (exfalso; omega))) | refine vs_eqnil ?_ | refine vs_nenil ?_ | (refine nd ?_ ?_ <;> intro hg <;> (first | (exfalso; (try simp only [decide_eq_true_eq, decide_eq_false_iff_not] at hg); omega) | rw [hg])) | fail)
      refine anyV_n ?_
      refine va_two 0 3 (by decide +kernel) rfl rfl ?_ ?_
      · repeat' (first | fail | fail | refine nzl ?_ | refine nzd ?_ | ((first | with_reducible refine vl_id ?_ | with_reducible refine vd_id ?_); first | fail) | refine nzo ?_ | refine nc ?_ ?_ | (with_reducible intro _ <;> (try (exfalso; omega))) | refine vs_eqnil ?_ | refine vs_nenil ?_ | (refine nd ?_ ?_ <;> intro hg <;> (first | (exfalso; (try simp only [decide_eq_true_eq, decide_eq_false_iff_not] at hg); omega) | rw [hg])) | fail)
        refine anyV_n ?_
        refine va_one 3 (by decide +kernel) rfl ?_
        repeat' (first | fail | fail | refine nzl ?_ | refine nzd ?_ | ((first | with_reducible refine vl_id ?_ | with_reducible refine vd_id ?_); first | fail) | refine nzo ?_ | refine nc ?_ ?_ | (with_reducible intro _ <;> (try (exfalso; omega))) | refine vs_eqnil ?_ | refine vs_nenil ?_ | (refine nd ?_ ?_ <;> intro hg <;> (first | (exfalso; (try simp only [decide_eq_true_eq, decide_eq_false_iff_not] at hg); omega) | rw [hg])) | fail)
        refine anyV_n ?_
        refine va_cast #[true, true, true, true, false, false, false, false, false, false] (by decide +kernel) ?_
        exact va_sub (sub_z) h1
      · repeat' (first | fail | fail | refine nzl ?_ | refine nzd ?_ | ((first | with_reducible refine vl_id ?_ | with_reducible refine vd_id ?_); first | fail) | refine nzo ?_ | refine nc ?_ ?_ | (with_reducible intro _ <;> (try (exfalso; omega))) | refine vs_eqnil ?_ | refine vs_nenil ?_ | (refine nd ?_ ?_ <;> intro hg <;> (first | (exfalso; (try simp only [decide_eq_true_eq, decide_eq_false_iff_not] at hg); omega) | rw [hg])) | fail)
        refine anyV_n ?_
        refine va_one 0 (by decide +kernel) rfl ?_
        repeat' (first | fail | fail | refine nzl ?_ | refine nzd ?_ | ((first | with_reducible refine vl_id ?_ | with_reducible refine vd_id ?_); first | fail) | refine nzo ?_ | refine nc ?_ ?_ | (with_reducible intro _ <;> (try (exfalso; omega))) | refine vs_eqnil ?_ | refine vs_nenil ?_ | (refine nd ?_ ?_ <;> intro hg <;> (first | (exfalso; (try simp only [decide_eq_true_eq, decide_eq_false_iff_not] at hg); omega) | rw [hg])) | fail)
        refine anyV_n ?_
        refine va_cast #[true, true, true, true, false, false, false, false, false, false] (by decide +kernel) ?_
        exact va_sub (sub_z) h1
end Go.Proofs.YtkjpcjccddggoaaGreat

namespace Go.Proofs.YtkjpcjccddggoaaGreat
theorem piB_of {q : Pi} (a1 : numB q.snap = true) (a2 : 1 ≤ q.many) (a3 : q.many ≤ 64) (a4 : (q.parts.length : Int) = q.many) (a5 : anyI (wrongB q.many) 0 q.parts = false) (a6 : 0 ≤ idxP comeB 0 q.parts) : piB q = true := by
  simp [piB, a1, a2, a3, a4, a5, a6]
end Go.Proofs.YtkjpcjccddggoaaGreat

namespace Go.Proofs.YtkjpcjccddggoaaGreat
def chk (W : List UInt8) (j : Nat) : List UInt8 := (W.drop (256 * j)).take 256
def partsS (W : List UInt8) (S : Nat → Bool) : List (List UInt8) := (List.range (manyN W)).map fun j => if S j then chk W j else []
def pileS (n : Int) (W : List UInt8) (S : Nat → Bool) : Pi := if (List.range (manyN W)).any S then ⟨n, manyN W, partsS W S⟩ else .zero
def addS (S : Nat → Bool) (j : Nat) : Nat → Bool := fun i => S i || decide (i = j)
theorem chk_len {W : List UInt8} {j : Nat} : (chk W j).length = min 256 (W.length - 256 * j) := by simp [chk]
theorem chk_pos {W : List UInt8} {j : Nat} (h : j < manyN W) : 0 < (chk W j).length := by
  rw [chk_len]; unfold manyN at h; omega
theorem partB_at {W : List UInt8} {j : Nat} (h : j < manyN W) : partB j (manyN W) (chk W j).length = true := by
  have hm : manyN W = (W.length + 255) / 256 := rfl
  rw [chk_len]
  simp only [partB, Bool.and_eq_true, Bool.or_eq_true, decide_eq_true_eq]
  by_cases h4 : 256 ≤ W.length - 256 * j
  · exact .inl (by omega)
  · exact .inr ⟨⟨by omega, by omega⟩, by omega⟩
theorem pcB_at {n : Int} {W : List UInt8} {j : Nat} (hn : numB n = true) (hm : manyN W ≤ 64) (h : j < manyN W) : pcB (pcAt n W j) = true := by
  have hp := partB_at h
  show (numB n && decide (1 ≤ (manyN W : Int)) && decide ((manyN W : Int) ≤ 64) && decide (0 ≤ (j : Int)) && decide ((j : Int) < manyN W) && partB j (manyN W) (chk W j).length) = true
  rw [hp, hn]
  simp only [Bool.true_and, Bool.and_true, Bool.and_eq_true, decide_eq_true_eq]
  omega
theorem partsS_len {W : List UInt8} {S : Nat → Bool} : (partsS W S).length = manyN W := by simp [partsS]
theorem partsS_get {W : List UInt8} {S : Nat → Bool} {j : Nat} (h : j < manyN W) : (partsS W S)[j]? = some (if S j then chk W j else []) := by simp [partsS, h]
theorem partsS_set {W : List UInt8} {S : Nat → Bool} {j : Nat} : (partsS W S).set j (chk W j) = partsS W (addS S j) := by
  apply List.ext_getElem?
  intro i
  rw [List.getElem?_set, partsS_len]
  by_cases hi : i < manyN W
  · rw [partsS_get hi, partsS_get hi]
    by_cases h : j = i
    · subst h; simp [addS, hi]
    · rw [if_neg h]
      have : i ≠ j := fun e => h e.symm
      simp [addS, this]
  · have h1 : (partsS W S)[i]? = none := List.getElem?_eq_none (by rw [partsS_len]; omega)
    have h2 : (partsS W (addS S j))[i]? = none := List.getElem?_eq_none (by rw [partsS_len]; omega)
    rw [h1, h2]
    by_cases h : j = i
    · subst h; rw [if_pos rfl, if_neg hi]
    · rw [if_neg h]
theorem any_get {m : Nat} {S : Nat → Bool} : (List.range m).any S = true ↔ ∃ j, j < m ∧ S j = true := by simp
theorem any_no {m : Nat} {S : Nat → Bool} (h : ¬ (List.range m).any S = true) {j : Nat} (hj : j < m) : S j = false := by
  cases e : S j
  · rfl
  · exact (h (any_get.2 ⟨j, hj, e⟩)).elim
theorem partsS_no {W : List UInt8} {S : Nat → Bool} (h : ¬ (List.range (manyN W)).any S = true) : partsS W S = List.replicate (manyN W) [] := by
  apply List.ext_getElem?
  intro i
  by_cases hi : i < manyN W
  · rw [partsS_get hi, any_no h hi]; simp [hi]
  · rw [List.getElem?_eq_none (by rw [partsS_len]; omega), List.getElem?_eq_none (by simp; omega)]
theorem any_add {m : Nat} {S : Nat → Bool} {j : Nat} (hj : j < m) : (List.range m).any (addS S j) = true := any_get.2 ⟨j, hj, by simp [addS]⟩
theorem put_S {n : Int} {W : List UInt8} {S : Nat → Bool} {j : Nat} (hn : numB n = true) (hm : manyN W ≤ 64) (hj : j < manyN W) (hS : S j = false) :
    putOk (pileS n W S) (pcAt n W j) = true ∧ (pileS n W S).put (pcAt n W j) = pileS n W (addS S j) := by
  have hp := pcB_at hn hm hj
  have hb : (pcAt n W j).b = chk W j := rfl
  have hn1 : 1 ≤ n := by simp only [numB, Bool.and_eq_true, decide_eq_true_eq] at hn; exact hn.1
  by_cases ha : (List.range (manyN W)).any S = true
  · have e : pileS n W S = ⟨n, manyN W, partsS W S⟩ := by simp only [pileS, ha, if_true]
    have hg : (partsS W S)[j]? = some [] := by rw [partsS_get hj, hS]; rfl
    refine ⟨?_, ?_⟩
    · rw [e]
      simp only [putOk, hp, Bool.true_and, Bool.or_eq_true, Bool.and_eq_true, decide_eq_true_eq]
      exact .inr ⟨⟨rfl, rfl⟩, hg⟩
    · rw [e]
      have : ¬ n < (pcAt n W j).snap := Int.lt_irrefl n
      unfold Pi.put
      rw [if_neg this]
      unfold pileS
      rw [if_pos (any_add hj)]
      simp only [Pi.set, hb]
      rw [show (pcAt n W j).idx.toNat = j from rfl, partsS_set]
  · have e : pileS n W S = .zero := by simp only [pileS, ha]; rfl
    have h0 : (Pi.zero).snap < (pcAt n W j).snap := by show (0 : Int) < n; omega
    refine ⟨?_, ?_⟩
    · rw [e]
      simp only [putOk, hp, Bool.true_and, Bool.or_eq_true, decide_eq_true_eq]
      exact .inl h0
    · rw [e]
      unfold Pi.put
      rw [if_pos h0]
      unfold pileS
      rw [if_pos (any_add hj)]
      simp only [Pi.set, Pi.fresh, hb]
      rw [show (pcAt n W j).idx.toNat = j from rfl, show (pcAt n W j).many.toNat = manyN W from rfl, ← partsS_no ha, partsS_set]
      rfl
theorem anyI_of {p : Nat → List UInt8 → Bool} : ∀ {l : List (List UInt8)} {i : Nat}, (∀ j x, l[j]? = some x → p (i + j) x = false) → anyI p i l = false
  | [], _, _ => rfl
  | x :: l, i, h => by
    simp only [anyI, Bool.or_eq_false_iff]
    refine ⟨by have := h 0 x rfl; simpa using this, anyI_of fun j y hy => ?_⟩
    have := h (j + 1) y (by simpa using hy)
    rwa [show i + (j + 1) = i + 1 + j by omega] at this
theorem idx_any {p : List UInt8 → Bool} : ∀ (l : List (List UInt8)) (i : Nat), l.any p = decide (0 ≤ idxP p i l)
  | [], i => by simp [idxP]
  | x :: l, i => by
    rw [List.any_cons, idx_any l (i + 1), idxP_cons]
    cases h : p x <;> simp
theorem idx_get {p : List UInt8 → Bool} : ∀ {l : List (List UInt8)} {i : Nat}, 0 ≤ idxP p i l → ∃ j x, idxP p i l = ((i + j : Nat) : Int) ∧ l[j]? = some x ∧ p x = true
  | [], i, h => by simp [idxP] at h
  | x :: l, i, h => by
    rw [idxP_cons] at h ⊢
    cases hp : p x with
    | true => exact ⟨0, x, by simp, rfl, hp⟩
    | false =>
      rw [hp] at h
      simp only [Bool.false_eq_true, if_false] at h ⊢
      obtain ⟨j, y, h1, h2, h3⟩ := idx_get h
      exact ⟨j + 1, y, by rw [h1]; congr 1; omega, by simpa using h2, h3⟩
theorem piB_S {n : Int} {W : List UInt8} {S : Nat → Bool} (hn : numB n = true) (hm : manyN W ≤ 64) : piB (pileS n W S) = true := by
  unfold pileS
  split
  · rename_i ha
    obtain ⟨j, hj, hS⟩ := any_get.1 ha
    refine piB_of hn (by simp only; omega) (by simp only; omega) (by simp only [partsS_len]) (anyI_of fun i x hx => ?_) ?_
    · have hi : i < manyN W := by have := (List.getElem?_eq_some_iff.1 hx).1; rwa [partsS_len] at this
      rw [partsS_get hi] at hx
      cases hx
      rw [Nat.zero_add]
      by_cases h : S i = true
      · simp only [h, if_true, wrongB]
        rw [partB_at hi]; simp
      · simp [h, wrongB, comeB]
    · have := any_idx (partsS W S) 0
      have h2 : (partsS W S).any comeB = true := List.any_eq_true.2 ⟨chk W j, List.mem_of_getElem? (i := j) (by rw [partsS_get hj, hS]; rfl), by simp only [comeB, decide_eq_true_eq]; exact chk_pos hj⟩
      rw [h2] at this
      exact of_decide_eq_true this.symm
  · rfl
theorem no_S {n : Int} {W : List UInt8} {S : Nat → Bool} {j : Nat} (hn : numB n = true) (hm : manyN W ≤ 64) (hj : j < manyN W) (hS : S j = true) : putOk (pileS n W S) (pcAt n W j) = false ∧ putErr (pileS n W S) (pcAt n W j) = 5 := by
  have hp := pcB_at hn hm hj
  have ha : (List.range (manyN W)).any S = true := any_get.2 ⟨j, hj, hS⟩
  have e : pileS n W S = ⟨n, manyN W, partsS W S⟩ := by simp only [pileS, ha, if_true]
  have hg : (partsS W S)[j]? = some (chk W j) := by rw [partsS_get hj, hS]; rfl
  have hc := chk_pos hj
  rw [e]
  refine ⟨?_, ?_⟩
  · simp only [putOk, hp, Bool.true_and]
    have h1 : ¬ n < (pcAt n W j).snap := Int.lt_irrefl n
    have h2 : ¬ (partsS W S)[(pcAt n W j).idx.toNat]? = some [] := by
      rw [show (pcAt n W j).idx.toNat = j from rfl, hg]
      intro h; cases h' : chk W j
      · rw [h'] at hc; simp at hc
      · rw [h'] at h; simp at h
    simp [h1, h2]
  · unfold putErr
    have q1 : ¬ (pcAt n W j).snap < (⟨n, manyN W, partsS W S⟩ : Pi).snap := Int.lt_irrefl n
    have q2 : ¬ ((pcAt n W j).snap = (⟨n, manyN W, partsS W S⟩ : Pi).snap ∧ (pcAt n W j).many ≠ (⟨n, manyN W, partsS W S⟩ : Pi).many) := fun h => h.2 rfl
    rw [if_neg (by rw [hp]; simp), if_neg q1, if_neg q2]
theorem chunks (W : List UInt8) : ∀ m, ((List.range m).map (chk W)).flatten = W.take (256 * m)
  | 0 => by simp
  | m + 1 => by
    rw [List.range_succ, List.map_append, List.flatten_append, chunks W m, show 256 * (m + 1) = 256 * m + 256 by omega, List.take_add]
    simp [chk]
theorem ends_S {n : Int} {W : List UInt8} {S : Nat → Bool} (hn : numB n = true) (hm : manyN W ≤ 64) (h0 : 0 < W.length) :
    ((∀ j, j < manyN W → S j = true) ∧ nextE (pileS n W S) = (0, false) ∧ wholeE (pileS n W S) = (W, true)) ∨
    (∃ j, j < manyN W ∧ S j = false ∧ nextE (pileS n W S) = ((j : Int), true) ∧ wholeE (pileS n W S) = ([], false)) := by
  have hb := piB_S (n := n) (W := W) (S := S) hn hm
  have hM : 0 < manyN W := by unfold manyN; omega
  by_cases ha : (List.range (manyN W)).any S = true
  · have e : pileS n W S = ⟨n, manyN W, partsS W S⟩ := by simp only [pileS, ha, if_true]
    rw [e] at hb ⊢
    have hm0 : ¬ ((manyN W : Int) = 0) := by omega
    by_cases hi : 0 ≤ idxP ncB 0 (partsS W S)
    · obtain ⟨j, x, h1, h2, h3⟩ := idx_get hi
      have hj : j < manyN W := by have := (List.getElem?_eq_some_iff.1 h2).1; rwa [partsS_len] at this
      rw [partsS_get hj] at h2
      rw [Nat.zero_add] at h1
      have hSj : S j = false := by
        cases hS : S j with
        | false => rfl
        | true =>
          rw [hS] at h2
          cases h2
          simp only [if_true, ncB, comeB, Bool.not_eq_true', decide_eq_false_iff_not] at h3
          exact (h3 (chk_pos hj)).elim
      have hne : nextE ⟨n, manyN W, partsS W S⟩ = ((j : Int), true) := by
        unfold nextE
        rw [if_neg (by rw [hb]; simp), if_neg hm0]
        simp only [h1]
        refine Prod.ext ?_ ?_
        · simp only; omega
        · simp only [decide_eq_true_eq]; omega
      exact .inr ⟨j, hj, hSj, hne, by unfold wholeE; rw [if_pos (.inl (by rw [hne]))]⟩
    · have hall : ∀ j, j < manyN W → S j = true := fun j hj => by
        cases hS : S j with
        | true => rfl
        | false =>
          have := idx_any (p := ncB) (partsS W S) 0
          have h2 : (partsS W S).any ncB = true := List.any_eq_true.2 ⟨[], List.mem_of_getElem? (i := j) (by rw [partsS_get hj, hS]; rfl), by simp [ncB, comeB]⟩
          rw [h2] at this
          exact (hi (of_decide_eq_true this.symm)).elim
      have hne : nextE ⟨n, manyN W, partsS W S⟩ = (0, false) := by
        unfold nextE
        rw [if_neg (by rw [hb]; simp), if_neg hm0]
        refine Prod.ext ?_ ?_
        · simp only; omega
        · simp only [decide_eq_false_iff_not]; exact hi
      have hp : partsS W S = (List.range (manyN W)).map (chk W) := by
        unfold partsS
        apply List.map_congr_left
        intro j hj
        rw [List.mem_range] at hj
        rw [hall j hj]; rfl
      refine .inl ⟨hall, hne, ?_⟩
      unfold wholeE
      rw [if_neg (by rw [hne, hb]; simp)]
      simp only [hp, chunks]
      rw [List.take_of_length_le (by unfold manyN; omega)]
  · have e : pileS n W S = .zero := by simp only [pileS, ha]; rfl
    have hne : nextE .zero = (0, true) := by decide
    rw [e]
    exact .inr ⟨0, hM, any_no ha hM, hne, by unfold wholeE; rw [if_pos (.inl (by rw [hne]))]⟩
/-- all of them, one behind the other, on a pile of some -/
theorem putsS_all {n : Int} {W : List UInt8} (hn : numB n = true) (hm : manyN W ≤ 64) : ∀ (m i : Nat) (S : Nat → Bool) (k : Nat), i + m = manyN W →
    putsP (pileS n W S, k) ((List.range' i m).map (pcAt n W)) = (pileS n W (fun j => S j || decide (i ≤ j ∧ j < i + m)), k + ((List.range' i m).filter S).length)
  | 0, i, S, k, _ => by
    simp only [List.range'_zero, List.map_nil, putsP, List.filter_nil, List.length_nil, Nat.add_zero]
    congr 2
    funext j
    have : ¬ (i ≤ j ∧ j < i) := by omega
    simp [this]
  | m + 1, i, S, k, h => by
    have hi : i < manyN W := by omega
    rw [List.range'_succ, List.map_cons, putsP]
    cases hS : S i with
    | true =>
      obtain ⟨h1, _⟩ := no_S hn hm hi hS
      rw [if_neg (by rw [h1]; simp), putsS_all hn hm m (i + 1) S (k + 1) (by omega), List.filter_cons_of_pos hS]
      refine Prod.ext ?_ (by simp only [List.length_cons]; omega)
      simp only
      congr 1
      funext j
      by_cases hj : j = i
      · subst hj; simp [hS]
      · have : (i + 1 ≤ j ∧ j < i + 1 + m) ↔ (i ≤ j ∧ j < i + (m + 1)) := by omega
        simp only [this]
    | false =>
      obtain ⟨h1, h2⟩ := put_S hn hm hi hS
      rw [if_pos h1, h2, putsS_all hn hm m (i + 1) (addS S i) k (by omega), List.filter_cons_of_neg (by rw [hS]; simp)]
      refine Prod.ext ?_ ?_
      · simp only
        congr 1
        funext j
        by_cases hj : j = i
        · subst hj; simp [addS]
        · have : (i + 1 ≤ j ∧ j < i + 1 + m) ↔ (i ≤ j ∧ j < i + (m + 1)) := by omega
          simp only [addS, hj, this, decide_false, Bool.or_false]
      · simp only
        congr 2
        apply List.filter_congr
        intro j hj
        rw [List.mem_range'_1] at hj
        have : j ≠ i := by omega
        simp [addS, this]
end Go.Proofs.YtkjpcjccddggoaaGreat
