/- Walks by data and names, part 47: Layer 21, by V: SnapGathers, but for the loop's bound on its bytes. -/
import Derived.Test.YtkjpcjccddggoaaGreatQk44
import Derived.Test.YtkjpcjccddggoaaGreatQk45
import Derived.Test.YtkjpcjccddggoaaGreatQk46
namespace Go.Proofs.YtkjpcjccddggoaaGreat
open Go.RowKit
set_option maxRecDepth 10000
set_option maxHeartbeats 4000000
instance dlss_pcNg (l : List Pc) : DLss (l.map pcN) (l.map pcD) := dlss_map l _ _ (fun _ => inferInstance) (fun _ => rfl)
instance : MapI Tryz.prog 33 := ⟨_, _, Tryz.underlying33, by kernel_rfl, fun w => by kernel_rfl⟩
def lopC : Code → Code
  | .loop c => c
  | c => c
def blkC : Code → Code
  | .block _ c => c
  | c => c
abbrev gaC (B : Nat) : Cx := ⟨151, none, B, 0, some B, []⟩
abbrev gaS (s : Int) (W : List UInt8) (T : List Int) (b : Nat) (p : Pi) (i : Nat) : St := ⟨[(44, I .i64 i), (43, I .i64 (T.map fun n => [i64D n]).length), (42, .d (.sl false false (T.map fun n => [i64D n]))), (10, mapVb b), (9, .ptr 0 0), (7, .d (.sl false true ((pcsOf s W).map pcN))), (1, .d (bsD W))], [.c 0 0 [.d (u64D p.snap), .d (i64D p.many), .d (.sl false false (p.parts.map fD))]], 1⟩
/-- the store of the pile and of the map, in whatever order -/
theorem ga_put {b : Nat} {B : Nat} {s : Int} {W : List UInt8} {T L : List Int} {p p' : Pi} {x : Pc} {i : Nat} {Q : VE → St → List Int → Prop} (hokL : okL L) (hxi : (Lit.int .i64 x.idx).wf = true) (hni : x.idx ∉ L)
    (hQ : Q .normal ⟨[(78, mapVb b), (79, .ptr 1 (0 + 1)), (80, .d (i64D x.idx)), (14, .ptr 2 0), (13, .ptr 1 0), (44, I .i64 i), (43, I .i64 (T.map fun n => [i64D n]).length), (42, .d (.sl false false (T.map fun n => [i64D n]))), (10, mapVb b), (9, .ptr 0 0), (7, .d (.sl false true ((pcsOf s W).map pcN))), (1, .d (bsD W))], [.c 2 0 [.d (u64D p'.snap), .d (i64D p'.many), .d (.sl false true (p'.parts.map fM))], .c 1 0 [.d (u64D x.snap), .d (i64D x.idx), .d (i64D x.many), .d (.sl true true (byD x.b))], .c 0 0 [.d (u64D p'.snap), .d (i64D p'.many), .d (.sl false true (p'.parts.map fM))]], 3⟩ (L ++ [x.idx])) : VWm Tryz.prog (gaC B) b (fstC (sndC 5 (blkC (fstC (sndC 2 (lopC (blkC (sndC 1 (fstC (sndC 6 (bodyC Tryz.f3))))))))))) ⟨[(14, .ptr 2 0), (13, .ptr 1 0), (44, I .i64 i), (43, I .i64 (T.map fun n => [i64D n]).length), (42, .d (.sl false false (T.map fun n => [i64D n]))), (10, mapVb b), (9, .ptr 0 0), (7, .d (.sl false true ((pcsOf s W).map pcN))), (1, .d (bsD W))], [.c 2 0 [.d (u64D p'.snap), .d (i64D p'.many), .d (.sl false true (p'.parts.map fM))], .c 1 0 [.d (u64D x.snap), .d (i64D x.idx), .d (i64D x.many), .d (.sl true true (byD x.b))], .c 0 0 [.d (u64D p.snap), .d (i64D p.many), .d (.sl false false (p.parts.map fD))]], 3⟩ L Q := by
  refine vwm_any (by kernel_rfl) ?_

  refine vam_use ⟨[(78, mapVb b), (79, .ptr 1 (0 + 1)), (80, .d (i64D x.idx)), (14, .ptr 2 0), (13, .ptr 1 0), (44, I .i64 i), (43, I .i64 (T.map fun n => [i64D n]).length), (42, .d (.sl false false (T.map fun n => [i64D n]))), (10, mapVb b), (9, .ptr 0 0), (7, .d (.sl false true ((pcsOf s W).map pcN))), (1, .d (bsD W))], [.c 2 0 [.d (u64D p'.snap), .d (i64D p'.many), .d (.sl false true (p'.parts.map fM))], .c 1 0 [.d (u64D x.snap), .d (i64D x.idx), .d (i64D x.many), .d (.sl true true (byD x.b))], .c 0 0 [.d (u64D p'.snap), .d (i64D p'.many), .d (.sl false true (p'.parts.map fM))]], 3⟩ #[true, true, true, true, true, false] 1 ?_ fun h122 => ?_
  · refine vam_seq 5 rfl rfl (by decide +kernel) ?_
    refine vlm_put ?_ hokL hxi hni
    refine vlm_nil ?_
    exact hQ
  refine vam_use ⟨[(79, .ptr 1 (0 + 1)), (80, .d (i64D x.idx)), (14, .ptr 2 0), (13, .ptr 1 0), (44, I .i64 i), (43, I .i64 (T.map fun n => [i64D n]).length), (42, .d (.sl false false (T.map fun n => [i64D n]))), (10, mapVb b), (9, .ptr 0 0), (7, .d (.sl false true ((pcsOf s W).map pcN))), (1, .d (bsD W))], [.c 2 0 [.d (u64D p'.snap), .d (i64D p'.many), .d (.sl false true (p'.parts.map fM))], .c 1 0 [.d (u64D x.snap), .d (i64D x.idx), .d (i64D x.many), .d (.sl true true (byD x.b))], .c 0 0 [.d (u64D p'.snap), .d (i64D p'.many), .d (.sl false true (p'.parts.map fM))]], 3⟩ #[false, true, true, true, true, false] 2 ?_ fun h022 => ?_
  · refine vam_step (is := [0]) (by decide +kernel) (by simp) fun i hi => ?_
    obtain rfl : i = 0 := by simpa using hi
    · refine ⟨_, rfl, ?_⟩
      repeat' (first | fail | fail | refine nzl ?_ | refine nzd ?_ | ((first | with_reducible refine vl_id ?_ | with_reducible refine vd_id ?_); first | fail) | refine nzo ?_ | refine nc ?_ ?_ | (with_reducible intro _ <;> (try (exfalso; omega))) | refine vs_eqnil ?_ | refine vs_nenil ?_ | (refine nd ?_ ?_ <;> intro hg <;> (first | (exfalso; (try simp only [decide_eq_true_eq, decide_eq_false_iff_not] at hg); omega) | rw [hg])) | fail)
      refine vam_cast #[true, true, true, true, true, false] (by decide +kernel) ?_
      exact vam_sub (sub_z) h122
  refine vam_use ⟨[(78, mapVb b), (79, .ptr 1 (0 + 1)), (14, .ptr 2 0), (13, .ptr 1 0), (44, I .i64 i), (43, I .i64 (T.map fun n => [i64D n]).length), (42, .d (.sl false false (T.map fun n => [i64D n]))), (10, mapVb b), (9, .ptr 0 0), (7, .d (.sl false true ((pcsOf s W).map pcN))), (1, .d (bsD W))], [.c 2 0 [.d (u64D p'.snap), .d (i64D p'.many), .d (.sl false true (p'.parts.map fM))], .c 1 0 [.d (u64D x.snap), .d (i64D x.idx), .d (i64D x.many), .d (.sl true true (byD x.b))], .c 0 0 [.d (u64D p'.snap), .d (i64D p'.many), .d (.sl false true (p'.parts.map fM))]], 3⟩ #[true, true, false, true, true, false] 2 ?_ fun h112 => ?_
  · refine vam_step (is := [2]) (by decide +kernel) (by simp) fun i hi => ?_
    obtain rfl : i = 2 := by simpa using hi
    · refine ⟨_, rfl, ?_⟩
      repeat' (first | fail | fail | refine nzl ?_ | refine nzd ?_ | ((first | with_reducible refine vl_id ?_ | with_reducible refine vd_id ?_); first | fail) | refine nzo ?_ | refine nc ?_ ?_ | (with_reducible intro _ <;> (try (exfalso; omega))) | refine vs_eqnil ?_ | refine vs_nenil ?_ | (refine nd ?_ ?_ <;> intro hg <;> (first | (exfalso; (try simp only [decide_eq_true_eq, decide_eq_false_iff_not] at hg); omega) | rw [hg])) | fail)
      refine vam_cast #[true, true, true, true, true, false] (by decide +kernel) ?_
      exact vam_sub (sub_z) h122
  refine vam_use ⟨[(78, mapVb b), (79, .ptr 1 (0 + 1)), (80, .d (i64D x.idx)), (81, .agg [.d (u64D p'.snap), .d (i64D p'.many), .d (.sl false true (p'.parts.map fM))]), (14, .ptr 2 0), (13, .ptr 1 0), (44, I .i64 i), (43, I .i64 (T.map fun n => [i64D n]).length), (42, .d (.sl false false (T.map fun n => [i64D n]))), (10, mapVb b), (9, .ptr 0 0), (7, .d (.sl false true ((pcsOf s W).map pcN))), (1, .d (bsD W))], [.c 2 0 [.d (u64D p'.snap), .d (i64D p'.many), .d (.sl false true (p'.parts.map fM))], .c 1 0 [.d (u64D x.snap), .d (i64D x.idx), .d (i64D x.many), .d (.sl true true (byD x.b))], .c 0 0 [.d (u64D p.snap), .d (i64D p.many), .d (.sl false false (p.parts.map fD))]], 3⟩ #[true, true, true, true, false, false] 2 ?_ fun h121 => ?_
  · refine vam_step (is := [4]) (by decide +kernel) (by simp) fun i hi => ?_
    obtain rfl : i = 4 := by simpa using hi
    · refine ⟨_, rfl, ?_⟩
      repeat' (first | fail | fail | refine nzl ?_ | refine nzd ?_ | ((first | with_reducible refine vl_id ?_ | with_reducible refine vd_id ?_); first | fail) | refine nzo ?_ | refine nc ?_ ?_ | (with_reducible intro _ <;> (try (exfalso; omega))) | refine vs_eqnil ?_ | refine vs_nenil ?_ | (refine nd ?_ ?_ <;> intro hg <;> (first | (exfalso; (try simp only [decide_eq_true_eq, decide_eq_false_iff_not] at hg); omega) | rw [hg])) | fail)
      refine vam_cast #[true, true, true, true, true, false] (by decide +kernel) ?_
      exact vam_sub (sub_z) h122
  refine vam_use ⟨[(79, .ptr 1 (0 + 1)), (14, .ptr 2 0), (13, .ptr 1 0), (44, I .i64 i), (43, I .i64 (T.map fun n => [i64D n]).length), (42, .d (.sl false false (T.map fun n => [i64D n]))), (10, mapVb b), (9, .ptr 0 0), (7, .d (.sl false true ((pcsOf s W).map pcN))), (1, .d (bsD W))], [.c 2 0 [.d (u64D p'.snap), .d (i64D p'.many), .d (.sl false true (p'.parts.map fM))], .c 1 0 [.d (u64D x.snap), .d (i64D x.idx), .d (i64D x.many), .d (.sl true true (byD x.b))], .c 0 0 [.d (u64D p'.snap), .d (i64D p'.many), .d (.sl false true (p'.parts.map fM))]], 3⟩ #[false, true, false, true, true, false] 3 ?_ fun h012 => ?_
  · refine vam_step (is := [0, 2]) (by decide +kernel) (by simp) fun i hi => ?_
    obtain rfl | rfl : i = 0 ∨ i = 2 := by simpa using hi
    · refine ⟨_, rfl, ?_⟩
      repeat' (first | fail | fail | refine nzl ?_ | refine nzd ?_ | ((first | with_reducible refine vl_id ?_ | with_reducible refine vd_id ?_); first | fail) | refine nzo ?_ | refine nc ?_ ?_ | (with_reducible intro _ <;> (try (exfalso; omega))) | refine vs_eqnil ?_ | refine vs_nenil ?_ | (refine nd ?_ ?_ <;> intro hg <;> (first | (exfalso; (try simp only [decide_eq_true_eq, decide_eq_false_iff_not] at hg); omega) | rw [hg])) | fail)
      refine vam_cast #[true, true, false, true, true, false] (by decide +kernel) ?_
      exact vam_sub (sub_z) h112
    · refine ⟨_, rfl, ?_⟩
      repeat' (first | fail | fail | refine nzl ?_ | refine nzd ?_ | ((first | with_reducible refine vl_id ?_ | with_reducible refine vd_id ?_); first | fail) | refine nzo ?_ | refine nc ?_ ?_ | (with_reducible intro _ <;> (try (exfalso; omega))) | refine vs_eqnil ?_ | refine vs_nenil ?_ | (refine nd ?_ ?_ <;> intro hg <;> (first | (exfalso; (try simp only [decide_eq_true_eq, decide_eq_false_iff_not] at hg); omega) | rw [hg])) | fail)
      refine vam_cast #[false, true, true, true, true, false] (by decide +kernel) ?_
      exact vam_sub (sub_z) h022
  refine vam_use ⟨[(79, .ptr 1 (0 + 1)), (80, .d (i64D x.idx)), (81, .agg [.d (u64D p'.snap), .d (i64D p'.many), .d (.sl false true (p'.parts.map fM))]), (14, .ptr 2 0), (13, .ptr 1 0), (44, I .i64 i), (43, I .i64 (T.map fun n => [i64D n]).length), (42, .d (.sl false false (T.map fun n => [i64D n]))), (10, mapVb b), (9, .ptr 0 0), (7, .d (.sl false true ((pcsOf s W).map pcN))), (1, .d (bsD W))], [.c 2 0 [.d (u64D p'.snap), .d (i64D p'.many), .d (.sl false true (p'.parts.map fM))], .c 1 0 [.d (u64D x.snap), .d (i64D x.idx), .d (i64D x.many), .d (.sl true true (byD x.b))], .c 0 0 [.d (u64D p.snap), .d (i64D p.many), .d (.sl false false (p.parts.map fD))]], 3⟩ #[false, true, true, true, false, false] 3 ?_ fun h021 => ?_
  · refine vam_step (is := [0, 4]) (by decide +kernel) (by simp) fun i hi => ?_
    obtain rfl | rfl : i = 0 ∨ i = 4 := by simpa using hi
    · refine ⟨_, rfl, ?_⟩
      repeat' (first | fail | fail | refine nzl ?_ | refine nzd ?_ | ((first | with_reducible refine vl_id ?_ | with_reducible refine vd_id ?_); first | fail) | refine nzo ?_ | refine nc ?_ ?_ | (with_reducible intro _ <;> (try (exfalso; omega))) | refine vs_eqnil ?_ | refine vs_nenil ?_ | (refine nd ?_ ?_ <;> intro hg <;> (first | (exfalso; (try simp only [decide_eq_true_eq, decide_eq_false_iff_not] at hg); omega) | rw [hg])) | fail)
      refine vam_cast #[true, true, true, true, false, false] (by decide +kernel) ?_
      exact vam_sub (sub_z) h121
    · refine ⟨_, rfl, ?_⟩
      repeat' (first | fail | fail | refine nzl ?_ | refine nzd ?_ | ((first | with_reducible refine vl_id ?_ | with_reducible refine vd_id ?_); first | fail) | refine nzo ?_ | refine nc ?_ ?_ | (with_reducible intro _ <;> (try (exfalso; omega))) | refine vs_eqnil ?_ | refine vs_nenil ?_ | (refine nd ?_ ?_ <;> intro hg <;> (first | (exfalso; (try simp only [decide_eq_true_eq, decide_eq_false_iff_not] at hg); omega) | rw [hg])) | fail)
      refine vam_cast #[false, true, true, true, true, false] (by decide +kernel) ?_
      exact vam_sub (sub_z) h022
  refine vam_use ⟨[(78, mapVb b), (14, .ptr 2 0), (13, .ptr 1 0), (44, I .i64 i), (43, I .i64 (T.map fun n => [i64D n]).length), (42, .d (.sl false false (T.map fun n => [i64D n]))), (10, mapVb b), (9, .ptr 0 0), (7, .d (.sl false true ((pcsOf s W).map pcN))), (1, .d (bsD W))], [.c 2 0 [.d (u64D p'.snap), .d (i64D p'.many), .d (.sl false true (p'.parts.map fM))], .c 1 0 [.d (u64D x.snap), .d (i64D x.idx), .d (i64D x.many), .d (.sl true true (byD x.b))], .c 0 0 [.d (u64D p'.snap), .d (i64D p'.many), .d (.sl false true (p'.parts.map fM))]], 3⟩ #[true, false, false, true, true, false] 3 ?_ fun h102 => ?_
  · refine vam_step (is := [1]) (by decide +kernel) (by simp) fun i hi => ?_
    obtain rfl : i = 1 := by simpa using hi
    · refine ⟨_, rfl, ?_⟩
      repeat' (first | fail | fail | refine nzl ?_ | refine nzd ?_ | ((first | with_reducible refine vl_id ?_ | with_reducible refine vd_id ?_); first | fail) | refine nzo ?_ | refine nc ?_ ?_ | (with_reducible intro _ <;> (try (exfalso; omega))) | refine vs_eqnil ?_ | refine vs_nenil ?_ | (refine nd ?_ ?_ <;> intro hg <;> (first | (exfalso; (try simp only [decide_eq_true_eq, decide_eq_false_iff_not] at hg); omega) | rw [hg])) | fail)
      refine vam_cast #[true, true, false, true, true, false] (by decide +kernel) ?_
      exact vam_sub (sub_z) h112
  refine vam_use ⟨[(78, mapVb b), (79, .ptr 1 (0 + 1)), (81, .agg [.d (u64D p'.snap), .d (i64D p'.many), .d (.sl false true (p'.parts.map fM))]), (14, .ptr 2 0), (13, .ptr 1 0), (44, I .i64 i), (43, I .i64 (T.map fun n => [i64D n]).length), (42, .d (.sl false false (T.map fun n => [i64D n]))), (10, mapVb b), (9, .ptr 0 0), (7, .d (.sl false true ((pcsOf s W).map pcN))), (1, .d (bsD W))], [.c 2 0 [.d (u64D p'.snap), .d (i64D p'.many), .d (.sl false true (p'.parts.map fM))], .c 1 0 [.d (u64D x.snap), .d (i64D x.idx), .d (i64D x.many), .d (.sl true true (byD x.b))], .c 0 0 [.d (u64D p.snap), .d (i64D p.many), .d (.sl false false (p.parts.map fD))]], 3⟩ #[true, true, false, true, false, false] 3 ?_ fun h111 => ?_
  · refine vam_step (is := [2, 4]) (by decide +kernel) (by simp) fun i hi => ?_
    obtain rfl | rfl : i = 2 ∨ i = 4 := by simpa using hi
    · refine ⟨_, rfl, ?_⟩
      repeat' (first | fail | fail | refine nzl ?_ | refine nzd ?_ | ((first | with_reducible refine vl_id ?_ | with_reducible refine vd_id ?_); first | fail) | refine nzo ?_ | refine nc ?_ ?_ | (with_reducible intro _ <;> (try (exfalso; omega))) | refine vs_eqnil ?_ | refine vs_nenil ?_ | (refine nd ?_ ?_ <;> intro hg <;> (first | (exfalso; (try simp only [decide_eq_true_eq, decide_eq_false_iff_not] at hg); omega) | rw [hg])) | fail)
      refine vam_cast #[true, true, true, true, false, false] (by decide +kernel) ?_
      exact vam_sub (sub_z) h121
    · refine ⟨_, rfl, ?_⟩
      repeat' (first | fail | fail | refine nzl ?_ | refine nzd ?_ | ((first | with_reducible refine vl_id ?_ | with_reducible refine vd_id ?_); first | fail) | refine nzo ?_ | refine nc ?_ ?_ | (with_reducible intro _ <;> (try (exfalso; omega))) | refine vs_eqnil ?_ | refine vs_nenil ?_ | (refine nd ?_ ?_ <;> intro hg <;> (first | (exfalso; (try simp only [decide_eq_true_eq, decide_eq_false_iff_not] at hg); omega) | rw [hg])) | fail)
      refine vam_cast #[true, true, false, true, true, false] (by decide +kernel) ?_
      exact vam_sub (sub_z) h112
  refine vam_use ⟨[(78, mapVb b), (79, .ptr 1 (0 + 1)), (80, .d (i64D x.idx)), (14, .ptr 2 0), (13, .ptr 1 0), (44, I .i64 i), (43, I .i64 (T.map fun n => [i64D n]).length), (42, .d (.sl false false (T.map fun n => [i64D n]))), (10, mapVb b), (9, .ptr 0 0), (7, .d (.sl false true ((pcsOf s W).map pcN))), (1, .d (bsD W))], [.c 2 0 [.d (u64D p'.snap), .d (i64D p'.many), .d (.sl false true (p'.parts.map fM))], .c 1 0 [.d (u64D x.snap), .d (i64D x.idx), .d (i64D x.many), .d (.sl true true (byD x.b))], .c 0 0 [.d (u64D p.snap), .d (i64D p.many), .d (.sl false false (p.parts.map fD))]], 3⟩ #[true, true, true, false, false, false] 3 ?_ fun h120 => ?_
  · refine vam_step (is := [3]) (by decide +kernel) (by simp) fun i hi => ?_
    obtain rfl : i = 3 := by simpa using hi
    · refine ⟨_, rfl, ?_⟩
      repeat' (first | fail | fail | refine nzl ?_ | refine nzd ?_ | ((first | with_reducible refine vl_id ?_ | with_reducible refine vd_id ?_); first | fail) | refine nzo ?_ | refine nc ?_ ?_ | (with_reducible intro _ <;> (try (exfalso; omega))) | refine vs_eqnil ?_ | refine vs_nenil ?_ | (refine nd ?_ ?_ <;> intro hg <;> (first | (exfalso; (try simp only [decide_eq_true_eq, decide_eq_false_iff_not] at hg); omega) | rw [hg])) | fail)
      refine vam_cast #[true, true, true, true, false, false] (by decide +kernel) ?_
      exact vam_sub (sub_z) h121
  refine vam_use ⟨[(14, .ptr 2 0), (13, .ptr 1 0), (44, I .i64 i), (43, I .i64 (T.map fun n => [i64D n]).length), (42, .d (.sl false false (T.map fun n => [i64D n]))), (10, mapVb b), (9, .ptr 0 0), (7, .d (.sl false true ((pcsOf s W).map pcN))), (1, .d (bsD W))], [.c 2 0 [.d (u64D p'.snap), .d (i64D p'.many), .d (.sl false true (p'.parts.map fM))], .c 1 0 [.d (u64D x.snap), .d (i64D x.idx), .d (i64D x.many), .d (.sl true true (byD x.b))], .c 0 0 [.d (u64D p'.snap), .d (i64D p'.many), .d (.sl false true (p'.parts.map fM))]], 3⟩ #[false, false, false, true, true, false] 4 ?_ fun h002 => ?_
  · refine vam_step (is := [0, 1]) (by decide +kernel) (by simp) fun i hi => ?_
    obtain rfl | rfl : i = 0 ∨ i = 1 := by simpa using hi
    · refine ⟨_, rfl, ?_⟩
      repeat' (first | fail | fail | refine nzl ?_ | refine nzd ?_ | ((first | with_reducible refine vl_id ?_ | with_reducible refine vd_id ?_); first | fail) | refine nzo ?_ | refine nc ?_ ?_ | (with_reducible intro _ <;> (try (exfalso; omega))) | refine vs_eqnil ?_ | refine vs_nenil ?_ | (refine nd ?_ ?_ <;> intro hg <;> (first | (exfalso; (try simp only [decide_eq_true_eq, decide_eq_false_iff_not] at hg); omega) | rw [hg])) | fail)
      refine vam_cast #[true, false, false, true, true, false] (by decide +kernel) ?_
      exact vam_sub (sub_z) h102
    · refine ⟨_, rfl, ?_⟩
      repeat' (first | fail | fail | refine nzl ?_ | refine nzd ?_ | ((first | with_reducible refine vl_id ?_ | with_reducible refine vd_id ?_); first | fail) | refine nzo ?_ | refine nc ?_ ?_ | (with_reducible intro _ <;> (try (exfalso; omega))) | refine vs_eqnil ?_ | refine vs_nenil ?_ | (refine nd ?_ ?_ <;> intro hg <;> (first | (exfalso; (try simp only [decide_eq_true_eq, decide_eq_false_iff_not] at hg); omega) | rw [hg])) | fail)
      refine vam_cast #[false, true, false, true, true, false] (by decide +kernel) ?_
      exact vam_sub (sub_z) h012
  refine vam_use ⟨[(79, .ptr 1 (0 + 1)), (81, .agg [.d (u64D p'.snap), .d (i64D p'.many), .d (.sl false true (p'.parts.map fM))]), (14, .ptr 2 0), (13, .ptr 1 0), (44, I .i64 i), (43, I .i64 (T.map fun n => [i64D n]).length), (42, .d (.sl false false (T.map fun n => [i64D n]))), (10, mapVb b), (9, .ptr 0 0), (7, .d (.sl false true ((pcsOf s W).map pcN))), (1, .d (bsD W))], [.c 2 0 [.d (u64D p'.snap), .d (i64D p'.many), .d (.sl false true (p'.parts.map fM))], .c 1 0 [.d (u64D x.snap), .d (i64D x.idx), .d (i64D x.many), .d (.sl true true (byD x.b))], .c 0 0 [.d (u64D p.snap), .d (i64D p.many), .d (.sl false false (p.parts.map fD))]], 3⟩ #[false, true, false, true, false, false] 4 ?_ fun h011 => ?_
  · refine vam_step (is := [0, 2, 4]) (by decide +kernel) (by simp) fun i hi => ?_
    obtain rfl | rfl | rfl : i = 0 ∨ i = 2 ∨ i = 4 := by simpa using hi
    · refine ⟨_, rfl, ?_⟩
      repeat' (first | fail | fail | refine nzl ?_ | refine nzd ?_ | ((first | with_reducible refine vl_id ?_ | with_reducible refine vd_id ?_); first | fail) | refine nzo ?_ | refine nc ?_ ?_ | (with_reducible intro _ <;> (try (exfalso; omega))) | refine vs_eqnil ?_ | refine vs_nenil ?_ | (refine nd ?_ ?_ <;> intro hg <;> (first | (exfalso; (try simp only [decide_eq_true_eq, decide_eq_false_iff_not] at hg); omega) | rw [hg])) | fail)
      refine vam_cast #[true, true, false, true, false, false] (by decide +kernel) ?_
      exact vam_sub (sub_z) h111
    · refine ⟨_, rfl, ?_⟩
      repeat' (first | fail | fail | refine nzl ?_ | refine nzd ?_ | ((first | with_reducible refine vl_id ?_ | with_reducible refine vd_id ?_); first | fail) | refine nzo ?_ | refine nc ?_ ?_ | (with_reducible intro _ <;> (try (exfalso; omega))) | refine vs_eqnil ?_ | refine vs_nenil ?_ | (refine nd ?_ ?_ <;> intro hg <;> (first | (exfalso; (try simp only [decide_eq_true_eq, decide_eq_false_iff_not] at hg); omega) | rw [hg])) | fail)
      refine vam_cast #[false, true, true, true, false, false] (by decide +kernel) ?_
      exact vam_sub (sub_z) h021
    · refine ⟨_, rfl, ?_⟩
      repeat' (first | fail | fail | refine nzl ?_ | refine nzd ?_ | ((first | with_reducible refine vl_id ?_ | with_reducible refine vd_id ?_); first | fail) | refine nzo ?_ | refine nc ?_ ?_ | (with_reducible intro _ <;> (try (exfalso; omega))) | refine vs_eqnil ?_ | refine vs_nenil ?_ | (refine nd ?_ ?_ <;> intro hg <;> (first | (exfalso; (try simp only [decide_eq_true_eq, decide_eq_false_iff_not] at hg); omega) | rw [hg])) | fail)
      refine vam_cast #[false, true, false, true, true, false] (by decide +kernel) ?_
      exact vam_sub (sub_z) h012
  refine vam_use ⟨[(79, .ptr 1 (0 + 1)), (80, .d (i64D x.idx)), (14, .ptr 2 0), (13, .ptr 1 0), (44, I .i64 i), (43, I .i64 (T.map fun n => [i64D n]).length), (42, .d (.sl false false (T.map fun n => [i64D n]))), (10, mapVb b), (9, .ptr 0 0), (7, .d (.sl false true ((pcsOf s W).map pcN))), (1, .d (bsD W))], [.c 2 0 [.d (u64D p'.snap), .d (i64D p'.many), .d (.sl false true (p'.parts.map fM))], .c 1 0 [.d (u64D x.snap), .d (i64D x.idx), .d (i64D x.many), .d (.sl true true (byD x.b))], .c 0 0 [.d (u64D p.snap), .d (i64D p.many), .d (.sl false false (p.parts.map fD))]], 3⟩ #[false, true, true, false, false, false] 4 ?_ fun h020 => ?_
  · refine vam_step (is := [0, 3]) (by decide +kernel) (by simp) fun i hi => ?_
    obtain rfl | rfl : i = 0 ∨ i = 3 := by simpa using hi
    · refine ⟨_, rfl, ?_⟩
      repeat' (first | fail | fail | refine nzl ?_ | refine nzd ?_ | ((first | with_reducible refine vl_id ?_ | with_reducible refine vd_id ?_); first | fail) | refine nzo ?_ | refine nc ?_ ?_ | (with_reducible intro _ <;> (try (exfalso; omega))) | refine vs_eqnil ?_ | refine vs_nenil ?_ | (refine nd ?_ ?_ <;> intro hg <;> (first | (exfalso; (try simp only [decide_eq_true_eq, decide_eq_false_iff_not] at hg); omega) | rw [hg])) | fail)
      refine vam_cast #[true, true, true, false, false, false] (by decide +kernel) ?_
      exact vam_sub (sub_z) h120
    · refine ⟨_, rfl, ?_⟩
      repeat' (first | fail | fail | refine nzl ?_ | refine nzd ?_ | ((first | with_reducible refine vl_id ?_ | with_reducible refine vd_id ?_); first | fail) | refine nzo ?_ | refine nc ?_ ?_ | (with_reducible intro _ <;> (try (exfalso; omega))) | refine vs_eqnil ?_ | refine vs_nenil ?_ | (refine nd ?_ ?_ <;> intro hg <;> (first | (exfalso; (try simp only [decide_eq_true_eq, decide_eq_false_iff_not] at hg); omega) | rw [hg])) | fail)
      refine vam_cast #[false, true, true, true, false, false] (by decide +kernel) ?_
      exact vam_sub (sub_z) h021
  refine vam_use ⟨[(78, mapVb b), (81, .agg [.d (u64D p'.snap), .d (i64D p'.many), .d (.sl false true (p'.parts.map fM))]), (14, .ptr 2 0), (13, .ptr 1 0), (44, I .i64 i), (43, I .i64 (T.map fun n => [i64D n]).length), (42, .d (.sl false false (T.map fun n => [i64D n]))), (10, mapVb b), (9, .ptr 0 0), (7, .d (.sl false true ((pcsOf s W).map pcN))), (1, .d (bsD W))], [.c 2 0 [.d (u64D p'.snap), .d (i64D p'.many), .d (.sl false true (p'.parts.map fM))], .c 1 0 [.d (u64D x.snap), .d (i64D x.idx), .d (i64D x.many), .d (.sl true true (byD x.b))], .c 0 0 [.d (u64D p.snap), .d (i64D p.many), .d (.sl false false (p.parts.map fD))]], 3⟩ #[true, false, false, true, false, false] 4 ?_ fun h101 => ?_
  · refine vam_step (is := [1, 4]) (by decide +kernel) (by simp) fun i hi => ?_
    obtain rfl | rfl : i = 1 ∨ i = 4 := by simpa using hi
    · refine ⟨_, rfl, ?_⟩
      repeat' (first | fail | fail | refine nzl ?_ | refine nzd ?_ | ((first | with_reducible refine vl_id ?_ | with_reducible refine vd_id ?_); first | fail) | refine nzo ?_ | refine nc ?_ ?_ | (with_reducible intro _ <;> (try (exfalso; omega))) | refine vs_eqnil ?_ | refine vs_nenil ?_ | (refine nd ?_ ?_ <;> intro hg <;> (first | (exfalso; (try simp only [decide_eq_true_eq, decide_eq_false_iff_not] at hg); omega) | rw [hg])) | fail)
      refine vam_cast #[true, true, false, true, false, false] (by decide +kernel) ?_
      exact vam_sub (sub_z) h111
    · refine ⟨_, rfl, ?_⟩
      repeat' (first | fail | fail | refine nzl ?_ | refine nzd ?_ | ((first | with_reducible refine vl_id ?_ | with_reducible refine vd_id ?_); first | fail) | refine nzo ?_ | refine nc ?_ ?_ | (with_reducible intro _ <;> (try (exfalso; omega))) | refine vs_eqnil ?_ | refine vs_nenil ?_ | (refine nd ?_ ?_ <;> intro hg <;> (first | (exfalso; (try simp only [decide_eq_true_eq, decide_eq_false_iff_not] at hg); omega) | rw [hg])) | fail)
      refine vam_cast #[true, false, false, true, true, false] (by decide +kernel) ?_
      exact vam_sub (sub_z) h102
  refine vam_use ⟨[(78, mapVb b), (79, .ptr 1 (0 + 1)), (14, .ptr 2 0), (13, .ptr 1 0), (44, I .i64 i), (43, I .i64 (T.map fun n => [i64D n]).length), (42, .d (.sl false false (T.map fun n => [i64D n]))), (10, mapVb b), (9, .ptr 0 0), (7, .d (.sl false true ((pcsOf s W).map pcN))), (1, .d (bsD W))], [.c 2 0 [.d (u64D p'.snap), .d (i64D p'.many), .d (.sl false true (p'.parts.map fM))], .c 1 0 [.d (u64D x.snap), .d (i64D x.idx), .d (i64D x.many), .d (.sl true true (byD x.b))], .c 0 0 [.d (u64D p.snap), .d (i64D p.many), .d (.sl false false (p.parts.map fD))]], 3⟩ #[true, true, false, false, false, false] 4 ?_ fun h110 => ?_
  · refine vam_step (is := [2, 3]) (by decide +kernel) (by simp) fun i hi => ?_
    obtain rfl | rfl : i = 2 ∨ i = 3 := by simpa using hi
    · refine ⟨_, rfl, ?_⟩
      repeat' (first | fail | fail | refine nzl ?_ | refine nzd ?_ | ((first | with_reducible refine vl_id ?_ | with_reducible refine vd_id ?_); first | fail) | refine nzo ?_ | refine nc ?_ ?_ | (with_reducible intro _ <;> (try (exfalso; omega))) | refine vs_eqnil ?_ | refine vs_nenil ?_ | (refine nd ?_ ?_ <;> intro hg <;> (first | (exfalso; (try simp only [decide_eq_true_eq, decide_eq_false_iff_not] at hg); omega) | rw [hg])) | fail)
      refine vam_cast #[true, true, true, false, false, false] (by decide +kernel) ?_
      exact vam_sub (sub_z) h120
    · refine ⟨_, rfl, ?_⟩
      repeat' (first | fail | fail | refine nzl ?_ | refine nzd ?_ | ((first | with_reducible refine vl_id ?_ | with_reducible refine vd_id ?_); first | fail) | refine nzo ?_ | refine nc ?_ ?_ | (with_reducible intro _ <;> (try (exfalso; omega))) | refine vs_eqnil ?_ | refine vs_nenil ?_ | (refine nd ?_ ?_ <;> intro hg <;> (first | (exfalso; (try simp only [decide_eq_true_eq, decide_eq_false_iff_not] at hg); omega) | rw [hg])) | fail)
      refine vam_cast #[true, true, false, true, false, false] (by decide +kernel) ?_
      exact vam_sub (sub_z) h111
  refine vam_use ⟨[(81, .agg [.d (u64D p'.snap), .d (i64D p'.many), .d (.sl false true (p'.parts.map fM))]), (14, .ptr 2 0), (13, .ptr 1 0), (44, I .i64 i), (43, I .i64 (T.map fun n => [i64D n]).length), (42, .d (.sl false false (T.map fun n => [i64D n]))), (10, mapVb b), (9, .ptr 0 0), (7, .d (.sl false true ((pcsOf s W).map pcN))), (1, .d (bsD W))], [.c 2 0 [.d (u64D p'.snap), .d (i64D p'.many), .d (.sl false true (p'.parts.map fM))], .c 1 0 [.d (u64D x.snap), .d (i64D x.idx), .d (i64D x.many), .d (.sl true true (byD x.b))], .c 0 0 [.d (u64D p.snap), .d (i64D p.many), .d (.sl false false (p.parts.map fD))]], 3⟩ #[false, false, false, true, false, false] 5 ?_ fun h001 => ?_
  · refine vam_step (is := [0, 1, 4]) (by decide +kernel) (by simp) fun i hi => ?_
    obtain rfl | rfl | rfl : i = 0 ∨ i = 1 ∨ i = 4 := by simpa using hi
    · refine ⟨_, rfl, ?_⟩
      repeat' (first | fail | fail | refine nzl ?_ | refine nzd ?_ | ((first | with_reducible refine vl_id ?_ | with_reducible refine vd_id ?_); first | fail) | refine nzo ?_ | refine nc ?_ ?_ | (with_reducible intro _ <;> (try (exfalso; omega))) | refine vs_eqnil ?_ | refine vs_nenil ?_ | (refine nd ?_ ?_ <;> intro hg <;> (first | (exfalso; (try simp only [decide_eq_true_eq, decide_eq_false_iff_not] at hg); omega) | rw [hg])) | fail)
      refine vam_cast #[true, false, false, true, false, false] (by decide +kernel) ?_
      exact vam_sub (sub_z) h101
    · refine ⟨_, rfl, ?_⟩
      repeat' (first | fail | fail | refine nzl ?_ | refine nzd ?_ | ((first | with_reducible refine vl_id ?_ | with_reducible refine vd_id ?_); first | fail) | refine nzo ?_ | refine nc ?_ ?_ | (with_reducible intro _ <;> (try (exfalso; omega))) | refine vs_eqnil ?_ | refine vs_nenil ?_ | (refine nd ?_ ?_ <;> intro hg <;> (first | (exfalso; (try simp only [decide_eq_true_eq, decide_eq_false_iff_not] at hg); omega) | rw [hg])) | fail)
      refine vam_cast #[false, true, false, true, false, false] (by decide +kernel) ?_
      exact vam_sub (sub_z) h011
    · refine ⟨_, rfl, ?_⟩
      repeat' (first | fail | fail | refine nzl ?_ | refine nzd ?_ | ((first | with_reducible refine vl_id ?_ | with_reducible refine vd_id ?_); first | fail) | refine nzo ?_ | refine nc ?_ ?_ | (with_reducible intro _ <;> (try (exfalso; omega))) | refine vs_eqnil ?_ | refine vs_nenil ?_ | (refine nd ?_ ?_ <;> intro hg <;> (first | (exfalso; (try simp only [decide_eq_true_eq, decide_eq_false_iff_not] at hg); omega) | rw [hg])) | fail)
      refine vam_cast #[false, false, false, true, true, false] (by decide +kernel) ?_
      exact vam_sub (sub_z) h002
  refine vam_use ⟨[(79, .ptr 1 (0 + 1)), (14, .ptr 2 0), (13, .ptr 1 0), (44, I .i64 i), (43, I .i64 (T.map fun n => [i64D n]).length), (42, .d (.sl false false (T.map fun n => [i64D n]))), (10, mapVb b), (9, .ptr 0 0), (7, .d (.sl false true ((pcsOf s W).map pcN))), (1, .d (bsD W))], [.c 2 0 [.d (u64D p'.snap), .d (i64D p'.many), .d (.sl false true (p'.parts.map fM))], .c 1 0 [.d (u64D x.snap), .d (i64D x.idx), .d (i64D x.many), .d (.sl true true (byD x.b))], .c 0 0 [.d (u64D p.snap), .d (i64D p.many), .d (.sl false false (p.parts.map fD))]], 3⟩ #[false, true, false, false, false, false] 5 ?_ fun h010 => ?_
  · refine vam_step (is := [0, 2, 3]) (by decide +kernel) (by simp) fun i hi => ?_
    obtain rfl | rfl | rfl : i = 0 ∨ i = 2 ∨ i = 3 := by simpa using hi
    · refine ⟨_, rfl, ?_⟩
      repeat' (first | fail | fail | refine nzl ?_ | refine nzd ?_ | ((first | with_reducible refine vl_id ?_ | with_reducible refine vd_id ?_); first | fail) | refine nzo ?_ | refine nc ?_ ?_ | (with_reducible intro _ <;> (try (exfalso; omega))) | refine vs_eqnil ?_ | refine vs_nenil ?_ | (refine nd ?_ ?_ <;> intro hg <;> (first | (exfalso; (try simp only [decide_eq_true_eq, decide_eq_false_iff_not] at hg); omega) | rw [hg])) | fail)
      refine vam_cast #[true, true, false, false, false, false] (by decide +kernel) ?_
      exact vam_sub (sub_z) h110
    · refine ⟨_, rfl, ?_⟩
      repeat' (first | fail | fail | refine nzl ?_ | refine nzd ?_ | ((first | with_reducible refine vl_id ?_ | with_reducible refine vd_id ?_); first | fail) | refine nzo ?_ | refine nc ?_ ?_ | (with_reducible intro _ <;> (try (exfalso; omega))) | refine vs_eqnil ?_ | refine vs_nenil ?_ | (refine nd ?_ ?_ <;> intro hg <;> (first | (exfalso; (try simp only [decide_eq_true_eq, decide_eq_false_iff_not] at hg); omega) | rw [hg])) | fail)
      refine vam_cast #[false, true, true, false, false, false] (by decide +kernel) ?_
      exact vam_sub (sub_z) h020
    · refine ⟨_, rfl, ?_⟩
      repeat' (first | fail | fail | refine nzl ?_ | refine nzd ?_ | ((first | with_reducible refine vl_id ?_ | with_reducible refine vd_id ?_); first | fail) | refine nzo ?_ | refine nc ?_ ?_ | (with_reducible intro _ <;> (try (exfalso; omega))) | refine vs_eqnil ?_ | refine vs_nenil ?_ | (refine nd ?_ ?_ <;> intro hg <;> (first | (exfalso; (try simp only [decide_eq_true_eq, decide_eq_false_iff_not] at hg); omega) | rw [hg])) | fail)
      refine vam_cast #[false, true, false, true, false, false] (by decide +kernel) ?_
      exact vam_sub (sub_z) h011
  refine vam_use ⟨[(78, mapVb b), (14, .ptr 2 0), (13, .ptr 1 0), (44, I .i64 i), (43, I .i64 (T.map fun n => [i64D n]).length), (42, .d (.sl false false (T.map fun n => [i64D n]))), (10, mapVb b), (9, .ptr 0 0), (7, .d (.sl false true ((pcsOf s W).map pcN))), (1, .d (bsD W))], [.c 2 0 [.d (u64D p'.snap), .d (i64D p'.many), .d (.sl false true (p'.parts.map fM))], .c 1 0 [.d (u64D x.snap), .d (i64D x.idx), .d (i64D x.many), .d (.sl true true (byD x.b))], .c 0 0 [.d (u64D p.snap), .d (i64D p.many), .d (.sl false false (p.parts.map fD))]], 3⟩ #[true, false, false, false, false, false] 5 ?_ fun h100 => ?_
  · refine vam_step (is := [1, 3]) (by decide +kernel) (by simp) fun i hi => ?_
    obtain rfl | rfl : i = 1 ∨ i = 3 := by simpa using hi
    · refine ⟨_, rfl, ?_⟩
      repeat' (first | fail | fail | refine nzl ?_ | refine nzd ?_ | ((first | with_reducible refine vl_id ?_ | with_reducible refine vd_id ?_); first | fail) | refine nzo ?_ | refine nc ?_ ?_ | (with_reducible intro _ <;> (try (exfalso; omega))) | refine vs_eqnil ?_ | refine vs_nenil ?_ | (refine nd ?_ ?_ <;> intro hg <;> (first | (exfalso; (try simp only [decide_eq_true_eq, decide_eq_false_iff_not] at hg); omega) | rw [hg])) | fail)
      refine vam_cast #[true, true, false, false, false, false] (by decide +kernel) ?_
      exact vam_sub (sub_z) h110
    · refine ⟨_, rfl, ?_⟩
      repeat' (first | fail | fail | refine nzl ?_ | refine nzd ?_ | ((first | with_reducible refine vl_id ?_ | with_reducible refine vd_id ?_); first | fail) | refine nzo ?_ | refine nc ?_ ?_ | (with_reducible intro _ <;> (try (exfalso; omega))) | refine vs_eqnil ?_ | refine vs_nenil ?_ | (refine nd ?_ ?_ <;> intro hg <;> (first | (exfalso; (try simp only [decide_eq_true_eq, decide_eq_false_iff_not] at hg); omega) | rw [hg])) | fail)
      refine vam_cast #[true, false, false, true, false, false] (by decide +kernel) ?_
      exact vam_sub (sub_z) h101
  refine vam_step (is := [0, 1, 3]) (by decide +kernel) (by simp) fun i hi => ?_
  obtain rfl | rfl | rfl : i = 0 ∨ i = 1 ∨ i = 3 := by simpa using hi
  · refine ⟨_, rfl, ?_⟩
    repeat' (first | fail | fail | refine nzl ?_ | refine nzd ?_ | ((first | with_reducible refine vl_id ?_ | with_reducible refine vd_id ?_); first | fail) | refine nzo ?_ | refine nc ?_ ?_ | (with_reducible intro _ <;> (try (exfalso; omega))) | refine vs_eqnil ?_ | refine vs_nenil ?_ | (refine nd ?_ ?_ <;> intro hg <;> (first | (exfalso; (try simp only [decide_eq_true_eq, decide_eq_false_iff_not] at hg); omega) | rw [hg])) | fail)
    refine vam_cast #[true, false, false, false, false, false] (by decide +kernel) ?_
    exact vam_sub (sub_z) h100
  · refine ⟨_, rfl, ?_⟩
    repeat' (first | fail | fail | refine nzl ?_ | refine nzd ?_ | ((first | with_reducible refine vl_id ?_ | with_reducible refine vd_id ?_); first | fail) | refine nzo ?_ | refine nc ?_ ?_ | (with_reducible intro _ <;> (try (exfalso; omega))) | refine vs_eqnil ?_ | refine vs_nenil ?_ | (refine nd ?_ ?_ <;> intro hg <;> (first | (exfalso; (try simp only [decide_eq_true_eq, decide_eq_false_iff_not] at hg); omega) | rw [hg])) | fail)
    refine vam_cast #[false, true, false, false, false, false] (by decide +kernel) ?_
    exact vam_sub (sub_z) h010
  · refine ⟨_, rfl, ?_⟩
    repeat' (first | fail | fail | refine nzl ?_ | refine nzd ?_ | ((first | with_reducible refine vl_id ?_ | with_reducible refine vd_id ?_); first | fail) | refine nzo ?_ | refine nc ?_ ?_ | (with_reducible intro _ <;> (try (exfalso; omega))) | refine vs_eqnil ?_ | refine vs_nenil ?_ | (refine nd ?_ ?_ <;> intro hg <;> (first | (exfalso; (try simp only [decide_eq_true_eq, decide_eq_false_iff_not] at hg); omega) | rw [hg])) | fail)
    refine vam_cast #[false, false, false, true, false, false] (by decide +kernel) ?_
    exact vam_sub (sub_z) h001
end Go.Proofs.YtkjpcjccddggoaaGreat
