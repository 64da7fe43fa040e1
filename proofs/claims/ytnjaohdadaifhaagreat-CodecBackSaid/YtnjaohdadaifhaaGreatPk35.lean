/- Walks by data and names, part 35: Layer 21, by V: codec's TakeVector. -/
import Derived.Test.YtnjaohdadaifhaaGreatPk28
namespace Go.Proofs.YtnjaohdadaifhaaGreat
set_option maxRecDepth 20000
open Go.RowKit
set_option maxRecDepth 10000
set_option maxHeartbeats 4000000
theorem left_v (b : List UInt8) (e : Int) : VP Tryz.prog 77 [.pt [bsD b, i64D e]] (· = .ret (i64D (byD b).length)) := by
  refine vp_of Tryz.func77 rfl Tryz.ntmps77 rfl Tryz.results77 fun B => ?_
  repeat' (first | refine nz1 ?_ | (refine vid ?_; first | refine vs_eqpn ?_ | refine vs_nepn ?_) | refine nzo ?_ | refine nc ?_ ?_ | (with_reducible intro _ <;> (try (exfalso; omega))) | refine nnil ?_ | (refine nd ?_ ?_ <;> intro hg <;> first | exact xo hg | rw [hg]))
  all_goals first | rfl | trace_state
theorem takeC_v (B0 : List UInt8) (hb : B0.length ≤ 1000000) : VP Tryz.prog 19 [bsD B0] (· = .ret (.tup [.agg (vcD (take19 B0).1), i64D (take19 B0).2.1, i64D (take19 B0).2.2])) := by
  have hbl := byD_len B0
  have hmin : min ((byD B0).length : Int) 1048576 = ((byD B0).length : Int) := by omega
  have hcut : cutL none (some ((byD B0).length : Int)) (byD B0) = byD B0 := by rw [hbl, cutN, List.take_of_length_le (Nat.le_refl _)]
  have cl := clone_v B0 (by omega)
  refine vp_of Tryz.func19 rfl Tryz.ntmps19 rfl Tryz.results19 fun B => ?_
  repeat' (first | refine nz1 ?_ | refine nzo ?_ | refine nc ?_ ?_ | (with_reducible intro _ <;> (try (exfalso; omega))) | refine nnil ?_ | (refine nd ?_ ?_ <;> intro hg <;> first | exact xo hg | rw [hg]))
  refine vs_vc (hc := vc_of Tryz.func53 rfl Tryz.ntmps53 Tryz.results53 fun _ => ?_)
  refine vw_seq ?_
  repeat' (first | refine nz1 ?_ | ((fail_if_success (with_reducible refine vw_seq ?_)); refine nzo ?_) | refine nc ?_ ?_ | (with_reducible intro _ <;> (try (exfalso; omega))) | refine nnil ?_ | (refine nd ?_ ?_ <;> intro hg <;> first | exact xo hg | rw [hg]))
  refine vw_seq ?_
  repeat' (first | rw [hmin] | refine nz1 ?_ | ((fail_if_success (with_reducible refine vw_seq ?_)); refine nzo ?_) | refine nc ?_ ?_ | (with_reducible intro _ <;> (try (exfalso; omega))) | refine nnil ?_ | (refine nd ?_ ?_ <;> intro hg <;> first | exact xo hg | rw [hg]))
  refine vw_seq ?_
  repeat' (first | refine nz1 ?_ | ((fail_if_success (with_reducible refine vw_seq ?_)); refine nzo ?_) | refine nc ?_ ?_ | (with_reducible intro _ <;> (try (exfalso; omega))) | refine nnil ?_ | (refine nd ?_ ?_ <;> intro hg <;> first | exact xo hg | rw [hg]))
  refine vw_frz 3 rfl ?_
  · skip
    repeat' (first | rw [hcut] | refine nz1 ?_ | (refine vid ?_; first | refine vs_vc (hc := vc_of Tryz.func75 rfl Tryz.ntmps75 Tryz.results75 fun _ => ?_) | refine cz (cl) ?_ | refine vs_vc (hc := vc_of Tryz.func86 rfl Tryz.ntmps86 Tryz.results86 fun _ => ?_) | refine vs_vc (hc := vc_of Tryz.func54 rfl Tryz.ntmps54 Tryz.results54 fun _ => ?_) | refine vs_vc (hc := vc_of Tryz.func38 rfl Tryz.ntmps38 Tryz.results38 fun _ => ?_) | refine vs_vc (hc := vc_of Tryz.func79 rfl Tryz.ntmps79 Tryz.results79 fun _ => ?_) | refine vs_vc (hc := vc_of Tryz.func77 rfl Tryz.ntmps77 Tryz.results77 fun _ => ?_) | refine vs_eqpn ?_ | refine vs_nepn ?_ | (refine vq_l (cneed_ok 110) ?_; first | refine vs_call (cneed_ok 110) ?_ | refine vs_pan (cneed_no 110) ?_ | (refine vs_cifp (cneed_if _ 110) ?_ ?_ <;> intro _ <;> (try (exfalso; omega))) | (refine vs_cif (cneed_if _ 110) ?_ ?_ <;> intro _)) | refine vs_slicelo ?_ | refine vs_lensv ?_ | refine vs_vc (hc := vc_tries (fd := 97) Tryz.func71 rfl Tryz.ntmps71 Tryz.results71 fun _ => ?_)) | refine nzo ?_ | refine nc ?_ ?_ | (with_reducible intro _ <;> (try (exfalso; omega))) | refine nnil ?_ | (refine nd ?_ ?_ <;> intro hg <;> first | exact xo hg | rw [hg]) | refine vdf_of Tryz.func97 rfl Tryz.ntmps97 Tryz.results97 ?_)
    refine vw_rounds 9 ?_
    repeat' (first | rw [hcut] | refine nz1 ?_ | (refine vid ?_; first | refine vs_vc (hc := vc_of Tryz.func75 rfl Tryz.ntmps75 Tryz.results75 fun _ => ?_) | refine cz (cl) ?_ | refine vs_vc (hc := vc_of Tryz.func86 rfl Tryz.ntmps86 Tryz.results86 fun _ => ?_) | refine vs_vc (hc := vc_of Tryz.func54 rfl Tryz.ntmps54 Tryz.results54 fun _ => ?_) | refine vs_vc (hc := vc_of Tryz.func38 rfl Tryz.ntmps38 Tryz.results38 fun _ => ?_) | refine vs_vc (hc := vc_of Tryz.func79 rfl Tryz.ntmps79 Tryz.results79 fun _ => ?_) | refine vs_vc (hc := vc_of Tryz.func77 rfl Tryz.ntmps77 Tryz.results77 fun _ => ?_) | refine vs_eqpn ?_ | refine vs_nepn ?_ | (refine vq_l (cneed_ok 110) ?_; first | refine vs_call (cneed_ok 110) ?_ | refine vs_pan (cneed_no 110) ?_ | (refine vs_cifp (cneed_if _ 110) ?_ ?_ <;> intro _ <;> (try (exfalso; omega))) | (refine vs_cif (cneed_if _ 110) ?_ ?_ <;> intro _)) | refine vs_slicelo ?_ | refine vs_lensv ?_ | refine vs_vc (hc := vc_tries (fd := 97) Tryz.func71 rfl Tryz.ntmps71 Tryz.results71 fun _ => ?_)) | refine nzo ?_ | refine nc ?_ ?_ | (with_reducible intro _ <;> (try (exfalso; omega))) | refine nnil ?_ | (refine nd ?_ ?_ <;> intro hg <;> first | exact xo hg | rw [hg]) | refine vdf_of Tryz.func97 rfl Tryz.ntmps97 Tryz.results97 ?_)
    by_cases h0 : 8 ≤ B0.length
    rotate_left 1
    · have c := rdnum_no true B0 8 (by omega) h0
      rw [show ((8 : Nat) : Int) = 8 from rfl] at c
      refine vs_vm [(4, none)] c ?_
      repeat' (first | rw [hcut] | refine nz1 ?_ | (refine vid ?_; first | refine vs_vc (hc := vc_of Tryz.func75 rfl Tryz.ntmps75 Tryz.results75 fun _ => ?_) | refine cz (cl) ?_ | refine vs_vc (hc := vc_of Tryz.func86 rfl Tryz.ntmps86 Tryz.results86 fun _ => ?_) | refine vs_vc (hc := vc_of Tryz.func54 rfl Tryz.ntmps54 Tryz.results54 fun _ => ?_) | refine vs_vc (hc := vc_of Tryz.func38 rfl Tryz.ntmps38 Tryz.results38 fun _ => ?_) | refine vs_vc (hc := vc_of Tryz.func79 rfl Tryz.ntmps79 Tryz.results79 fun _ => ?_) | refine vs_vc (hc := vc_of Tryz.func77 rfl Tryz.ntmps77 Tryz.results77 fun _ => ?_) | refine vs_eqpn ?_ | refine vs_nepn ?_ | (refine vq_l (cneed_ok 110) ?_; first | refine vs_call (cneed_ok 110) ?_ | refine vs_pan (cneed_no 110) ?_ | (refine vs_cifp (cneed_if _ 110) ?_ ?_ <;> intro _ <;> (try (exfalso; omega))) | (refine vs_cif (cneed_if _ 110) ?_ ?_ <;> intro _)) | refine vs_slicelo ?_ | refine vs_lensv ?_ | refine vs_vc (hc := vc_tries (fd := 97) Tryz.func71 rfl Tryz.ntmps71 Tryz.results71 fun _ => ?_)) | refine nzo ?_ | refine nc ?_ ?_ | (with_reducible intro _ <;> (try (exfalso; omega))) | refine nnil ?_ | (refine nd ?_ ?_ <;> intro hg <;> first | exact xo hg | rw [hg]) | refine vdf_of Tryz.func97 rfl Tryz.ntmps97 Tryz.results97 ?_)
      rw [take19, if_pos (by omega)]
      rfl
    have c0 := rdnum_v true B0 8 (by omega) h0
    rw [show ((8 : Nat) : Int) = 8 from rfl] at c0
    obtain ⟨B1, hB1⟩ : ∃ x, B0.drop 8 = x := ⟨_, rfl⟩
    rw [hB1] at c0
    have hl1 : B1.length = B0.length - 8 := by rw [← hB1]; simp
    refine vs_vm [(4, none)] c0 ?_
    clear c0
    repeat' (first | rw [hcut] | refine nz1 ?_ | (refine vid ?_; first | refine vs_vc (hc := vc_of Tryz.func75 rfl Tryz.ntmps75 Tryz.results75 fun _ => ?_) | refine cz (cl) ?_ | refine vs_vc (hc := vc_of Tryz.func86 rfl Tryz.ntmps86 Tryz.results86 fun _ => ?_) | refine vs_vc (hc := vc_of Tryz.func54 rfl Tryz.ntmps54 Tryz.results54 fun _ => ?_) | refine vs_vc (hc := vc_of Tryz.func38 rfl Tryz.ntmps38 Tryz.results38 fun _ => ?_) | refine vs_vc (hc := vc_of Tryz.func79 rfl Tryz.ntmps79 Tryz.results79 fun _ => ?_) | refine vs_vc (hc := vc_of Tryz.func77 rfl Tryz.ntmps77 Tryz.results77 fun _ => ?_) | refine vs_eqpn ?_ | refine vs_nepn ?_ | (refine vq_l (cneed_ok 110) ?_; first | refine vs_call (cneed_ok 110) ?_ | refine vs_pan (cneed_no 110) ?_ | (refine vs_cifp (cneed_if _ 110) ?_ ?_ <;> intro _ <;> (try (exfalso; omega))) | (refine vs_cif (cneed_if _ 110) ?_ ?_ <;> intro _)) | refine vs_slicelo ?_ | refine vs_lensv ?_ | refine vs_vc (hc := vc_tries (fd := 97) Tryz.func71 rfl Tryz.ntmps71 Tryz.results71 fun _ => ?_)) | refine nzo ?_ | refine nc ?_ ?_ | (with_reducible intro _ <;> (try (exfalso; omega))) | refine nnil ?_ | (refine nd ?_ ?_ <;> intro hg <;> first | exact xo hg | rw [hg]) | refine vdf_of Tryz.func97 rfl Tryz.ntmps97 Tryz.results97 ?_)
    by_cases h1 : 8 ≤ B1.length
    rotate_left 1
    · have c := rdnum_no true B1 8 (by omega) h1
      rw [show ((8 : Nat) : Int) = 8 from rfl] at c
      refine vs_vm [(4, none)] c ?_
      repeat' (first | rw [hcut] | refine nz1 ?_ | (refine vid ?_; first | refine vs_vc (hc := vc_of Tryz.func75 rfl Tryz.ntmps75 Tryz.results75 fun _ => ?_) | refine cz (cl) ?_ | refine vs_vc (hc := vc_of Tryz.func86 rfl Tryz.ntmps86 Tryz.results86 fun _ => ?_) | refine vs_vc (hc := vc_of Tryz.func54 rfl Tryz.ntmps54 Tryz.results54 fun _ => ?_) | refine vs_vc (hc := vc_of Tryz.func38 rfl Tryz.ntmps38 Tryz.results38 fun _ => ?_) | refine vs_vc (hc := vc_of Tryz.func79 rfl Tryz.ntmps79 Tryz.results79 fun _ => ?_) | refine vs_vc (hc := vc_of Tryz.func77 rfl Tryz.ntmps77 Tryz.results77 fun _ => ?_) | refine vs_eqpn ?_ | refine vs_nepn ?_ | (refine vq_l (cneed_ok 110) ?_; first | refine vs_call (cneed_ok 110) ?_ | refine vs_pan (cneed_no 110) ?_ | (refine vs_cifp (cneed_if _ 110) ?_ ?_ <;> intro _ <;> (try (exfalso; omega))) | (refine vs_cif (cneed_if _ 110) ?_ ?_ <;> intro _)) | refine vs_slicelo ?_ | refine vs_lensv ?_ | refine vs_vc (hc := vc_tries (fd := 97) Tryz.func71 rfl Tryz.ntmps71 Tryz.results71 fun _ => ?_)) | refine nzo ?_ | refine nc ?_ ?_ | (with_reducible intro _ <;> (try (exfalso; omega))) | refine nnil ?_ | (refine nd ?_ ?_ <;> intro hg <;> first | exact xo hg | rw [hg]) | refine vdf_of Tryz.func97 rfl Tryz.ntmps97 Tryz.results97 ?_)
      rw [take19, if_pos (by omega)]
      rfl
    have c1 := rdnum_v true B1 8 (by omega) h1
    rw [show ((8 : Nat) : Int) = 8 from rfl] at c1
    obtain ⟨B2, hB2⟩ : ∃ x, B1.drop 8 = x := ⟨_, rfl⟩
    rw [hB2] at c1
    have hl2 : B2.length = B1.length - 8 := by rw [← hB2]; simp
    refine vs_vm [(4, none)] c1 ?_
    clear c1
    repeat' (first | rw [hcut] | refine nz1 ?_ | (refine vid ?_; first | refine vs_vc (hc := vc_of Tryz.func75 rfl Tryz.ntmps75 Tryz.results75 fun _ => ?_) | refine cz (cl) ?_ | refine vs_vc (hc := vc_of Tryz.func86 rfl Tryz.ntmps86 Tryz.results86 fun _ => ?_) | refine vs_vc (hc := vc_of Tryz.func54 rfl Tryz.ntmps54 Tryz.results54 fun _ => ?_) | refine vs_vc (hc := vc_of Tryz.func38 rfl Tryz.ntmps38 Tryz.results38 fun _ => ?_) | refine vs_vc (hc := vc_of Tryz.func79 rfl Tryz.ntmps79 Tryz.results79 fun _ => ?_) | refine vs_vc (hc := vc_of Tryz.func77 rfl Tryz.ntmps77 Tryz.results77 fun _ => ?_) | refine vs_eqpn ?_ | refine vs_nepn ?_ | (refine vq_l (cneed_ok 110) ?_; first | refine vs_call (cneed_ok 110) ?_ | refine vs_pan (cneed_no 110) ?_ | (refine vs_cifp (cneed_if _ 110) ?_ ?_ <;> intro _ <;> (try (exfalso; omega))) | (refine vs_cif (cneed_if _ 110) ?_ ?_ <;> intro _)) | refine vs_slicelo ?_ | refine vs_lensv ?_ | refine vs_vc (hc := vc_tries (fd := 97) Tryz.func71 rfl Tryz.ntmps71 Tryz.results71 fun _ => ?_)) | refine nzo ?_ | refine nc ?_ ?_ | (with_reducible intro _ <;> (try (exfalso; omega))) | refine nnil ?_ | (refine nd ?_ ?_ <;> intro hg <;> first | exact xo hg | rw [hg]) | refine vdf_of Tryz.func97 rfl Tryz.ntmps97 Tryz.results97 ?_)
    by_cases h2 : 8 ≤ B2.length
    rotate_left 1
    · have c := rdnum_no true B2 8 (by omega) h2
      rw [show ((8 : Nat) : Int) = 8 from rfl] at c
      refine vs_vm [(4, none)] c ?_
      repeat' (first | rw [hcut] | refine nz1 ?_ | (refine vid ?_; first | refine vs_vc (hc := vc_of Tryz.func75 rfl Tryz.ntmps75 Tryz.results75 fun _ => ?_) | refine cz (cl) ?_ | refine vs_vc (hc := vc_of Tryz.func86 rfl Tryz.ntmps86 Tryz.results86 fun _ => ?_) | refine vs_vc (hc := vc_of Tryz.func54 rfl Tryz.ntmps54 Tryz.results54 fun _ => ?_) | refine vs_vc (hc := vc_of Tryz.func38 rfl Tryz.ntmps38 Tryz.results38 fun _ => ?_) | refine vs_vc (hc := vc_of Tryz.func79 rfl Tryz.ntmps79 Tryz.results79 fun _ => ?_) | refine vs_vc (hc := vc_of Tryz.func77 rfl Tryz.ntmps77 Tryz.results77 fun _ => ?_) | refine vs_eqpn ?_ | refine vs_nepn ?_ | (refine vq_l (cneed_ok 110) ?_; first | refine vs_call (cneed_ok 110) ?_ | refine vs_pan (cneed_no 110) ?_ | (refine vs_cifp (cneed_if _ 110) ?_ ?_ <;> intro _ <;> (try (exfalso; omega))) | (refine vs_cif (cneed_if _ 110) ?_ ?_ <;> intro _)) | refine vs_slicelo ?_ | refine vs_lensv ?_ | refine vs_vc (hc := vc_tries (fd := 97) Tryz.func71 rfl Tryz.ntmps71 Tryz.results71 fun _ => ?_)) | refine nzo ?_ | refine nc ?_ ?_ | (with_reducible intro _ <;> (try (exfalso; omega))) | refine nnil ?_ | (refine nd ?_ ?_ <;> intro hg <;> first | exact xo hg | rw [hg]) | refine vdf_of Tryz.func97 rfl Tryz.ntmps97 Tryz.results97 ?_)
      rw [take19, if_pos (by omega)]
      rfl
    have c2 := rdnum_v true B2 8 (by omega) h2
    rw [show ((8 : Nat) : Int) = 8 from rfl] at c2
    obtain ⟨B3, hB3⟩ : ∃ x, B2.drop 8 = x := ⟨_, rfl⟩
    rw [hB3] at c2
    have hl3 : B3.length = B2.length - 8 := by rw [← hB3]; simp
    refine vs_vm [(4, none)] c2 ?_
    clear c2
    repeat' (first | rw [hcut] | refine nz1 ?_ | (refine vid ?_; first | refine vs_vc (hc := vc_of Tryz.func75 rfl Tryz.ntmps75 Tryz.results75 fun _ => ?_) | refine cz (cl) ?_ | refine vs_vc (hc := vc_of Tryz.func86 rfl Tryz.ntmps86 Tryz.results86 fun _ => ?_) | refine vs_vc (hc := vc_of Tryz.func54 rfl Tryz.ntmps54 Tryz.results54 fun _ => ?_) | refine vs_vc (hc := vc_of Tryz.func38 rfl Tryz.ntmps38 Tryz.results38 fun _ => ?_) | refine vs_vc (hc := vc_of Tryz.func79 rfl Tryz.ntmps79 Tryz.results79 fun _ => ?_) | refine vs_vc (hc := vc_of Tryz.func77 rfl Tryz.ntmps77 Tryz.results77 fun _ => ?_) | refine vs_eqpn ?_ | refine vs_nepn ?_ | (refine vq_l (cneed_ok 110) ?_; first | refine vs_call (cneed_ok 110) ?_ | refine vs_pan (cneed_no 110) ?_ | (refine vs_cifp (cneed_if _ 110) ?_ ?_ <;> intro _ <;> (try (exfalso; omega))) | (refine vs_cif (cneed_if _ 110) ?_ ?_ <;> intro _)) | refine vs_slicelo ?_ | refine vs_lensv ?_ | refine vs_vc (hc := vc_tries (fd := 97) Tryz.func71 rfl Tryz.ntmps71 Tryz.results71 fun _ => ?_)) | refine nzo ?_ | refine nc ?_ ?_ | (with_reducible intro _ <;> (try (exfalso; omega))) | refine nnil ?_ | (refine nd ?_ ?_ <;> intro hg <;> first | exact xo hg | rw [hg]) | refine vdf_of Tryz.func97 rfl Tryz.ntmps97 Tryz.results97 ?_)
    by_cases h3 : 8 ≤ B3.length
    rotate_left 1
    · have c := rdnum_no true B3 8 (by omega) h3
      rw [show ((8 : Nat) : Int) = 8 from rfl] at c
      refine vs_vm [(4, none)] c ?_
      repeat' (first | rw [hcut] | refine nz1 ?_ | (refine vid ?_; first | refine vs_vc (hc := vc_of Tryz.func75 rfl Tryz.ntmps75 Tryz.results75 fun _ => ?_) | refine cz (cl) ?_ | refine vs_vc (hc := vc_of Tryz.func86 rfl Tryz.ntmps86 Tryz.results86 fun _ => ?_) | refine vs_vc (hc := vc_of Tryz.func54 rfl Tryz.ntmps54 Tryz.results54 fun _ => ?_) | refine vs_vc (hc := vc_of Tryz.func38 rfl Tryz.ntmps38 Tryz.results38 fun _ => ?_) | refine vs_vc (hc := vc_of Tryz.func79 rfl Tryz.ntmps79 Tryz.results79 fun _ => ?_) | refine vs_vc (hc := vc_of Tryz.func77 rfl Tryz.ntmps77 Tryz.results77 fun _ => ?_) | refine vs_eqpn ?_ | refine vs_nepn ?_ | (refine vq_l (cneed_ok 110) ?_; first | refine vs_call (cneed_ok 110) ?_ | refine vs_pan (cneed_no 110) ?_ | (refine vs_cifp (cneed_if _ 110) ?_ ?_ <;> intro _ <;> (try (exfalso; omega))) | (refine vs_cif (cneed_if _ 110) ?_ ?_ <;> intro _)) | refine vs_slicelo ?_ | refine vs_lensv ?_ | refine vs_vc (hc := vc_tries (fd := 97) Tryz.func71 rfl Tryz.ntmps71 Tryz.results71 fun _ => ?_)) | refine nzo ?_ | refine nc ?_ ?_ | (with_reducible intro _ <;> (try (exfalso; omega))) | refine nnil ?_ | (refine nd ?_ ?_ <;> intro hg <;> first | exact xo hg | rw [hg]) | refine vdf_of Tryz.func97 rfl Tryz.ntmps97 Tryz.results97 ?_)
      rw [take19, if_pos (by omega)]
      rfl
    have c3 := rdnum_v true B3 8 (by omega) h3
    rw [show ((8 : Nat) : Int) = 8 from rfl] at c3
    obtain ⟨B4, hB4⟩ : ∃ x, B3.drop 8 = x := ⟨_, rfl⟩
    rw [hB4] at c3
    have hl4 : B4.length = B3.length - 8 := by rw [← hB4]; simp
    refine vs_vm [(4, none)] c3 ?_
    clear c3
    repeat' (first | rw [hcut] | refine nz1 ?_ | (refine vid ?_; first | refine vs_vc (hc := vc_of Tryz.func75 rfl Tryz.ntmps75 Tryz.results75 fun _ => ?_) | refine cz (cl) ?_ | refine vs_vc (hc := vc_of Tryz.func86 rfl Tryz.ntmps86 Tryz.results86 fun _ => ?_) | refine vs_vc (hc := vc_of Tryz.func54 rfl Tryz.ntmps54 Tryz.results54 fun _ => ?_) | refine vs_vc (hc := vc_of Tryz.func38 rfl Tryz.ntmps38 Tryz.results38 fun _ => ?_) | refine vs_vc (hc := vc_of Tryz.func79 rfl Tryz.ntmps79 Tryz.results79 fun _ => ?_) | refine vs_vc (hc := vc_of Tryz.func77 rfl Tryz.ntmps77 Tryz.results77 fun _ => ?_) | refine vs_eqpn ?_ | refine vs_nepn ?_ | (refine vq_l (cneed_ok 110) ?_; first | refine vs_call (cneed_ok 110) ?_ | refine vs_pan (cneed_no 110) ?_ | (refine vs_cifp (cneed_if _ 110) ?_ ?_ <;> intro _ <;> (try (exfalso; omega))) | (refine vs_cif (cneed_if _ 110) ?_ ?_ <;> intro _)) | refine vs_slicelo ?_ | refine vs_lensv ?_ | refine vs_vc (hc := vc_tries (fd := 97) Tryz.func71 rfl Tryz.ntmps71 Tryz.results71 fun _ => ?_)) | refine nzo ?_ | refine nc ?_ ?_ | (with_reducible intro _ <;> (try (exfalso; omega))) | refine nnil ?_ | (refine nd ?_ ?_ <;> intro hg <;> first | exact xo hg | rw [hg]) | refine vdf_of Tryz.func97 rfl Tryz.ntmps97 Tryz.results97 ?_)
    by_cases h4 : 8 ≤ B4.length
    rotate_left 1
    · have c := rdnum_no true B4 8 (by omega) h4
      rw [show ((8 : Nat) : Int) = 8 from rfl] at c
      refine vs_vm [(4, none)] c ?_
      repeat' (first | rw [hcut] | refine nz1 ?_ | (refine vid ?_; first | refine vs_vc (hc := vc_of Tryz.func75 rfl Tryz.ntmps75 Tryz.results75 fun _ => ?_) | refine cz (cl) ?_ | refine vs_vc (hc := vc_of Tryz.func86 rfl Tryz.ntmps86 Tryz.results86 fun _ => ?_) | refine vs_vc (hc := vc_of Tryz.func54 rfl Tryz.ntmps54 Tryz.results54 fun _ => ?_) | refine vs_vc (hc := vc_of Tryz.func38 rfl Tryz.ntmps38 Tryz.results38 fun _ => ?_) | refine vs_vc (hc := vc_of Tryz.func79 rfl Tryz.ntmps79 Tryz.results79 fun _ => ?_) | refine vs_vc (hc := vc_of Tryz.func77 rfl Tryz.ntmps77 Tryz.results77 fun _ => ?_) | refine vs_eqpn ?_ | refine vs_nepn ?_ | (refine vq_l (cneed_ok 110) ?_; first | refine vs_call (cneed_ok 110) ?_ | refine vs_pan (cneed_no 110) ?_ | (refine vs_cifp (cneed_if _ 110) ?_ ?_ <;> intro _ <;> (try (exfalso; omega))) | (refine vs_cif (cneed_if _ 110) ?_ ?_ <;> intro _)) | refine vs_slicelo ?_ | refine vs_lensv ?_ | refine vs_vc (hc := vc_tries (fd := 97) Tryz.func71 rfl Tryz.ntmps71 Tryz.results71 fun _ => ?_)) | refine nzo ?_ | refine nc ?_ ?_ | (with_reducible intro _ <;> (try (exfalso; omega))) | refine nnil ?_ | (refine nd ?_ ?_ <;> intro hg <;> first | exact xo hg | rw [hg]) | refine vdf_of Tryz.func97 rfl Tryz.ntmps97 Tryz.results97 ?_)
      rw [take19, if_pos (by omega)]
      rfl
    have c4 := rdnum_v true B4 8 (by omega) h4
    rw [show ((8 : Nat) : Int) = 8 from rfl] at c4
    obtain ⟨B5, hB5⟩ : ∃ x, B4.drop 8 = x := ⟨_, rfl⟩
    rw [hB5] at c4
    have hl5 : B5.length = B4.length - 8 := by rw [← hB5]; simp
    refine vs_vm [(4, none)] c4 ?_
    clear c4
    repeat' (first | rw [hcut] | refine nz1 ?_ | (refine vid ?_; first | refine vs_vc (hc := vc_of Tryz.func75 rfl Tryz.ntmps75 Tryz.results75 fun _ => ?_) | refine cz (cl) ?_ | refine vs_vc (hc := vc_of Tryz.func86 rfl Tryz.ntmps86 Tryz.results86 fun _ => ?_) | refine vs_vc (hc := vc_of Tryz.func54 rfl Tryz.ntmps54 Tryz.results54 fun _ => ?_) | refine vs_vc (hc := vc_of Tryz.func38 rfl Tryz.ntmps38 Tryz.results38 fun _ => ?_) | refine vs_vc (hc := vc_of Tryz.func79 rfl Tryz.ntmps79 Tryz.results79 fun _ => ?_) | refine vs_vc (hc := vc_of Tryz.func77 rfl Tryz.ntmps77 Tryz.results77 fun _ => ?_) | refine vs_eqpn ?_ | refine vs_nepn ?_ | (refine vq_l (cneed_ok 110) ?_; first | refine vs_call (cneed_ok 110) ?_ | refine vs_pan (cneed_no 110) ?_ | (refine vs_cifp (cneed_if _ 110) ?_ ?_ <;> intro _ <;> (try (exfalso; omega))) | (refine vs_cif (cneed_if _ 110) ?_ ?_ <;> intro _)) | refine vs_slicelo ?_ | refine vs_lensv ?_ | refine vs_vc (hc := vc_tries (fd := 97) Tryz.func71 rfl Tryz.ntmps71 Tryz.results71 fun _ => ?_)) | refine nzo ?_ | refine nc ?_ ?_ | (with_reducible intro _ <;> (try (exfalso; omega))) | refine nnil ?_ | (refine nd ?_ ?_ <;> intro hg <;> first | exact xo hg | rw [hg]) | refine vdf_of Tryz.func97 rfl Tryz.ntmps97 Tryz.results97 ?_)
    by_cases h5 : 8 ≤ B5.length
    rotate_left 1
    · have c := rdnum_no true B5 8 (by omega) h5
      rw [show ((8 : Nat) : Int) = 8 from rfl] at c
      refine vs_vm [(4, none)] c ?_
      repeat' (first | rw [hcut] | refine nz1 ?_ | (refine vid ?_; first | refine vs_vc (hc := vc_of Tryz.func75 rfl Tryz.ntmps75 Tryz.results75 fun _ => ?_) | refine cz (cl) ?_ | refine vs_vc (hc := vc_of Tryz.func86 rfl Tryz.ntmps86 Tryz.results86 fun _ => ?_) | refine vs_vc (hc := vc_of Tryz.func54 rfl Tryz.ntmps54 Tryz.results54 fun _ => ?_) | refine vs_vc (hc := vc_of Tryz.func38 rfl Tryz.ntmps38 Tryz.results38 fun _ => ?_) | refine vs_vc (hc := vc_of Tryz.func79 rfl Tryz.ntmps79 Tryz.results79 fun _ => ?_) | refine vs_vc (hc := vc_of Tryz.func77 rfl Tryz.ntmps77 Tryz.results77 fun _ => ?_) | refine vs_eqpn ?_ | refine vs_nepn ?_ | (refine vq_l (cneed_ok 110) ?_; first | refine vs_call (cneed_ok 110) ?_ | refine vs_pan (cneed_no 110) ?_ | (refine vs_cifp (cneed_if _ 110) ?_ ?_ <;> intro _ <;> (try (exfalso; omega))) | (refine vs_cif (cneed_if _ 110) ?_ ?_ <;> intro _)) | refine vs_slicelo ?_ | refine vs_lensv ?_ | refine vs_vc (hc := vc_tries (fd := 97) Tryz.func71 rfl Tryz.ntmps71 Tryz.results71 fun _ => ?_)) | refine nzo ?_ | refine nc ?_ ?_ | (with_reducible intro _ <;> (try (exfalso; omega))) | refine nnil ?_ | (refine nd ?_ ?_ <;> intro hg <;> first | exact xo hg | rw [hg]) | refine vdf_of Tryz.func97 rfl Tryz.ntmps97 Tryz.results97 ?_)
      rw [take19, if_pos (by omega)]
      rfl
    have c5 := rdnum_v true B5 8 (by omega) h5
    rw [show ((8 : Nat) : Int) = 8 from rfl] at c5
    obtain ⟨B6, hB6⟩ : ∃ x, B5.drop 8 = x := ⟨_, rfl⟩
    rw [hB6] at c5
    have hl6 : B6.length = B5.length - 8 := by rw [← hB6]; simp
    refine vs_vm [(4, none)] c5 ?_
    clear c5
    repeat' (first | rw [hcut] | refine nz1 ?_ | (refine vid ?_; first | refine vs_vc (hc := vc_of Tryz.func75 rfl Tryz.ntmps75 Tryz.results75 fun _ => ?_) | refine cz (cl) ?_ | refine vs_vc (hc := vc_of Tryz.func86 rfl Tryz.ntmps86 Tryz.results86 fun _ => ?_) | refine vs_vc (hc := vc_of Tryz.func54 rfl Tryz.ntmps54 Tryz.results54 fun _ => ?_) | refine vs_vc (hc := vc_of Tryz.func38 rfl Tryz.ntmps38 Tryz.results38 fun _ => ?_) | refine vs_vc (hc := vc_of Tryz.func79 rfl Tryz.ntmps79 Tryz.results79 fun _ => ?_) | refine vs_vc (hc := vc_of Tryz.func77 rfl Tryz.ntmps77 Tryz.results77 fun _ => ?_) | refine vs_eqpn ?_ | refine vs_nepn ?_ | (refine vq_l (cneed_ok 110) ?_; first | refine vs_call (cneed_ok 110) ?_ | refine vs_pan (cneed_no 110) ?_ | (refine vs_cifp (cneed_if _ 110) ?_ ?_ <;> intro _ <;> (try (exfalso; omega))) | (refine vs_cif (cneed_if _ 110) ?_ ?_ <;> intro _)) | refine vs_slicelo ?_ | refine vs_lensv ?_ | refine vs_vc (hc := vc_tries (fd := 97) Tryz.func71 rfl Tryz.ntmps71 Tryz.results71 fun _ => ?_)) | refine nzo ?_ | refine nc ?_ ?_ | (with_reducible intro _ <;> (try (exfalso; omega))) | refine nnil ?_ | (refine nd ?_ ?_ <;> intro hg <;> first | exact xo hg | rw [hg]) | refine vdf_of Tryz.func97 rfl Tryz.ntmps97 Tryz.results97 ?_)
    by_cases h6 : 8 ≤ B6.length
    rotate_left 1
    · have c := rdnum_no true B6 8 (by omega) h6
      rw [show ((8 : Nat) : Int) = 8 from rfl] at c
      refine vs_vm [(4, none)] c ?_
      repeat' (first | rw [hcut] | refine nz1 ?_ | (refine vid ?_; first | refine vs_vc (hc := vc_of Tryz.func75 rfl Tryz.ntmps75 Tryz.results75 fun _ => ?_) | refine cz (cl) ?_ | refine vs_vc (hc := vc_of Tryz.func86 rfl Tryz.ntmps86 Tryz.results86 fun _ => ?_) | refine vs_vc (hc := vc_of Tryz.func54 rfl Tryz.ntmps54 Tryz.results54 fun _ => ?_) | refine vs_vc (hc := vc_of Tryz.func38 rfl Tryz.ntmps38 Tryz.results38 fun _ => ?_) | refine vs_vc (hc := vc_of Tryz.func79 rfl Tryz.ntmps79 Tryz.results79 fun _ => ?_) | refine vs_vc (hc := vc_of Tryz.func77 rfl Tryz.ntmps77 Tryz.results77 fun _ => ?_) | refine vs_eqpn ?_ | refine vs_nepn ?_ | (refine vq_l (cneed_ok 110) ?_; first | refine vs_call (cneed_ok 110) ?_ | refine vs_pan (cneed_no 110) ?_ | (refine vs_cifp (cneed_if _ 110) ?_ ?_ <;> intro _ <;> (try (exfalso; omega))) | (refine vs_cif (cneed_if _ 110) ?_ ?_ <;> intro _)) | refine vs_slicelo ?_ | refine vs_lensv ?_ | refine vs_vc (hc := vc_tries (fd := 97) Tryz.func71 rfl Tryz.ntmps71 Tryz.results71 fun _ => ?_)) | refine nzo ?_ | refine nc ?_ ?_ | (with_reducible intro _ <;> (try (exfalso; omega))) | refine nnil ?_ | (refine nd ?_ ?_ <;> intro hg <;> first | exact xo hg | rw [hg]) | refine vdf_of Tryz.func97 rfl Tryz.ntmps97 Tryz.results97 ?_)
      rw [take19, if_pos (by omega)]
      rfl
    have c6 := rdnum_v true B6 8 (by omega) h6
    rw [show ((8 : Nat) : Int) = 8 from rfl] at c6
    obtain ⟨B7, hB7⟩ : ∃ x, B6.drop 8 = x := ⟨_, rfl⟩
    rw [hB7] at c6
    have hl7 : B7.length = B6.length - 8 := by rw [← hB7]; simp
    refine vs_vm [(4, none)] c6 ?_
    clear c6
    repeat' (first | rw [hcut] | refine nz1 ?_ | (refine vid ?_; first | refine vs_vc (hc := vc_of Tryz.func75 rfl Tryz.ntmps75 Tryz.results75 fun _ => ?_) | refine cz (cl) ?_ | refine vs_vc (hc := vc_of Tryz.func86 rfl Tryz.ntmps86 Tryz.results86 fun _ => ?_) | refine vs_vc (hc := vc_of Tryz.func54 rfl Tryz.ntmps54 Tryz.results54 fun _ => ?_) | refine vs_vc (hc := vc_of Tryz.func38 rfl Tryz.ntmps38 Tryz.results38 fun _ => ?_) | refine vs_vc (hc := vc_of Tryz.func79 rfl Tryz.ntmps79 Tryz.results79 fun _ => ?_) | refine vs_vc (hc := vc_of Tryz.func77 rfl Tryz.ntmps77 Tryz.results77 fun _ => ?_) | refine vs_eqpn ?_ | refine vs_nepn ?_ | (refine vq_l (cneed_ok 110) ?_; first | refine vs_call (cneed_ok 110) ?_ | refine vs_pan (cneed_no 110) ?_ | (refine vs_cifp (cneed_if _ 110) ?_ ?_ <;> intro _ <;> (try (exfalso; omega))) | (refine vs_cif (cneed_if _ 110) ?_ ?_ <;> intro _)) | refine vs_slicelo ?_ | refine vs_lensv ?_ | refine vs_vc (hc := vc_tries (fd := 97) Tryz.func71 rfl Tryz.ntmps71 Tryz.results71 fun _ => ?_)) | refine nzo ?_ | refine nc ?_ ?_ | (with_reducible intro _ <;> (try (exfalso; omega))) | refine nnil ?_ | (refine nd ?_ ?_ <;> intro hg <;> first | exact xo hg | rw [hg]) | refine vdf_of Tryz.func97 rfl Tryz.ntmps97 Tryz.results97 ?_)
    by_cases h7 : 8 ≤ B7.length
    rotate_left 1
    · have c := rdnum_no true B7 8 (by omega) h7
      rw [show ((8 : Nat) : Int) = 8 from rfl] at c
      refine vs_vm [(4, none)] c ?_
      repeat' (first | rw [hcut] | refine nz1 ?_ | (refine vid ?_; first | refine vs_vc (hc := vc_of Tryz.func75 rfl Tryz.ntmps75 Tryz.results75 fun _ => ?_) | refine cz (cl) ?_ | refine vs_vc (hc := vc_of Tryz.func86 rfl Tryz.ntmps86 Tryz.results86 fun _ => ?_) | refine vs_vc (hc := vc_of Tryz.func54 rfl Tryz.ntmps54 Tryz.results54 fun _ => ?_) | refine vs_vc (hc := vc_of Tryz.func38 rfl Tryz.ntmps38 Tryz.results38 fun _ => ?_) | refine vs_vc (hc := vc_of Tryz.func79 rfl Tryz.ntmps79 Tryz.results79 fun _ => ?_) | refine vs_vc (hc := vc_of Tryz.func77 rfl Tryz.ntmps77 Tryz.results77 fun _ => ?_) | refine vs_eqpn ?_ | refine vs_nepn ?_ | (refine vq_l (cneed_ok 110) ?_; first | refine vs_call (cneed_ok 110) ?_ | refine vs_pan (cneed_no 110) ?_ | (refine vs_cifp (cneed_if _ 110) ?_ ?_ <;> intro _ <;> (try (exfalso; omega))) | (refine vs_cif (cneed_if _ 110) ?_ ?_ <;> intro _)) | refine vs_slicelo ?_ | refine vs_lensv ?_ | refine vs_vc (hc := vc_tries (fd := 97) Tryz.func71 rfl Tryz.ntmps71 Tryz.results71 fun _ => ?_)) | refine nzo ?_ | refine nc ?_ ?_ | (with_reducible intro _ <;> (try (exfalso; omega))) | refine nnil ?_ | (refine nd ?_ ?_ <;> intro hg <;> first | exact xo hg | rw [hg]) | refine vdf_of Tryz.func97 rfl Tryz.ntmps97 Tryz.results97 ?_)
      rw [take19, if_pos (by omega)]
      rfl
    have c7 := rdnum_v true B7 8 (by omega) h7
    rw [show ((8 : Nat) : Int) = 8 from rfl] at c7
    obtain ⟨B8, hB8⟩ : ∃ x, B7.drop 8 = x := ⟨_, rfl⟩
    rw [hB8] at c7
    have hl8 : B8.length = B7.length - 8 := by rw [← hB8]; simp
    refine vs_vm [(4, none)] c7 ?_
    clear c7
    repeat' (first | rw [hcut] | refine nz1 ?_ | (refine vid ?_; first | refine vs_vc (hc := vc_of Tryz.func75 rfl Tryz.ntmps75 Tryz.results75 fun _ => ?_) | refine cz (cl) ?_ | refine vs_vc (hc := vc_of Tryz.func86 rfl Tryz.ntmps86 Tryz.results86 fun _ => ?_) | refine vs_vc (hc := vc_of Tryz.func54 rfl Tryz.ntmps54 Tryz.results54 fun _ => ?_) | refine vs_vc (hc := vc_of Tryz.func38 rfl Tryz.ntmps38 Tryz.results38 fun _ => ?_) | refine vs_vc (hc := vc_of Tryz.func79 rfl Tryz.ntmps79 Tryz.results79 fun _ => ?_) | refine vs_vc (hc := vc_of Tryz.func77 rfl Tryz.ntmps77 Tryz.results77 fun _ => ?_) | refine vs_eqpn ?_ | refine vs_nepn ?_ | (refine vq_l (cneed_ok 110) ?_; first | refine vs_call (cneed_ok 110) ?_ | refine vs_pan (cneed_no 110) ?_ | (refine vs_cifp (cneed_if _ 110) ?_ ?_ <;> intro _ <;> (try (exfalso; omega))) | (refine vs_cif (cneed_if _ 110) ?_ ?_ <;> intro _)) | refine vs_slicelo ?_ | refine vs_lensv ?_ | refine vs_vc (hc := vc_tries (fd := 97) Tryz.func71 rfl Tryz.ntmps71 Tryz.results71 fun _ => ?_)) | refine nzo ?_ | refine nc ?_ ?_ | (with_reducible intro _ <;> (try (exfalso; omega))) | refine nnil ?_ | (refine nd ?_ ?_ <;> intro hg <;> first | exact xo hg | rw [hg]) | refine vdf_of Tryz.func97 rfl Tryz.ntmps97 Tryz.results97 ?_)
    have hv : vcOf B0 = ⟨0, numN (B0.take 8), numN (B1.take 8), numN (B2.take 8), numN (B3.take 8), numN (B4.take 8), numN (B5.take 8), numN (B6.take 8), numN (B7.take 8)⟩ := by
      rw [← hB7, ← hB6, ← hB5, ← hB4, ← hB3, ← hB2, ← hB1]
      simp only [vcOf, List.drop_take, List.drop_drop]
    obtain ⟨r, hr⟩ : ∃ r, vcB (vcOf B0) = r := ⟨_, rfl⟩
    have cv := vcheck_v (vcOf B0)
    have ht : take19 B0 = if r then (vcOf B0, 64, 0) else (.zero, 0, 290) := by rw [take19, if_neg (by omega), hr]
    have h64 : ((byD B0).length : Int) - ((byD B8).length : Int) = 64 := by rw [byD_len, byD_len]; omega
    rw [hr, hv] at cv
    rw [ht, hv]
    clear ht hr hv
    cases r
    · simp only [Bool.false_eq_true, if_false] at cv ⊢
      repeat' (first | refine nz1 ?_ | (refine vid ?_; first | refine cz (cv) ?_ | (refine vq_l (cneed_ok 290) ?_; first | refine vs_call (cneed_ok 290) ?_ | refine vs_pan (cneed_no 290) ?_ | (refine vs_cifp (cneed_if _ 290) ?_ ?_ <;> intro _ <;> (try (exfalso; omega))) | (refine vs_cif (cneed_if _ 290) ?_ ?_ <;> intro _)) | refine vs_vc (hc := vc_of Tryz.func77 rfl Tryz.ntmps77 Tryz.results77 fun _ => ?_) | refine vs_eqpn ?_ | refine vs_nepn ?_) | refine nzo ?_ | refine nc ?_ ?_ | (with_reducible intro _ <;> (try (exfalso; omega))) | refine nnil ?_ | (refine nd ?_ ?_ <;> intro hg <;> first | exact xo hg | rw [hg]) | refine vdf_of Tryz.func97 rfl Tryz.ntmps97 Tryz.results97 ?_)
      all_goals first | rfl | trace_state
    · simp only [if_true] at cv ⊢
      have c9 := left_v B8 0
      repeat' (first | refine vw_drawkx (id := 10) [2] ?_ | refine nz1 ?_ | (refine vid ?_; first | refine cz (cv) ?_ | refine cz (c9) ?_ | (refine vq_l (cneed_ok 290) ?_; first | refine vs_call (cneed_ok 290) ?_ | refine vs_pan (cneed_no 290) ?_ | (refine vs_cifp (cneed_if _ 290) ?_ ?_ <;> intro _ <;> (try (exfalso; omega))) | (refine vs_cif (cneed_if _ 290) ?_ ?_ <;> intro _)) | refine vs_vc (hc := vc_of Tryz.func77 rfl Tryz.ntmps77 Tryz.results77 fun _ => ?_) | refine vs_eqpn ?_ | refine vs_nepn ?_) | refine nzo ?_ | refine nc ?_ ?_ | (with_reducible intro _ <;> (try (exfalso; omega))) | refine nnil ?_ | (refine nd ?_ ?_ <;> intro hg <;> first | exact xo hg | rw [hg]) | refine vdf_of Tryz.func97 rfl Tryz.ntmps97 Tryz.results97 ?_)
      all_goals first | (rw [h64]; rfl) | trace_state
end Go.Proofs.YtnjaohdadaifhaaGreat
