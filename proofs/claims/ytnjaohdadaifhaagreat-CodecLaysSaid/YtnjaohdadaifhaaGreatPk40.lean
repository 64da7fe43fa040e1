/- Walks by data and names, part 40: Layer 19, by V: TakeOps. Layer 19, by V: TakeId. The document's layer 12, by V: which operations may be. -/
import Derived.Test.YtnjaohdadaifhaaGreatPk39
import Derived.Test.YtnjaohdadaifhaaGreatPk32
namespace Go.Proofs.YtnjaohdadaifhaaGreat
set_option maxRecDepth 20000
open Go.RowKit
set_option maxRecDepth 10000
set_option maxHeartbeats 4000000
theorem takeOps_0 : VP Tryz.prog 9 [bsD []] (· = .ret (.tup [.sl false true ([].map oM), i64D 0, i64D 110])) := by
  have hb : ([] : List UInt8).length ≤ 1000000 := by simp
  have hbl := byD_len []
  have hmin : min ((byD []).length : Int) 1048576 = ((byD []).length : Int) := by omega
  have hcut : cutL none (some ((byD []).length : Int)) (byD []) = byD [] := by rw [hbl, cutN, List.take_of_length_le (Nat.le_refl _)]
  have cl := clone_v [] (by omega)
  refine VP.le ?_
  refine vp_of Tryz.func9 rfl Tryz.ntmps9 rfl Tryz.results9 fun B => ?_
  repeat' (first | refine nz1 ?_ | refine nzo ?_ | refine nc ?_ ?_ | (with_reducible intro _ <;> (try (exfalso; omega))) | refine nnil ?_ | (refine nd ?_ ?_ <;> intro hg <;> first | exact xo hg | rw [hg]))
  refine vs_vc (hc := vc_of Tryz.func36 rfl Tryz.ntmps36 Tryz.results36 fun _ => ?_)
  refine vw_seq ?_
  repeat' (first | refine nz1 ?_ | ((fail_if_success (with_reducible refine vw_seq ?_)); refine nzo ?_) | refine nc ?_ ?_ | (with_reducible intro _ <;> (try (exfalso; omega))) | refine nnil ?_ | (refine nd ?_ ?_ <;> intro hg <;> first | exact xo hg | rw [hg]))
  refine vw_seq ?_
  repeat' (first | rw [hmin] | refine nz1 ?_ | ((fail_if_success (with_reducible refine vw_seq ?_)); refine nzo ?_) | refine nc ?_ ?_ | (with_reducible intro _ <;> (try (exfalso; omega))) | refine nnil ?_ | (refine nd ?_ ?_ <;> intro hg <;> first | exact xo hg | rw [hg]))
  refine vw_seq ?_
  repeat' (first | refine nz1 ?_ | ((fail_if_success (with_reducible refine vw_seq ?_)); refine nzo ?_) | refine nc ?_ ?_ | (with_reducible intro _ <;> (try (exfalso; omega))) | refine nnil ?_ | (refine nd ?_ ?_ <;> intro hg <;> first | exact xo hg | rw [hg]))
  refine vw_frz 1 rfl ?_
  repeat' (first | rw [hcut] | refine nz1 ?_ | (refine vid ?_; first | refine vs_vc (hc := vc_of Tryz.func75 rfl Tryz.ntmps75 Tryz.results75 fun _ => ?_) | refine cz (cl) ?_ | refine vs_vc (hc := vc_of Tryz.func76 rfl Tryz.ntmps76 Tryz.results76 fun _ => ?_) | refine vs_vc (hc := vc_of Tryz.func37 rfl Tryz.ntmps37 Tryz.results37 fun _ => ?_) | refine vs_vc (hc := vc_of Tryz.func38 rfl Tryz.ntmps38 Tryz.results38 fun _ => ?_) | refine vs_vc (hc := vc_tries (fd := 97) Tryz.func71 rfl Tryz.ntmps71 Tryz.results71 fun _ => ?_)) | refine nzo ?_ | refine nc ?_ ?_ | (with_reducible intro _ <;> (try (exfalso; omega))) | refine nnil ?_ | (refine nd ?_ ?_ <;> intro hg <;> first | exact xo hg | rw [hg]) | refine vdf_of Tryz.func97 rfl Tryz.ntmps97 Tryz.results97 ?_)
  have c1 := rd1n
  refine vs_vm [(2, none)] c1 ?_
  repeat' (first | refine nz1 ?_ | (refine vid ?_; first | refine vs_vc (hc := vc_of Tryz.func79 rfl Tryz.ntmps79 Tryz.results79 fun _ => ?_) | refine vs_eqpn ?_ | refine vs_nepnT ?_ | refine vs_nepnF ?_ | (refine vq_l (cneed_ok 110) ?_; first | refine vs_call (cneed_ok 110) ?_ | refine vs_pan (cneed_no 110) ?_ | (refine vs_cifp (cneed_if _ 110) ?_ ?_ <;> intro _ <;> (try (exfalso; omega))) | (refine vs_cif (cneed_if _ 110) ?_ ?_ <;> intro _))) | refine nzo ?_ | refine nc ?_ ?_ | (with_reducible intro _ <;> (try (exfalso; omega))) | refine nnil ?_ | (refine nd ?_ ?_ <;> intro hg <;> first | exact xo hg | rw [hg]) | refine vdf_of Tryz.func97 rfl Tryz.ntmps97 Tryz.results97 ?_)
  all_goals first | (simp only [leR, List.map_nil]; infer_instance) | trace_state
theorem takeOps_b (n : UInt8) (b : List UInt8) (hb : (n :: b).length ≤ 1000000) (hn : ¬ n.toNat ≤ 64) : VP Tryz.prog 9 [bsD (n :: b)] (· = .ret (.tup [.sl false true ([].map oM), i64D 0, i64D 290])) := by
  have hn8 := n.toNat_lt
  have c1 := rd1 n b
  obtain ⟨B0, hB0⟩ : ∃ B0, n :: b = B0 := ⟨_, rfl⟩
  rw [hB0] at hb c1 ⊢
  have hbl := byD_len B0
  have hmin : min ((byD B0).length : Int) 1048576 = ((byD B0).length : Int) := by omega
  have hcut : cutL none (some ((byD B0).length : Int)) (byD B0) = byD B0 := by rw [hbl, cutN, List.take_of_length_le (Nat.le_refl _)]
  have cl := clone_v B0 (by omega)
  refine VP.le ?_
  refine vp_of Tryz.func9 rfl Tryz.ntmps9 rfl Tryz.results9 fun B => ?_
  repeat' (first | refine nz1 ?_ | refine nzo ?_ | refine nc ?_ ?_ | (with_reducible intro _ <;> (try (exfalso; omega))) | refine nnil ?_ | (refine nd ?_ ?_ <;> intro hg <;> first | exact xo hg | rw [hg]))
  refine vs_vc (hc := vc_of Tryz.func36 rfl Tryz.ntmps36 Tryz.results36 fun _ => ?_)
  refine vw_seq ?_
  repeat' (first | refine nz1 ?_ | ((fail_if_success (with_reducible refine vw_seq ?_)); refine nzo ?_) | refine nc ?_ ?_ | (with_reducible intro _ <;> (try (exfalso; omega))) | refine nnil ?_ | (refine nd ?_ ?_ <;> intro hg <;> first | exact xo hg | rw [hg]))
  refine vw_seq ?_
  repeat' (first | rw [hmin] | refine nz1 ?_ | ((fail_if_success (with_reducible refine vw_seq ?_)); refine nzo ?_) | refine nc ?_ ?_ | (with_reducible intro _ <;> (try (exfalso; omega))) | refine nnil ?_ | (refine nd ?_ ?_ <;> intro hg <;> first | exact xo hg | rw [hg]))
  refine vw_seq ?_
  repeat' (first | refine nz1 ?_ | ((fail_if_success (with_reducible refine vw_seq ?_)); refine nzo ?_) | refine nc ?_ ?_ | (with_reducible intro _ <;> (try (exfalso; omega))) | refine nnil ?_ | (refine nd ?_ ?_ <;> intro hg <;> first | exact xo hg | rw [hg]))
  refine vw_frz 1 rfl ?_
  repeat' (first | rw [hcut] | refine nz1 ?_ | (refine vid ?_; first | refine vs_vc (hc := vc_of Tryz.func75 rfl Tryz.ntmps75 Tryz.results75 fun _ => ?_) | refine cz (cl) ?_ | refine vs_vc (hc := vc_of Tryz.func76 rfl Tryz.ntmps76 Tryz.results76 fun _ => ?_) | refine vs_vc (hc := vc_of Tryz.func37 rfl Tryz.ntmps37 Tryz.results37 fun _ => ?_) | refine vs_vc (hc := vc_of Tryz.func38 rfl Tryz.ntmps38 Tryz.results38 fun _ => ?_) | refine vs_vc (hc := vc_tries (fd := 97) Tryz.func71 rfl Tryz.ntmps71 Tryz.results71 fun _ => ?_)) | refine nzo ?_ | refine nc ?_ ?_ | (with_reducible intro _ <;> (try (exfalso; omega))) | refine nnil ?_ | (refine nd ?_ ?_ <;> intro hg <;> first | exact xo hg | rw [hg]) | refine vdf_of Tryz.func97 rfl Tryz.ntmps97 Tryz.results97 ?_)
  refine vs_vm [(2, none)] c1 ?_
  repeat' (first | refine nz1 ?_ | (refine vid ?_; first | refine vs_vc (hc := vc_of Tryz.func79 rfl Tryz.ntmps79 Tryz.results79 fun _ => ?_) | refine vs_eqpn ?_ | refine vs_nepnT ?_ | refine vs_nepnF ?_ | (refine vq_l (cneed_ok 110) ?_; first | refine vs_call (cneed_ok 110) ?_ | refine vs_pan (cneed_no 110) ?_ | (refine vs_cifp (cneed_if _ 110) ?_ ?_ <;> intro _ <;> (try (exfalso; omega))) | (refine vs_cif (cneed_if _ 110) ?_ ?_ <;> intro _)) | (refine vq_l (cneed_ok 290) ?_; first | refine vs_call (cneed_ok 290) ?_ | refine vs_pan (cneed_no 290) ?_ | (refine vs_cifp (cneed_if _ 290) ?_ ?_ <;> intro _ <;> (try (exfalso; omega))) | (refine vs_cif (cneed_if _ 290) ?_ ?_ <;> intro _))) | refine nzo ?_ | refine nc ?_ ?_ | (with_reducible intro _ <;> (try (exfalso; omega))) | refine nnil ?_ | (refine nd ?_ ?_ <;> intro hg <;> first | exact xo hg | rw [hg]) | refine vdf_of Tryz.func97 rfl Tryz.ntmps97 Tryz.results97 ?_)
  all_goals first | (simp only [leR, List.map_nil]; infer_instance) | trace_state
theorem takeOps_n (n : UInt8) (b : List UInt8) (hb : (n :: b).length ≤ 1000000) (hn : n.toNat ≤ 64) : VP Tryz.prog 9 [bsD (n :: b)] (· = .ret (.tup [.sl false true ((takeOps (n :: b)).1.map oM), i64D (takeOps (n :: b)).2.1, i64D (takeOps (n :: b)).2.2])) := by
  have hn8 := n.toNat_lt
  have c1 := rd1 n b
  obtain ⟨res, hE⟩ : ∃ E, takeOps (n :: b) = E := ⟨_, rfl⟩
  rw [hE]
  simp only [takeOps, rdRow] at hE
  rw [if_pos hn] at hE
  obtain ⟨B0, hB0⟩ : ∃ B0, n :: b = B0 := ⟨_, rfl⟩
  rw [hB0] at hb c1 ⊢
  have hbl := byD_len B0
  have hmin : min ((byD B0).length : Int) 1048576 = ((byD B0).length : Int) := by omega
  have hcut : cutL none (some ((byD B0).length : Int)) (byD B0) = byD B0 := by rw [hbl, cutN, List.take_of_length_le (Nat.le_refl _)]
  have cl := clone_v B0 (by omega)
  refine VP.le ?_
  refine vp_of Tryz.func9 rfl Tryz.ntmps9 rfl Tryz.results9 fun B => ?_
  repeat' (first | refine nz1 ?_ | refine nzo ?_ | refine nc ?_ ?_ | (with_reducible intro _ <;> (try (exfalso; omega))) | refine nnil ?_ | (refine nd ?_ ?_ <;> intro hg <;> first | exact xo hg | rw [hg]))
  refine vs_vc (hc := vc_of Tryz.func36 rfl Tryz.ntmps36 Tryz.results36 fun _ => ?_)
  refine vw_seq ?_
  repeat' (first | refine nz1 ?_ | ((fail_if_success (with_reducible refine vw_seq ?_)); refine nzo ?_) | refine nc ?_ ?_ | (with_reducible intro _ <;> (try (exfalso; omega))) | refine nnil ?_ | (refine nd ?_ ?_ <;> intro hg <;> first | exact xo hg | rw [hg]))
  refine vw_seq ?_
  repeat' (first | rw [hmin] | refine nz1 ?_ | ((fail_if_success (with_reducible refine vw_seq ?_)); refine nzo ?_) | refine nc ?_ ?_ | (with_reducible intro _ <;> (try (exfalso; omega))) | refine nnil ?_ | (refine nd ?_ ?_ <;> intro hg <;> first | exact xo hg | rw [hg]))
  refine vw_seq ?_
  repeat' (first | refine nz1 ?_ | ((fail_if_success (with_reducible refine vw_seq ?_)); refine nzo ?_) | refine nc ?_ ?_ | (with_reducible intro _ <;> (try (exfalso; omega))) | refine nnil ?_ | (refine nd ?_ ?_ <;> intro hg <;> first | exact xo hg | rw [hg]))
  refine vw_frz 1 rfl ?_
  repeat' (first | rw [hcut] | refine nz1 ?_ | (refine vid ?_; first | refine vs_vc (hc := vc_of Tryz.func75 rfl Tryz.ntmps75 Tryz.results75 fun _ => ?_) | refine cz (cl) ?_ | refine vs_vc (hc := vc_of Tryz.func76 rfl Tryz.ntmps76 Tryz.results76 fun _ => ?_) | refine vs_vc (hc := vc_of Tryz.func37 rfl Tryz.ntmps37 Tryz.results37 fun _ => ?_) | refine vs_vc (hc := vc_of Tryz.func38 rfl Tryz.ntmps38 Tryz.results38 fun _ => ?_) | refine vs_vc (hc := vc_tries (fd := 97) Tryz.func71 rfl Tryz.ntmps71 Tryz.results71 fun _ => ?_)) | refine nzo ?_ | refine nc ?_ ?_ | (with_reducible intro _ <;> (try (exfalso; omega))) | refine nnil ?_ | (refine nd ?_ ?_ <;> intro hg <;> first | exact xo hg | rw [hg]) | refine vdf_of Tryz.func97 rfl Tryz.ntmps97 Tryz.results97 ?_)
  refine vs_vm [(2, none)] c1 ?_
  repeat' (first | refine nz1 ?_ | (refine vid ?_; first | refine vs_vc (hc := vc_of Tryz.func79 rfl Tryz.ntmps79 Tryz.results79 fun _ => ?_) | refine vs_eqpn ?_ | refine vs_nepnT ?_ | refine vs_nepnF ?_ | (refine vq_l (cneed_ok 110) ?_; first | refine vs_call (cneed_ok 110) ?_ | refine vs_pan (cneed_no 110) ?_ | (refine vs_cifp (cneed_if _ 110) ?_ ?_ <;> intro _ <;> (try (exfalso; omega))) | (refine vs_cif (cneed_if _ 110) ?_ ?_ <;> intro _)) | (refine vq_l (cneed_ok 290) ?_; first | refine vs_call (cneed_ok 290) ?_ | refine vs_pan (cneed_no 290) ?_ | (refine vs_cifp (cneed_if _ 290) ?_ ?_ <;> intro _ <;> (try (exfalso; omega))) | (refine vs_cif (cneed_if _ 290) ?_ ?_ <;> intro _)) | refine vs_vc (hc := vc_of Tryz.func40 rfl Tryz.ntmps40 Tryz.results40 fun _ => ?_) | refine vs_vc (hc := vc_of Tryz.func39 rfl Tryz.ntmps39 Tryz.results39 fun _ => ?_) | refine vs_vc (hc := vc_of Tryz.func80 rfl Tryz.ntmps80 Tryz.results80 fun _ => ?_)) | refine nzo ?_ | refine nc ?_ ?_ | (with_reducible intro _ <;> (try (exfalso; omega))) | refine nnil ?_ | (refine nd ?_ ?_ <;> intro hg <;> first | exact xo hg | rw [hg]) | refine vdf_of Tryz.func97 rfl Tryz.ntmps97 Tryz.results97 ?_)
  refine vw_rng fun R1 T1 hOk1 => ?_
  refine vmb_of Tryz.func81 rfl Tryz.ntmps81 Tryz.results81 fun M2 => ?_
  repeat' (first | refine nz1 ?_ | refine nzo ?_ | refine nc ?_ ?_ | (with_reducible intro _ <;> (try (exfalso; omega))) | refine nnil ?_ | (refine nd ?_ ?_ <;> intro hg <;> first | exact xo hg | rw [hg]))
  refine vw_nilC 9 0 42 19 rfl ?_
  refine vw_loop (fun p : List Opp × List UInt8 => ⟨[(5, I .i64 p.1.length), (4, .d (i64D n.toNat)), (0, .yl 10), (1, .ptr 8 0), (2, .ptr 7 0)],
    [.y 10 (some R1) T1 [(13, .yl 10), (2, .ptr 9 0)], .c 9 0 [.row 11 0], .c 8 0 [.d (i64D n.toNat)], .c 7 0 [.ptr 6 0], .c 2 0 (rdV p.2), .c 6 0 (tkA (.ptr 2 0) nilP), .c 5 0 [.d (i64D 0)], .c 4 0 [.d nilD], .c 3 0 [.ptr 2 0],
      .r false true 1 0 5 1 (byD B0), .c 0 0 [.fn (.func 37) [] []], .r true true 11 0 42 19 (p.1.map oM)], 12⟩)
    (fun p => p.1.length ≤ n.toNat ∧ p.2.length ≤ B0.length ∧ rdOps n.toNat b = match rdOps (n.toNat - p.1.length) p.2 with | .error e => .error e | .ok (l, t) => .ok (p.1 ++ l, t))
    (fun p => n.toNat - p.1.length) ([], b) (sub_zr [(11, _, _)]) ⟨Nat.zero_le _, by rw [← hB0]; simp, by simp only [List.length_nil, Nat.sub_zero, List.nil_append]; cases rdOps n.toNat b <;> rfl⟩ fun p hp => ?_
  obtain ⟨done, rest⟩ := p
  obtain ⟨hp1, hp2, hp3⟩ := hp
  simp only at hp1 hp2 hp3
  dsimp only
  have hdl : (done.map oM).length = done.length := List.length_map _
  rcases Nat.lt_or_ge done.length n.toNat with h | h
  · rw [show n.toNat - done.length = (n.toNat - done.length - 1) + 1 by omega, rdOps] at hp3
    cases hr : rdOp rest with
    | error e =>
      rw [hr] at hp3
      simp only at hp3
      rw [hp3] at hE
      simp only at hE
      subst hE
      have ce := opT_er hr
      rcases rdOp_e hr with rfl | rfl
      all_goals
        repeat' (first | refine nz1 ?_ | (refine vid ?_; first | refine vs_vm [(6, none), (2, none)] ce ?_) | refine nzo ?_ | refine nc ?_ ?_ | (with_reducible intro _ <;> (try (exfalso; omega))) | refine nnil ?_ | (refine nd ?_ ?_ <;> intro hg <;> first | exact xo hg | rw [hg]) | refine vdf_of Tryz.func97 rfl Tryz.ntmps97 Tryz.results97 ?_)
        all_goals first | (simp only [leR, List.map_nil]; infer_instance) | trace_state
    | ok q =>
      obtain ⟨o, t'⟩ := q
      rw [hr] at hp3
      simp only at hp3
      have ht' := congrArg List.length (by_op hr).2
      rw [List.length_append] at ht'
      have co := opT_ok hr
      simp only [oM, oDf] at co
      repeat' (first | refine nz1 ?_ | (refine vid ?_; first | refine vs_vm [(6, none), (2, none)] co ?_ | refine vs_yield (by assumption) fun _ _ => ?_) | refine nzo ?_ | refine nc ?_ ?_ | (with_reducible intro _ <;> (try (exfalso; omega))) | refine nnil ?_ | (refine nd ?_ ?_ <;> intro hg <;> first | exact xo hg | rw [hg]) | refine vdf_of Tryz.func97 rfl Tryz.ntmps97 Tryz.results97 ?_)
      refine nx_loop (done ++ [o], t') ⟨by simp; omega, by simp only; omega, ?_⟩ (by simp; omega) ?_
      · rw [hp3]
        simp only [List.length_append, List.length_cons, List.length_nil]
        rw [show n.toNat - (done.length + (0 + 1)) = n.toNat - done.length - 1 by omega]
        cases rdOps (n.toNat - done.length - 1) t' with
        | error e => rfl
        | ok z => obtain ⟨l, t⟩ := z; simp
      · dsimp only
        rw [show (((done ++ [o]).length : Nat) : Int) = (done.length : Int) + 1 by simp]
        simp only [List.map_append, List.map_cons, List.map_nil]
        exact (sub_zr [(11, _, _)])
  · rw [show n.toNat - done.length = 0 by omega, rdOps] at hp3
    simp only [List.append_nil] at hp3
    rw [hp3] at hE
    simp only at hE
    subst hE
    have c9 := left_v rest 0
    have htl : (byD rest).length ≤ (byD B0).length := by rw [byD_len, byD_len]; omega
    repeat' (first | refine nz1 ?_ | (refine vid ?_; first | refine cz (c9) ?_ | refine vs_vc (hc := vc_of Tryz.func77 rfl Tryz.ntmps77 Tryz.results77 fun _ => ?_) | refine vs_eqpn ?_ | refine vs_nepn ?_) | refine nzo ?_ | refine nc ?_ ?_ | (with_reducible intro _ <;> (try (exfalso; omega))) | refine nnil ?_ | (refine nd ?_ ?_ <;> intro hg <;> first | exact xo hg | rw [hg]) | refine vdf_of Tryz.func97 rfl Tryz.ntmps97 Tryz.results97 ?_)
    all_goals (rw [hB0, byD_len, byD_len]; exact de_refl _)
theorem takeOps_v (B0 : List UInt8) (hb : B0.length ≤ 1000000) : VP Tryz.prog 9 [bsD B0] (· = .ret (.tup [.sl false true ((takeOps B0).1.map oM), i64D (takeOps B0).2.1, i64D (takeOps B0).2.2])) := by
  match B0 with
  | [] => exact takeOps_0
  | n :: b =>
    by_cases hn : n.toNat ≤ 64
    · exact takeOps_n n b hb hn
    · have := takeOps_b n b hb hn
      rw [show takeOps (n :: b) = ([], 0, 290) by simp only [takeOps, rdRow]; rw [if_neg hn]]
      exact this
end Go.Proofs.YtnjaohdadaifhaaGreat

namespace Go.Proofs.YtnjaohdadaifhaaGreat
set_option maxRecDepth 20000
open Go.RowKit
set_option maxRecDepth 10000
set_option maxHeartbeats 4000000
def takeIdE (b : List UInt8) : Idd × Int × Int := match rdId b with
  | none => (.zero, 0, 110)
  | some (i, _) => if idB i then (i, 17, 0) else (.zero, 0, 290)
theorem takeI_v (B0 : List UInt8) (hb : B0.length ≤ 1000000) : VP Tryz.prog 16 [bsD B0] (· = .ret (.tup [.agg (idD (takeIdE B0).1), i64D (takeIdE B0).2.1, i64D (takeIdE B0).2.2])) := by
  have hbl := byD_len B0
  have hmin : min ((byD B0).length : Int) 1048576 = ((byD B0).length : Int) := by omega
  have hcut : cutL none (some ((byD B0).length : Int)) (byD B0) = byD B0 := by rw [hbl, cutN, List.take_of_length_le (Nat.le_refl _)]
  have cl := clone_v B0 (by omega)
  refine VP.le ?_
  refine vp_of Tryz.func16 rfl Tryz.ntmps16 rfl Tryz.results16 fun B => ?_
  repeat' (first | refine nz1 ?_ | refine nzo ?_ | refine nc ?_ ?_ | (with_reducible intro _ <;> (try (exfalso; omega))) | refine nnil ?_ | (refine nd ?_ ?_ <;> intro hg <;> first | exact xo hg | rw [hg]))
  refine vs_vc (hc := vc_of Tryz.func47 rfl Tryz.ntmps47 Tryz.results47 fun _ => ?_)
  refine vw_seq ?_
  repeat' (first | refine nz1 ?_ | ((fail_if_success (with_reducible refine vw_seq ?_)); refine nzo ?_) | refine nc ?_ ?_ | (with_reducible intro _ <;> (try (exfalso; omega))) | refine nnil ?_ | (refine nd ?_ ?_ <;> intro hg <;> first | exact xo hg | rw [hg]))
  refine vw_seq ?_
  repeat' (first | rw [hmin] | refine nz1 ?_ | ((fail_if_success (with_reducible refine vw_seq ?_)); refine nzo ?_) | refine nc ?_ ?_ | (with_reducible intro _ <;> (try (exfalso; omega))) | refine nnil ?_ | (refine nd ?_ ?_ <;> intro hg <;> first | exact xo hg | rw [hg]))
  refine vw_seq ?_
  repeat' (first | refine nz1 ?_ | ((fail_if_success (with_reducible refine vw_seq ?_)); refine nzo ?_) | refine nc ?_ ?_ | (with_reducible intro _ <;> (try (exfalso; omega))) | refine nnil ?_ | (refine nd ?_ ?_ <;> intro hg <;> first | exact xo hg | rw [hg]))
  refine vw_frz 3 rfl ?_
  repeat' (first | rw [hcut] | refine nz1 ?_ | (refine vid ?_; first | refine vs_vc (hc := vc_of Tryz.func75 rfl Tryz.ntmps75 Tryz.results75 fun _ => ?_) | refine cz (cl) ?_ | refine vs_vc (hc := vc_of Tryz.func84 rfl Tryz.ntmps84 Tryz.results84 fun _ => ?_) | refine vs_vc (hc := vc_of Tryz.func48 rfl Tryz.ntmps48 Tryz.results48 fun _ => ?_) | refine vs_vc (hc := vc_of Tryz.func49 rfl Tryz.ntmps49 Tryz.results49 fun _ => ?_) | refine vs_vc (hc := vc_of Tryz.func38 rfl Tryz.ntmps38 Tryz.results38 fun _ => ?_) | refine vs_eqpn ?_ | refine vs_nepnT ?_ | refine vs_nepnF ?_ | refine vs_vc (hc := vc_tries (fd := 97) Tryz.func71 rfl Tryz.ntmps71 Tryz.results71 fun _ => ?_)) | refine nzo ?_ | refine nc ?_ ?_ | (with_reducible intro _ <;> (try (exfalso; omega))) | refine nnil ?_ | (refine nd ?_ ?_ <;> intro hg <;> first | exact xo hg | rw [hg]) | refine vdf_of Tryz.func97 rfl Tryz.ntmps97 Tryz.results97 ?_)
  by_cases h17 : 17 ≤ B0.length
  · have hI : rdId B0 = some (⟨numN (B0.take 8), numN ((B0.drop 8).take 1), numN ((B0.drop 9).take 8)⟩, B0.drop 17) := by rw [rdId, if_pos h17]
    have hn := num1_lt (B0.drop 8)
    have c1 := rd8 B0 (by omega)
    have c2 := rd19 B0 (by omega)
    have c3 := rd8 (B0.drop 9) (by simp; omega)
    rw [List.drop_drop] at c3
    have c9 := left_v (B0.drop 17) 0
    have hl9 : ((byD B0).length : Int) - ((byD (B0.drop 17)).length : Int) = 17 := by rw [byD_len, byD_len, List.length_drop]; omega
    have hl10 : (byD (B0.drop 17)).length ≤ (byD B0).length := by omega
    generalize B0.drop 17 = B3 at *
    generalize numN (B0.take 8) = n1 at *
    generalize numN ((B0.drop 8).take 1) = n2 at *
    generalize numN ((B0.drop 9).take 8) = n3 at *
    have ci := icheck_v ⟨n1, n2, n3⟩
    simp only [idD] at ci
    cases hB : idB ⟨n1, n2, n3⟩ with
    | false =>
      rw [show takeIdE B0 = (.zero, 0, 290) by simp only [takeIdE, hI]; rw [if_neg (by rw [hB]; simp)]]
      rw [hB] at ci
      simp only [Bool.false_eq_true, if_false] at ci
      repeat' (first | refine nz1 ?_ | (refine vid ?_; first | refine vs_vm [(4, none)] c1 ?_ | refine vs_vm [(4, none)] c2 ?_ | refine vs_vm [(4, none)] c3 ?_ | refine vs_vc (hc := vc_of Tryz.func38 rfl Tryz.ntmps38 Tryz.results38 fun _ => ?_) | refine vs_vc (hc := vc_of Tryz.func79 rfl Tryz.ntmps79 Tryz.results79 fun _ => ?_) | refine vs_eqpn ?_ | refine vs_nepnT ?_ | refine vs_nepnF ?_ | (refine vq_l (cneed_ok 110) ?_; first | refine vs_call (cneed_ok 110) ?_ | refine vs_pan (cneed_no 110) ?_ | (refine vs_cifp (cneed_if _ 110) ?_ ?_ <;> intro _ <;> (try (exfalso; omega))) | (refine vs_cif (cneed_if _ 110) ?_ ?_ <;> intro _)) | refine cz (ci) ?_ | (refine vq_l (cneed_ok 290) ?_; first | refine vs_call (cneed_ok 290) ?_ | refine vs_pan (cneed_no 290) ?_ | (refine vs_cifp (cneed_if _ 290) ?_ ?_ <;> intro _ <;> (try (exfalso; omega))) | (refine vs_cif (cneed_if _ 290) ?_ ?_ <;> intro _))) | refine nzo ?_ | refine nc ?_ ?_ | (with_reducible intro _ <;> (try (exfalso; omega))) | refine nnil ?_ | (refine nd ?_ ?_ <;> intro hg <;> first | exact xo hg | rw [hg]) | refine vdf_of Tryz.func97 rfl Tryz.ntmps97 Tryz.results97 ?_)
      all_goals first | (simp only [leR, Idd.zero]; infer_instance) | trace_state
    | true =>
      rw [show takeIdE B0 = (⟨n1, n2, n3⟩, 17, 0) by simp only [takeIdE, hI]; rw [if_pos hB]]
      rw [hB] at ci
      simp only [if_true] at ci
      repeat' (first | refine vw_drawkx (id := 10) [2] ?_ | refine nz1 ?_ | (refine vid ?_; first | refine vs_vm [(4, none)] c1 ?_ | refine vs_vm [(4, none)] c2 ?_ | refine vs_vm [(4, none)] c3 ?_ | refine vs_vc (hc := vc_of Tryz.func38 rfl Tryz.ntmps38 Tryz.results38 fun _ => ?_) | refine vs_vc (hc := vc_of Tryz.func79 rfl Tryz.ntmps79 Tryz.results79 fun _ => ?_) | refine vs_eqpn ?_ | refine vs_nepnT ?_ | refine vs_nepnF ?_ | (refine vq_l (cneed_ok 110) ?_; first | refine vs_call (cneed_ok 110) ?_ | refine vs_pan (cneed_no 110) ?_ | (refine vs_cifp (cneed_if _ 110) ?_ ?_ <;> intro _ <;> (try (exfalso; omega))) | (refine vs_cif (cneed_if _ 110) ?_ ?_ <;> intro _)) | refine cz (ci) ?_ | refine cz (c9) ?_ | (refine vq_l (cneed_ok 290) ?_; first | refine vs_call (cneed_ok 290) ?_ | refine vs_pan (cneed_no 290) ?_ | (refine vs_cifp (cneed_if _ 290) ?_ ?_ <;> intro _ <;> (try (exfalso; omega))) | (refine vs_cif (cneed_if _ 290) ?_ ?_ <;> intro _)) | refine vs_vc (hc := vc_of Tryz.func77 rfl Tryz.ntmps77 Tryz.results77 fun _ => ?_) | refine vs_eqpn ?_ | refine vs_nepn ?_) | refine nzo ?_ | refine nc ?_ ?_ | (with_reducible intro _ <;> (try (exfalso; omega))) | refine nnil ?_ | (refine nd ?_ ?_ <;> intro hg <;> first | exact xo hg | rw [hg]) | refine vdf_of Tryz.func97 rfl Tryz.ntmps97 Tryz.results97 ?_)
      all_goals (rw [hl9]; exact de_refl _)
  · rw [show takeIdE B0 = (.zero, 0, 110) by simp only [takeIdE, rdId]; rw [if_neg h17]]
    have hn := num1_lt (B0.drop 8)
    by_cases h1 : 8 ≤ B0.length
    · have c1 := rd8 B0 h1
      by_cases h2 : 9 ≤ B0.length
      · have c2 := rd19 B0 h2
        have c3 := rd8n (B0.drop 9) (by simp; omega)
        generalize numN (B0.take 8) = n1 at *
        generalize numN ((B0.drop 8).take 1) = n2 at *
        repeat' (first | refine nz1 ?_ | (refine vid ?_; first | refine vs_vm [(4, none)] c1 ?_ | refine vs_vm [(4, none)] c2 ?_ | refine vs_vm [(4, none)] c3 ?_ | refine vs_vc (hc := vc_of Tryz.func38 rfl Tryz.ntmps38 Tryz.results38 fun _ => ?_) | refine vs_vc (hc := vc_of Tryz.func79 rfl Tryz.ntmps79 Tryz.results79 fun _ => ?_) | refine vs_eqpn ?_ | refine vs_nepnT ?_ | refine vs_nepnF ?_ | (refine vq_l (cneed_ok 110) ?_; first | refine vs_call (cneed_ok 110) ?_ | refine vs_pan (cneed_no 110) ?_ | (refine vs_cifp (cneed_if _ 110) ?_ ?_ <;> intro _ <;> (try (exfalso; omega))) | (refine vs_cif (cneed_if _ 110) ?_ ?_ <;> intro _))) | refine nzo ?_ | refine nc ?_ ?_ | (with_reducible intro _ <;> (try (exfalso; omega))) | refine nnil ?_ | (refine nd ?_ ?_ <;> intro hg <;> first | exact xo hg | rw [hg]) | refine vdf_of Tryz.func97 rfl Tryz.ntmps97 Tryz.results97 ?_)
        all_goals first | (simp only [leR, Idd.zero]; infer_instance) | trace_state
      · have c2 := rd19n B0 h2
        generalize numN (B0.take 8) = n1 at *
        repeat' (first | refine nz1 ?_ | (refine vid ?_; first | refine vs_vm [(4, none)] c1 ?_ | refine vs_vm [(4, none)] c2 ?_ | refine vs_vc (hc := vc_of Tryz.func38 rfl Tryz.ntmps38 Tryz.results38 fun _ => ?_) | refine vs_vc (hc := vc_of Tryz.func79 rfl Tryz.ntmps79 Tryz.results79 fun _ => ?_) | refine vs_eqpn ?_ | refine vs_nepnT ?_ | refine vs_nepnF ?_ | (refine vq_l (cneed_ok 110) ?_; first | refine vs_call (cneed_ok 110) ?_ | refine vs_pan (cneed_no 110) ?_ | (refine vs_cifp (cneed_if _ 110) ?_ ?_ <;> intro _ <;> (try (exfalso; omega))) | (refine vs_cif (cneed_if _ 110) ?_ ?_ <;> intro _))) | refine nzo ?_ | refine nc ?_ ?_ | (with_reducible intro _ <;> (try (exfalso; omega))) | refine nnil ?_ | (refine nd ?_ ?_ <;> intro hg <;> first | exact xo hg | rw [hg]) | refine vdf_of Tryz.func97 rfl Tryz.ntmps97 Tryz.results97 ?_)
        all_goals first | (simp only [leR, Idd.zero]; infer_instance) | trace_state
    · have c1 := rd8n B0 h1
      repeat' (first | refine nz1 ?_ | (refine vid ?_; first | refine vs_vm [(4, none)] c1 ?_ | refine vs_vc (hc := vc_of Tryz.func38 rfl Tryz.ntmps38 Tryz.results38 fun _ => ?_) | refine vs_vc (hc := vc_of Tryz.func79 rfl Tryz.ntmps79 Tryz.results79 fun _ => ?_) | refine vs_eqpn ?_ | refine vs_nepnT ?_ | refine vs_nepnF ?_ | (refine vq_l (cneed_ok 110) ?_; first | refine vs_call (cneed_ok 110) ?_ | refine vs_pan (cneed_no 110) ?_ | (refine vs_cifp (cneed_if _ 110) ?_ ?_ <;> intro _ <;> (try (exfalso; omega))) | (refine vs_cif (cneed_if _ 110) ?_ ?_ <;> intro _))) | refine nzo ?_ | refine nc ?_ ?_ | (with_reducible intro _ <;> (try (exfalso; omega))) | refine nnil ?_ | (refine nd ?_ ?_ <;> intro hg <;> first | exact xo hg | rw [hg]) | refine vdf_of Tryz.func97 rfl Tryz.ntmps97 Tryz.results97 ?_)
      all_goals first | (simp only [leR, Idd.zero]; infer_instance) | trace_state
end Go.Proofs.YtnjaohdadaifhaaGreat

namespace Go.Proofs.YtnjaohdadaifhaaGreat
set_option maxRecDepth 20000
open Go.RowKit
set_option maxRecDepth 10000
set_option maxHeartbeats 4000000
theorem rright12_v (o : Opp) (hl : o.px.length ≤ 1000000) : VP Tryz.prog 26 [.agg (oD o)] (· = .ret (.lit (.bool (opB o)))) := by
  have c1 := rright11_v o.id
  have c2 := rplain_v o
  have c3 := rsame12_v (plainO o) o
  have c4 := rright09_v o hl
  have c5 := rright11_v o.tg
  have c6 := rless_v o.tg o.id
  simp only [opB, atB]
  generalize idB o.id = r1 at *
  generalize decide (plainO o = o) = r3 at *
  generalize stB o = r4 at *
  generalize idB o.tg = r5 at *
  generalize idLt o.tg o.id = r6 at *
  generalize plainO o = q at *
  simp only [oD, oDf, idD] at *
  refine vp_of Tryz.func26 rfl Tryz.ntmps26 rfl Tryz.results26 fun B => ?_
  repeat' (first | refine nz1 ?_ | (refine vid ?_; first | refine cz (c1) ?_ | refine cz (c2) ?_ | refine cz (c3) ?_ | refine cz (c4) ?_ | refine cz (c5) ?_ | refine cz (c6) ?_) | refine nzo ?_ | refine nc ?_ ?_ | (with_reducible intro _ <;> (try (exfalso; omega))) | refine nnil ?_ | (refine nd ?_ ?_ <;> intro hg <;> first | exact xo hg | rw [hg]))
  all_goals (try (show R.ret _ = R.ret _; clear c1 c2 c3 c4 c5 c6; simp_all; fail_if_success (focus skip)))
  all_goals (try (show R.ret _ = R.ret _; clear c1 c2 c3 c4 c5 c6; simp_all; omega))
  have hl4 : ([cellsD (i64D o.x), cellsD (i64D o.y), cellsD (i64D o.x2), cellsD (i64D o.y2)] : List (List D)).length = 4 := rfl
  refine vw_rounds 5 ?_
  repeat' (first | refine nz1 ?_ | (refine vid ?_; first | refine cz (c4) ?_ | refine cz (c5) ?_ | refine cz (c6) ?_) | refine nzo ?_ | refine nc ?_ ?_ | (with_reducible intro _ <;> (try (exfalso; omega))) | refine nnil ?_ | (refine nd ?_ ?_ <;> intro hg <;> first | exact xo hg | rw [hg]))
  all_goals (try (show R.ret _ = R.ret _; clear c1 c2 c3 c4 c5 c6; simp_all; fail_if_success (focus skip)))
  all_goals (try (show R.ret _ = R.ret _; clear c1 c2 c3 c4 c5 c6; simp_all; omega))
end Go.Proofs.YtnjaohdadaifhaaGreat
