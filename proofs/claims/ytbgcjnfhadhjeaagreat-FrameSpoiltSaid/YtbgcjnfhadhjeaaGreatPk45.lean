/- Walks by data and names, part 45: Layer 19, by V: TakeOps. The program's frames, by V: parts that are read. -/
import Derived.Test.YtbgcjnfhadhjeaaGreatPk44
import Derived.Test.YtbgcjnfhadhjeaaGreatPk40
import Derived.Test.YtbgcjnfhadhjeaaGreatPk38
namespace Go.Proofs.YtbgcjnfhadhjeaaGreat
set_option maxRecDepth 20000
open Go.RowKit
set_option maxRecDepth 10000
set_option maxHeartbeats 4000000
theorem Sq : VP Tryz.prog 140 [CV []] (· = .ret (.tup [.sl false true ([].map oM), Ar 0, Ar 110])) := by
 have hb : ([] : List UInt8).length ≤ 1000000 := by simp
 have hbl := AA []
 have hmin : min ((AH []).length : Int) 1048576 = ((AH []).length : Int) := by omega
 have hcut : Fv none (some ((AH []).length : Int)) (AH []) = AH [] := by rw [hbl, QK, List.take_of_length_le (Nat.le_refl _)]
 have cl := I7 [] (by omega)
 refine VP.le ?_
 refine Am fun B => ?_
 repeat' (first | refine Al ?_ | refine Ak ?_ | refine nc ?_ ?_ | (with_reducible intro _ <;> (try (exfalso; omega))) | refine Ad ?_ | (refine nd ?_ ?_ <;> intro hg <;> first | exact xo hg | rw [hg]))
 refine Ae 183 fun _ => ?_
 refine AC ?_
 repeat' (first | refine Al ?_ | ((fail_if_success (with_reducible refine AC ?_)); refine Ak ?_) | refine nc ?_ ?_ | (with_reducible intro _ <;> (try (exfalso; omega))) | refine Ad ?_ | (refine nd ?_ ?_ <;> intro hg <;> first | exact xo hg | rw [hg]))
 refine AC ?_
 repeat' (first | rw [hmin] | refine Al ?_ | ((fail_if_success (with_reducible refine AC ?_)); refine Ak ?_) | refine nc ?_ ?_ | (with_reducible intro _ <;> (try (exfalso; omega))) | refine Ad ?_ | (refine nd ?_ ?_ <;> intro hg <;> first | exact xo hg | rw [hg]))
 refine AC ?_
 repeat' (first | refine Al ?_ | ((fail_if_success (with_reducible refine AC ?_)); refine Ak ?_) | refine nc ?_ ?_ | (with_reducible intro _ <;> (try (exfalso; omega))) | refine Ad ?_ | (refine nd ?_ ?_ <;> intro hg <;> first | exact xo hg | rw [hg]))
 refine Nh 1 rfl ?_
 repeat' (first | rw [hcut] | refine Al ?_ | (refine Ay ?_; first | refine Ae 216 fun _ => ?_ | refine cz (cl) ?_ | refine Ae 217 fun _ => ?_ | refine Ae 184 fun _ => ?_ | refine Ae 185 fun _ => ?_ | refine Bs (hc := AN (fd := 247) Tryz.func212 rfl Tryz.ntmps212 Tryz.results212 fun _ => ?_)) | refine Ak ?_ | refine nc ?_ ?_ | (with_reducible intro _ <;> (try (exfalso; omega))) | refine Ad ?_ | (refine nd ?_ ?_ <;> intro hg <;> first | exact xo hg | rw [hg]) | refine AR Tryz.func247 rfl Tryz.ntmps247 Tryz.results247 ?_)
 have c1 := HY
 refine Aj [(2, none)] c1 ?_
 repeat' (first | refine Al ?_ | (refine Ay ?_; first | refine Ae 220 fun _ => ?_ | refine Aq ?_ | refine Aw ?_ | refine Ax ?_ | (refine AK (Aa 110) ?_; first | refine Ag (Aa 110) ?_ | refine An (Ai 110) ?_ | (refine Ah (Ab _ 110) ?_ ?_ <;> intro _ <;> (try (exfalso; omega))) | (refine Ao (Ab _ 110) ?_ ?_ <;> intro _))) | refine Ak ?_ | refine nc ?_ ?_ | (with_reducible intro _ <;> (try (exfalso; omega))) | refine Ad ?_ | (refine nd ?_ ?_ <;> intro hg <;> first | exact xo hg | rw [hg]) | refine AR Tryz.func247 rfl Tryz.ntmps247 Tryz.results247 ?_)
 all_goals first | (simp only [HN, List.map_nil]; infer_instance) | trace_state
theorem Sp (n : UInt8) (b : List UInt8) (hb : (n :: b).length ≤ 1000000) (hn : ¬ n.toNat ≤ 64) : VP Tryz.prog 140 [CV (n :: b)] (· = .ret (.tup [.sl false true ([].map oM), Ar 0, Ar 290])) := by
 have hn8 := n.toNat_lt
 have c1 := FY n b
 obtain ⟨B0, hB0⟩ : ∃ B0, n :: b = B0 := ⟨_, rfl⟩
 rw [hB0] at hb c1 ⊢
 have hbl := AA B0
 have hmin : min ((AH B0).length : Int) 1048576 = ((AH B0).length : Int) := by omega
 have hcut : Fv none (some ((AH B0).length : Int)) (AH B0) = AH B0 := by rw [hbl, QK, List.take_of_length_le (Nat.le_refl _)]
 have cl := I7 B0 (by omega)
 refine VP.le ?_
 refine Am fun B => ?_
 repeat' (first | refine Al ?_ | refine Ak ?_ | refine nc ?_ ?_ | (with_reducible intro _ <;> (try (exfalso; omega))) | refine Ad ?_ | (refine nd ?_ ?_ <;> intro hg <;> first | exact xo hg | rw [hg]))
 refine Ae 183 fun _ => ?_
 refine AC ?_
 repeat' (first | refine Al ?_ | ((fail_if_success (with_reducible refine AC ?_)); refine Ak ?_) | refine nc ?_ ?_ | (with_reducible intro _ <;> (try (exfalso; omega))) | refine Ad ?_ | (refine nd ?_ ?_ <;> intro hg <;> first | exact xo hg | rw [hg]))
 refine AC ?_
 repeat' (first | rw [hmin] | refine Al ?_ | ((fail_if_success (with_reducible refine AC ?_)); refine Ak ?_) | refine nc ?_ ?_ | (with_reducible intro _ <;> (try (exfalso; omega))) | refine Ad ?_ | (refine nd ?_ ?_ <;> intro hg <;> first | exact xo hg | rw [hg]))
 refine AC ?_
 repeat' (first | refine Al ?_ | ((fail_if_success (with_reducible refine AC ?_)); refine Ak ?_) | refine nc ?_ ?_ | (with_reducible intro _ <;> (try (exfalso; omega))) | refine Ad ?_ | (refine nd ?_ ?_ <;> intro hg <;> first | exact xo hg | rw [hg]))
 refine Nh 1 rfl ?_
 repeat' (first | rw [hcut] | refine Al ?_ | (refine Ay ?_; first | refine Ae 216 fun _ => ?_ | refine cz (cl) ?_ | refine Ae 217 fun _ => ?_ | refine Ae 184 fun _ => ?_ | refine Ae 185 fun _ => ?_ | refine Bs (hc := AN (fd := 247) Tryz.func212 rfl Tryz.ntmps212 Tryz.results212 fun _ => ?_)) | refine Ak ?_ | refine nc ?_ ?_ | (with_reducible intro _ <;> (try (exfalso; omega))) | refine Ad ?_ | (refine nd ?_ ?_ <;> intro hg <;> first | exact xo hg | rw [hg]) | refine AR Tryz.func247 rfl Tryz.ntmps247 Tryz.results247 ?_)
 refine Aj [(2, none)] c1 ?_
 repeat' (first | refine Al ?_ | (refine Ay ?_; first | refine Ae 220 fun _ => ?_ | refine Aq ?_ | refine Aw ?_ | refine Ax ?_ | (refine AK (Aa 110) ?_; first | refine Ag (Aa 110) ?_ | refine An (Ai 110) ?_ | (refine Ah (Ab _ 110) ?_ ?_ <;> intro _ <;> (try (exfalso; omega))) | (refine Ao (Ab _ 110) ?_ ?_ <;> intro _)) | (refine AK (Aa 290) ?_; first | refine Ag (Aa 290) ?_ | refine An (Ai 290) ?_ | (refine Ah (Ab _ 290) ?_ ?_ <;> intro _ <;> (try (exfalso; omega))) | (refine Ao (Ab _ 290) ?_ ?_ <;> intro _))) | refine Ak ?_ | refine nc ?_ ?_ | (with_reducible intro _ <;> (try (exfalso; omega))) | refine Ad ?_ | (refine nd ?_ ?_ <;> intro hg <;> first | exact xo hg | rw [hg]) | refine AR Tryz.func247 rfl Tryz.ntmps247 Tryz.results247 ?_)
 all_goals first | (simp only [HN, List.map_nil]; infer_instance) | trace_state
theorem So (n : UInt8) (b : List UInt8) (hb : (n :: b).length ≤ 1000000) (hn : n.toNat ≤ 64) : VP Tryz.prog 140 [CV (n :: b)] (· = .ret (.tup [.sl false true ((CQ (n :: b)).1.map oM), Ar (CQ (n :: b)).2.1, Ar (CQ (n :: b)).2.2])) := by
 have hn8 := n.toNat_lt
 have c1 := FY n b
 obtain ⟨res, hE⟩ : ∃ E, CQ (n :: b) = E := ⟨_, rfl⟩
 rw [hE]
 simp only [CQ, GG] at hE
 rw [if_pos hn] at hE
 obtain ⟨B0, hB0⟩ : ∃ B0, n :: b = B0 := ⟨_, rfl⟩
 rw [hB0] at hb c1 ⊢
 have hbl := AA B0
 have hmin : min ((AH B0).length : Int) 1048576 = ((AH B0).length : Int) := by omega
 have hcut : Fv none (some ((AH B0).length : Int)) (AH B0) = AH B0 := by rw [hbl, QK, List.take_of_length_le (Nat.le_refl _)]
 have cl := I7 B0 (by omega)
 refine VP.le ?_
 refine Am fun B => ?_
 repeat' (first | refine Al ?_ | refine Ak ?_ | refine nc ?_ ?_ | (with_reducible intro _ <;> (try (exfalso; omega))) | refine Ad ?_ | (refine nd ?_ ?_ <;> intro hg <;> first | exact xo hg | rw [hg]))
 refine Ae 183 fun _ => ?_
 refine AC ?_
 repeat' (first | refine Al ?_ | ((fail_if_success (with_reducible refine AC ?_)); refine Ak ?_) | refine nc ?_ ?_ | (with_reducible intro _ <;> (try (exfalso; omega))) | refine Ad ?_ | (refine nd ?_ ?_ <;> intro hg <;> first | exact xo hg | rw [hg]))
 refine AC ?_
 repeat' (first | rw [hmin] | refine Al ?_ | ((fail_if_success (with_reducible refine AC ?_)); refine Ak ?_) | refine nc ?_ ?_ | (with_reducible intro _ <;> (try (exfalso; omega))) | refine Ad ?_ | (refine nd ?_ ?_ <;> intro hg <;> first | exact xo hg | rw [hg]))
 refine AC ?_
 repeat' (first | refine Al ?_ | ((fail_if_success (with_reducible refine AC ?_)); refine Ak ?_) | refine nc ?_ ?_ | (with_reducible intro _ <;> (try (exfalso; omega))) | refine Ad ?_ | (refine nd ?_ ?_ <;> intro hg <;> first | exact xo hg | rw [hg]))
 refine Nh 1 rfl ?_
 repeat' (first | rw [hcut] | refine Al ?_ | (refine Ay ?_; first | refine Ae 216 fun _ => ?_ | refine cz (cl) ?_ | refine Ae 217 fun _ => ?_ | refine Ae 184 fun _ => ?_ | refine Ae 185 fun _ => ?_ | refine Bs (hc := AN (fd := 247) Tryz.func212 rfl Tryz.ntmps212 Tryz.results212 fun _ => ?_)) | refine Ak ?_ | refine nc ?_ ?_ | (with_reducible intro _ <;> (try (exfalso; omega))) | refine Ad ?_ | (refine nd ?_ ?_ <;> intro hg <;> first | exact xo hg | rw [hg]) | refine AR Tryz.func247 rfl Tryz.ntmps247 Tryz.results247 ?_)
 refine Aj [(2, none)] c1 ?_
 repeat' (first | refine Al ?_ | (refine Ay ?_; first | refine Ae 220 fun _ => ?_ | refine Aq ?_ | refine Aw ?_ | refine Ax ?_ | (refine AK (Aa 110) ?_; first | refine Ag (Aa 110) ?_ | refine An (Ai 110) ?_ | (refine Ah (Ab _ 110) ?_ ?_ <;> intro _ <;> (try (exfalso; omega))) | (refine Ao (Ab _ 110) ?_ ?_ <;> intro _)) | (refine AK (Aa 290) ?_; first | refine Ag (Aa 290) ?_ | refine An (Ai 290) ?_ | (refine Ah (Ab _ 290) ?_ ?_ <;> intro _ <;> (try (exfalso; omega))) | (refine Ao (Ab _ 290) ?_ ?_ <;> intro _)) | refine Ae 187 fun _ => ?_ | refine Ae 186 fun _ => ?_ | refine Ae 221 fun _ => ?_) | refine Ak ?_ | refine nc ?_ ?_ | (with_reducible intro _ <;> (try (exfalso; omega))) | refine Ad ?_ | (refine nd ?_ ?_ <;> intro hg <;> first | exact xo hg | rw [hg]) | refine AR Tryz.func247 rfl Tryz.ntmps247 Tryz.results247 ?_)
 refine GS fun R1 T1 hOk1 => ?_
 refine Cm fun M2 => ?_
 repeat' (first | refine Al ?_ | refine Ak ?_ | refine nc ?_ ?_ | (with_reducible intro _ <;> (try (exfalso; omega))) | refine Ad ?_ | (refine nd ?_ ?_ <;> intro hg <;> first | exact xo hg | rw [hg]))
 refine Wz 9 0 71 19 rfl ?_
 refine BT (fun p : List Bb × List UInt8 => ⟨[(5, I .i64 p.1.length), (4, .d (Ar n.toNat)), (0, .yl 10), (1, .ptr 8 0), (2, .ptr 7 0)],
  [.y 10 (some R1) T1 [(13, .yl 10), (2, .ptr 9 0)], .c 9 0 [.row 11 0], .c 8 0 [.d (Ar n.toNat)], .c 7 0 [.ptr 6 0], .c 2 0 (EX p.2), .c 6 0 (MF (.ptr 2 0) BW), .c 5 0 [.d (Ar 0)], .c 4 0 [.d BF], .c 3 0 [.ptr 2 0],
   .r false true 1 0 5 1 (AH B0), .c 0 0 [.fn (.func 184) [] []], .r true true 11 0 71 19 (p.1.map oM)], 12⟩)
  (fun p => p.1.length ≤ n.toNat ∧ p.2.length ≤ B0.length ∧ Fg n.toNat b = match Fg (n.toNat - p.1.length) p.2 with | .error e => .error e | .ok (l, t) => .ok (p.1 ++ l, t))
  (fun p => n.toNat - p.1.length) ([], b) (CO [(11, _, _)]) ⟨Nat.zero_le _, by rw [← hB0]; simp, by simp only [List.length_nil, Nat.sub_zero, List.nil_append]; cases Fg n.toNat b <;> rfl⟩ fun p hp => ?_
 obtain ⟨done, rest⟩ := p
 obtain ⟨hp1, hp2, hp3⟩ := hp
 simp only at hp1 hp2 hp3
 dsimp only
 have hdl : (done.map oM).length = done.length := List.length_map _
 rcases Nat.lt_or_ge done.length n.toNat with h | h
 ·rw [show n.toNat - done.length = (n.toNat - done.length - 1) + 1 by omega, Fg] at hp3
  cases hr : Ev rest with
  | error e =>
   rw [hr] at hp3
   simp only at hp3
   rw [hp3] at hE
   simp only at hE
   subst hE
   have ce := ZR hr
   rcases Uw hr with rfl | rfl
   all_goals
    repeat' (first | refine Al ?_ | (refine Ay ?_; first | refine Aj [(6, none), (2, none)] ce ?_) | refine Ak ?_ | refine nc ?_ ?_ | (with_reducible intro _ <;> (try (exfalso; omega))) | refine Ad ?_ | (refine nd ?_ ?_ <;> intro hg <;> first | exact xo hg | rw [hg]) | refine AR Tryz.func247 rfl Tryz.ntmps247 Tryz.results247 ?_)
    all_goals first | (simp only [HN, List.map_nil]; infer_instance) | trace_state
  | ok q =>
   obtain ⟨o, t'⟩ := q
   rw [hr] at hp3
   simp only at hp3
   have ht' := congrArg List.length (YT hr).2
   rw [List.length_append] at ht'
   have co := ZQ hr
   simp only [oM, De] at co
   repeat' (first | refine Al ?_ | (refine Ay ?_; first | refine Aj [(6, none), (2, none)] co ?_ | refine AQ (by assumption) fun _ _ => ?_) | refine Ak ?_ | refine nc ?_ ?_ | (with_reducible intro _ <;> (try (exfalso; omega))) | refine Ad ?_ | (refine nd ?_ ?_ <;> intro hg <;> first | exact xo hg | rw [hg]) | refine AR Tryz.func247 rfl Tryz.ntmps247 Tryz.results247 ?_)
   refine AU (done ++ [o], t') ⟨by simp; omega, by simp only; omega, ?_⟩ (by simp; omega) ?_
   ·rw [hp3]
    simp only [List.length_append, List.length_cons, List.length_nil]
    rw [show n.toNat - (done.length + (0 + 1)) = n.toNat - done.length - 1 by omega]
    cases Fg (n.toNat - done.length - 1) t' with
    | error e => rfl
    | ok z => obtain ⟨l, t⟩ := z; simp
   ·dsimp only
    rw [show (((done ++ [o]).length : Nat) : Int) = (done.length : Int) + 1 by simp]
    simp only [List.map_append, List.map_cons, List.map_nil]
    exact (CO [(11, _, _)])
 ·rw [show n.toNat - done.length = 0 by omega, Fg] at hp3
  simp only [List.append_nil] at hp3
  rw [hp3] at hE
  simp only at hE
  subst hE
  have c9 := Vy rest 0
  have htl : (AH rest).length ≤ (AH B0).length := by rw [AA, AA]; omega
  repeat' (first | refine Al ?_ | (refine Ay ?_; first | refine cz (c9) ?_ | refine Ae 218 fun _ => ?_ | refine Aq ?_ | refine Bd ?_) | refine Ak ?_ | refine nc ?_ ?_ | (with_reducible intro _ <;> (try (exfalso; omega))) | refine Ad ?_ | (refine nd ?_ ?_ <;> intro hg <;> first | exact xo hg | rw [hg]) | refine AR Tryz.func247 rfl Tryz.ntmps247 Tryz.results247 ?_)
  all_goals (rw [hB0, AA, AA]; exact AP _)
theorem MH (B0 : List UInt8) (hb : B0.length ≤ 1000000) : VP Tryz.prog 140 [CV B0] (· = .ret (.tup [.sl false true ((CQ B0).1.map oM), Ar (CQ B0).2.1, Ar (CQ B0).2.2])) := by
 match B0 with
 | [] => exact Sq
 | n :: b =>
  by_cases hn : n.toNat ≤ 64
  ·exact So n b hb hn
  ·have := Sp n b hb hn
   rw [show CQ (n :: b) = ([], 0, 290) by simp only [CQ, GG]; rw [if_neg hn]]
   exact this

set_option maxRecDepth 20000
set_option maxRecDepth 10000
theorem Sv (n : Fl) (hn : n = .ep ∨ n = .sn ∨ n = .fl ∨ n = .fq ∨ n = .pr ∨ n = .tl) (b o : D) (x y : Fr) (t u : List UInt8) (ht : t.length ≤ 1000000) (h : BE x n t = some (y, u)) : C6 Tryz.prog 173 1 (.ptr 0 0 :: (FP n).map .d) [.c 0 0 (A2 b o x t)] 1 (.ret (.tup [])) [.c 0 0 (A2 b o y u)] 1 := by
 have c := O3 b o x t 8 (by omega)
 rcases hn with rfl | rfl | rfl | rfl | rfl | rfl
 all_goals
  simp only [BE, MQ] at h
  split at h
  ·rename_i hl
   cases h
   have c1 := c hl ht
   simp only [A2, Db, List.map_cons, List.map_nil, List.cons_append, List.nil_append, FP, Oh, Int.cast_ofNat_Int] at c1 ⊢
   refine AJ fun B M => ?_
   repeat' (first | refine DU (by kernel_rfl) ?_ | refine Al ?_ | refine Ak ?_ | refine nc ?_ ?_ | (with_reducible intro _ <;> (try (exfalso; omega))) | refine Ad ?_ | (refine nd ?_ ?_ <;> intro hg <;> first | exact xo hg | rw [hg]))
   repeat' (first | refine Ba ?_ | refine DC ?_ | refine Cn ?_ | refine Bt ?_ | refine Ct ?_)
   refine KN (v := ?_) (st' := ?_) (nb' := ?_) (fun tmX => ?_) ?_ ?_
   rotate_left 3
   ·repeat' (first | refine Al ?_ | (refine Ay ?_; first | refine Ae 126 fun _ => ?_ | refine Ae 129 fun _ => ?_ | refine Ae 143 fun _ => ?_ | refine Ae 144 fun _ => ?_ | refine Ae 145 fun _ => ?_ | refine Ae 146 fun _ => ?_) | refine Ak ?_ | refine nc ?_ ?_ | (with_reducible intro _ <;> (try (exfalso; omega))) | refine Ad ?_ | (refine nd ?_ ?_ <;> intro hg <;> first | exact xo hg | rw [hg]))
    exact CZ
   ·repeat' (first | refine Ba ?_ | refine DC ?_ | refine Cn ?_ | refine Bt ?_ | refine Ct ?_)
    refine KN (v := ?_) (st' := ?_) (nb' := ?_) (fun tmX => ?_) ?_ ?_
    rotate_left 3
    ·repeat' (first | refine Al ?_ | (refine Ay ?_; first | refine Aj [(0, none)] c1 ?_) | refine Ak ?_ | refine nc ?_ ?_ | (with_reducible intro _ <;> (try (exfalso; omega))) | refine Ad ?_ | (refine nd ?_ ?_ <;> intro hg <;> first | exact xo hg | rw [hg]))
     exact CZ
    ·repeat' (first | refine Ba ?_ | refine DC ?_ | refine Cn ?_ | refine Bt ?_ | refine Ct ?_)
     repeat' (first | refine Al ?_ | refine Ak ?_ | refine nc ?_ ?_ | (with_reducible intro _ <;> (try (exfalso; omega))) | refine Ad ?_ | (refine nd ?_ ?_ <;> intro hg <;> first | exact xo hg | rw [hg]))
     exact A4 []
    ·repeat' (first | exact trivial | exact rfl | refine ⟨?_, ?_⟩)
   ·repeat' (first | exact trivial | exact rfl | refine ⟨?_, ?_⟩)
  ·cases h
theorem MO (n : Fl) (hn : n = .ep ∨ n = .sn ∨ n = .fl ∨ n = .fq ∨ n = .pr ∨ n = .tl) (b o : D) (x : Fr) (t : List UInt8) (_ : t.length ≤ 1000000) (h : BE x n t = none) : C6 Tryz.prog 173 1 (.ptr 0 0 :: (FP n).map .d) [.c 0 0 (A2 b o x t)] 1 (.panic (.d DA)) [.c 0 0 (A2 b o x t)] 1 := by
 have c := NQ b o x t 8
 rcases hn with rfl | rfl | rfl | rfl | rfl | rfl
 all_goals
  simp only [BE, MQ] at h
  split at h
  ·cases h
  ·rename_i hl
   have c1 := c hl
   simp only [A2, Db, List.map_cons, List.map_nil, List.cons_append, List.nil_append, FP, Oh, Int.cast_ofNat_Int] at c1 ⊢
   refine AJ fun B M => ?_
   repeat' (first | refine Hx 6 (by kernel_rfl) ?_ | refine Al ?_ | refine Ak ?_ | refine nc ?_ ?_ | (with_reducible intro _ <;> (try (exfalso; omega))) | refine Ad ?_ | (refine nd ?_ ?_ <;> intro hg <;> first | exact xo hg | rw [hg]))
   repeat' (first | refine Ba ?_ | refine DC ?_ | refine Cn ?_ | refine Bt ?_ | refine Ct ?_)
   refine KN (v := ?_) (st' := ?_) (nb' := ?_) (fun tmX => ?_) ?_ ?_
   rotate_left 3
   ·repeat' (first | refine Al ?_ | (refine Ay ?_; first | refine Ae 126 fun _ => ?_ | refine Ae 129 fun _ => ?_ | refine Ae 143 fun _ => ?_ | refine Ae 144 fun _ => ?_ | refine Ae 145 fun _ => ?_ | refine Ae 146 fun _ => ?_) | refine Ak ?_ | refine nc ?_ ?_ | (with_reducible intro _ <;> (try (exfalso; omega))) | refine Ad ?_ | (refine nd ?_ ?_ <;> intro hg <;> first | exact xo hg | rw [hg]))
    exact CZ
   ·repeat' (first | refine Ba ?_ | refine DC ?_ | refine Cn ?_ | refine Bt ?_ | refine Ct ?_)
    refine Nl (.d (AW 0)) (fun tmX => ?_) ?_
    ·repeat' (first | refine Al ?_ | (refine Ay ?_; first | refine Aj [(0, none)] c1 ?_) | refine Ak ?_ | refine nc ?_ ?_ | (with_reducible intro _ <;> (try (exfalso; omega))) | refine Ad ?_ | (refine nd ?_ ?_ <;> intro hg <;> first | exact xo hg | rw [hg]))
     refine Kx ?_
     repeat' (first | refine Al ?_ | refine Ak ?_ | refine nc ?_ ?_ | (with_reducible intro _ <;> (try (exfalso; omega))) | refine Ad ?_ | (refine nd ?_ ?_ <;> intro hg <;> first | exact xo hg | rw [hg]))
     exact Az []
    ·repeat' (first | exact IA | refine Ba ?_ | refine DC ?_ | refine Cn ?_ | refine Bt ?_ | refine Ct ?_)
   ·repeat' (first | exact trivial | exact rfl | refine ⟨?_, ?_⟩)
theorem Zx (n : Fl) (hn : n = .si ∨ n = .ix ∨ n = .my) (b o : D) (x y : Fr) (t u : List UInt8) (ht : t.length ≤ 1000000) (h : BE x n t = some (y, u)) : C6 Tryz.prog 175 1 (.ptr 0 0 :: (FP n).map .d) [.c 0 0 (A2 b o x t)] 1 (.ret (.tup [])) [.c 0 0 (A2 b o y u)] 1 := by
 have c := O3 b o x t 1 (by omega)
 rcases hn with rfl | rfl | rfl
 all_goals
  simp only [BE, MQ] at h
  split at h
  ·rename_i hl
   cases h
   have c1 := c hl ht
   have hm := IP (t.take 1)
   rw [show (t.take 1).length = 1 by rw [List.length_take]; omega, Nat.pow_one] at hm
   simp only [A2, Db, List.map_cons, List.map_nil, List.cons_append, List.nil_append, FP, Oh, Int.cast_ofNat_Int] at c1 ⊢
   refine AJ fun B M => ?_
   repeat' (first | refine DU (by kernel_rfl) ?_ | refine Al ?_ | refine Ak ?_ | refine nc ?_ ?_ | (with_reducible intro _ <;> (try (exfalso; omega))) | refine Ad ?_ | (refine nd ?_ ?_ <;> intro hg <;> first | exact xo hg | rw [hg]))
   repeat' (first | refine Ba ?_ | refine DC ?_ | refine Cn ?_ | refine Bt ?_ | refine Ct ?_)
   refine KN (v := ?_) (st' := ?_) (nb' := ?_) (fun tmX => ?_) ?_ ?_
   rotate_left 3
   ·repeat' (first | refine Al ?_ | (refine Ay ?_; first | refine Ae 128 fun _ => ?_ | refine Ae 130 fun _ => ?_ | refine Ae 131 fun _ => ?_) | refine Ak ?_ | refine nc ?_ ?_ | (with_reducible intro _ <;> (try (exfalso; omega))) | refine Ad ?_ | (refine nd ?_ ?_ <;> intro hg <;> first | exact xo hg | rw [hg]))
    exact CZ
   ·repeat' (first | refine Ba ?_ | refine DC ?_ | refine Cn ?_ | refine Bt ?_ | refine Ct ?_)
    refine KN (v := ?_) (st' := ?_) (nb' := ?_) (fun tmX => ?_) ?_ ?_
    rotate_left 3
    ·repeat' (first | refine Al ?_ | (refine Ay ?_; first | refine Aj [(0, none)] c1 ?_) | refine Ak ?_ | refine nc ?_ ?_ | (with_reducible intro _ <;> (try (exfalso; omega))) | refine Ad ?_ | (refine nd ?_ ?_ <;> intro hg <;> first | exact xo hg | rw [hg]))
     exact CZ
    ·repeat' (first | refine Ba ?_ | refine DC ?_ | refine Cn ?_ | refine Bt ?_ | refine Ct ?_)
     repeat' (first | refine Al ?_ | refine Ak ?_ | refine nc ?_ ?_ | (with_reducible intro _ <;> (try (exfalso; omega))) | refine Ad ?_ | (refine nd ?_ ?_ <;> intro hg <;> first | exact xo hg | rw [hg]))
     exact A4 []
    ·repeat' (first | exact trivial | exact rfl | refine ⟨?_, ?_⟩)
   ·repeat' (first | exact trivial | exact rfl | refine ⟨?_, ?_⟩)
  ·cases h
theorem Ur (n : Fl) (hn : n = .si ∨ n = .ix ∨ n = .my) (b o : D) (x : Fr) (t : List UInt8) (_ : t.length ≤ 1000000) (h : BE x n t = none) : C6 Tryz.prog 175 1 (.ptr 0 0 :: (FP n).map .d) [.c 0 0 (A2 b o x t)] 1 (.panic (.d DA)) [.c 0 0 (A2 b o x t)] 1 := by
 have c := NQ b o x t 1
 rcases hn with rfl | rfl | rfl
 all_goals
  simp only [BE, MQ] at h
  split at h
  ·cases h
  ·rename_i hl
   have c1 := c hl
   simp only [A2, Db, List.map_cons, List.map_nil, List.cons_append, List.nil_append, FP, Oh, Int.cast_ofNat_Int] at c1 ⊢
   refine AJ fun B M => ?_
   repeat' (first | refine Hx 6 (by kernel_rfl) ?_ | refine Al ?_ | refine Ak ?_ | refine nc ?_ ?_ | (with_reducible intro _ <;> (try (exfalso; omega))) | refine Ad ?_ | (refine nd ?_ ?_ <;> intro hg <;> first | exact xo hg | rw [hg]))
   repeat' (first | refine Ba ?_ | refine DC ?_ | refine Cn ?_ | refine Bt ?_ | refine Ct ?_)
   refine KN (v := ?_) (st' := ?_) (nb' := ?_) (fun tmX => ?_) ?_ ?_
   rotate_left 3
   ·repeat' (first | refine Al ?_ | (refine Ay ?_; first | refine Ae 128 fun _ => ?_ | refine Ae 130 fun _ => ?_ | refine Ae 131 fun _ => ?_) | refine Ak ?_ | refine nc ?_ ?_ | (with_reducible intro _ <;> (try (exfalso; omega))) | refine Ad ?_ | (refine nd ?_ ?_ <;> intro hg <;> first | exact xo hg | rw [hg]))
    exact CZ
   ·repeat' (first | refine Ba ?_ | refine DC ?_ | refine Cn ?_ | refine Bt ?_ | refine Ct ?_)
    refine Nl (.d (AW 0)) (fun tmX => ?_) ?_
    ·repeat' (first | refine Al ?_ | (refine Ay ?_; first | refine Aj [(0, none)] c1 ?_) | refine Ak ?_ | refine nc ?_ ?_ | (with_reducible intro _ <;> (try (exfalso; omega))) | refine Ad ?_ | (refine nd ?_ ?_ <;> intro hg <;> first | exact xo hg | rw [hg]))
     refine Kx ?_
     repeat' (first | refine Al ?_ | refine Ak ?_ | refine nc ?_ ?_ | (with_reducible intro _ <;> (try (exfalso; omega))) | refine Ad ?_ | (refine nd ?_ ?_ <;> intro hg <;> first | exact xo hg | rw [hg]))
     exact Az []
    ·repeat' (first | exact IA | refine Ba ?_ | refine DC ?_ | refine Cn ?_ | refine Bt ?_ | refine Ct ?_)
   ·repeat' (first | exact trivial | exact rfl | refine ⟨?_, ?_⟩)
theorem Sm {t u : List UInt8} {v : Vc} (h : Jq t = some (v, u)) : Cv t = (v, 64, 0) ∧ u = t.drop 64 ∧ 64 ≤ t.length := by
 unfold Jq at h
 unfold Cv
 split at h
 ·cases h
 ·rename_i hl
  split at h
  ·rename_i hv
   cases h
   exact ⟨by rw [if_neg hl, if_pos hv], rfl, by omega⟩
  ·cases h
theorem Sn {t : List UInt8} (h : Jq t = none) : (Cv t).2.2 = 110 ∨ (Cv t).2.2 = 290 := by
 unfold Jq at h
 unfold Cv
 split at h
 ·rename_i hl; rw [if_pos hl]; exact .inl rfl
 ·rename_i hl
  split at h
  ·cases h
  ·rename_i hv; rw [if_neg hl, if_neg hv]; exact .inr rfl
theorem TM (b o : D) (x : Fr) (t : List UInt8) (v : Vc) (u : List UInt8) (ht : t.length ≤ 1000000) (h : Jq t = some (v, u)) : C6 Tryz.prog 191 1 [.ptr 0 0, .d (.lit (.func (.func 192) #[] #[]))] [.c 0 0 (A2 b o x t)] 1 (.ret (.d (.agg (Hz v)))) [.c 0 0 (A2 b o x u)] 1 := by
 obtain ⟨h1, rfl, h3⟩ := Sm h
 have c1 := Ra t ht
 rw [h1] at c1
 have c2 := NR b o x t 64 h3 ht
 simp only [A2, Db, List.map_cons, List.map_nil, List.cons_append, List.nil_append, Int.cast_ofNat_Int] at c2 ⊢
 simp only [Hz] at c1 ⊢
 refine AJ fun B M => ?_
 repeat' (first | refine Al ?_ | (refine Ay ?_; first | (refine AK (A1 0) ?_; first | refine Ag (A1 0) ?_ | refine An (Cq 0) ?_ | (refine Ah (A6 _ 0) ?_ ?_ <;> intro _ <;> (try (exfalso; omega))) | (refine Ao (A6 _ 0) ?_ ?_ <;> intro _)) | refine cz (c1) ?_ | refine Aj [(0, none)] c2 ?_) | refine Ak ?_ | refine nc ?_ ?_ | (with_reducible intro _ <;> (try (exfalso; omega))) | refine Ad ?_ | (refine nd ?_ ?_ <;> intro hg <;> first | exact xo hg | rw [hg]))
 all_goals first | exact A4 [] | trace_state
theorem Sk (b o : D) (x : Fr) (t : List UInt8) (ht : t.length ≤ 1000000) (h : Jq t = none) : C6 Tryz.prog 191 1 [.ptr 0 0, .d (.lit (.func (.func 192) #[] #[]))] [.c 0 0 (A2 b o x t)] 1 (.panic (.d DA)) [.c 0 0 (A2 b o x t)] 1 := by
 have c1 := Ra t ht
 have he := Sn h
 generalize Cv t = p at *
 obtain ⟨v, n, e⟩ := p
 simp only at he c1
 simp only [A2, Db, List.map_cons, List.map_nil, List.cons_append, List.nil_append]
 simp only [Hz] at c1 ⊢
 refine AJ fun B M => ?_
 repeat' (first | refine Al ?_ | (refine Ay ?_; first | (refine AK (A1 0) ?_; first | refine Ag (A1 0) ?_ | refine An (Cq 0) ?_ | (refine Ah (A6 _ 0) ?_ ?_ <;> intro _ <;> (try (exfalso; omega))) | (refine Ao (A6 _ 0) ?_ ?_ <;> intro _)) | refine cz (c1) ?_) | refine Ak ?_ | refine nc ?_ ?_ | (with_reducible intro _ <;> (try (exfalso; omega))) | refine Ad ?_ | (refine nd ?_ ?_ <;> intro hg <;> first | exact xo hg | rw [hg]))
 all_goals first | exact Az [] | trace_state
theorem Abr (n : Fl) (hn : n = .v ∨ n = .w) (b o : D) (x y : Fr) (t u : List UInt8) (ht : t.length ≤ 1000000) (h : BE x n t = some (y, u)) : C6 Tryz.prog 190 1 (.ptr 0 0 :: (FP n).map .d) [.c 0 0 (A2 b o x t)] 1 (.ret (.tup [])) [.c 0 0 (A2 b o y u)] 1 := by
 rcases hn with rfl | rfl
 all_goals
  simp only [BE] at h
  cases hr : Jq t with
  | none => rw [hr] at h; cases h
  | some p =>
   rw [hr] at h
   cases h
   have c1 := TM b o x t p.1 p.2 ht hr
   simp only [A2, Db, List.map_cons, List.map_nil, List.cons_append, List.nil_append, FP, Oh] at c1 ⊢
   refine AJ fun B M => ?_
   repeat' (first | refine DU (by kernel_rfl) ?_ | refine Al ?_ | refine Ak ?_ | refine nc ?_ ?_ | (with_reducible intro _ <;> (try (exfalso; omega))) | refine Ad ?_ | (refine nd ?_ ?_ <;> intro hg <;> first | exact xo hg | rw [hg]))
   repeat' (first | refine Ba ?_ | refine DC ?_ | refine Cn ?_ | refine Bt ?_ | refine Ct ?_)
   refine KN (v := ?_) (st' := ?_) (nb' := ?_) (fun tmX => ?_) ?_ ?_
   rotate_left 3
   ·repeat' (first | refine Al ?_ | (refine Ay ?_; first | refine Ae 142 fun _ => ?_ | refine Ae 147 fun _ => ?_) | refine Ak ?_ | refine nc ?_ ?_ | (with_reducible intro _ <;> (try (exfalso; omega))) | refine Ad ?_ | (refine nd ?_ ?_ <;> intro hg <;> first | exact xo hg | rw [hg]))
    exact CZ
   ·repeat' (first | refine Ba ?_ | refine DC ?_ | refine Cn ?_ | refine Bt ?_ | refine Ct ?_)
    refine KN (v := ?_) (st' := ?_) (nb' := ?_) (fun tmX => ?_) ?_ ?_
    rotate_left 3
    ·repeat' (first | refine Al ?_ | (refine Ay ?_; first | refine Aj [(0, none)] c1 ?_) | refine Ak ?_ | refine nc ?_ ?_ | (with_reducible intro _ <;> (try (exfalso; omega))) | refine Ad ?_ | (refine nd ?_ ?_ <;> intro hg <;> first | exact xo hg | rw [hg]))
     exact CZ
    ·repeat' (first | refine Ba ?_ | refine DC ?_ | refine Cn ?_ | refine Bt ?_ | refine Ct ?_)
     repeat' (first | refine Al ?_ | refine Ak ?_ | refine nc ?_ ?_ | (with_reducible intro _ <;> (try (exfalso; omega))) | refine Ad ?_ | (refine nd ?_ ?_ <;> intro hg <;> first | exact xo hg | rw [hg]))
     exact A4 []
    ·repeat' (first | exact trivial | exact rfl | refine ⟨?_, ?_⟩)
   ·repeat' (first | exact trivial | exact rfl | refine ⟨?_, ?_⟩)
theorem Ys (n : Fl) (hn : n = .v ∨ n = .w) (b o : D) (x : Fr) (t : List UInt8) (ht : t.length ≤ 1000000) (h : BE x n t = none) : C6 Tryz.prog 190 1 (.ptr 0 0 :: (FP n).map .d) [.c 0 0 (A2 b o x t)] 1 (.panic (.d DA)) [.c 0 0 (A2 b o x t)] 1 := by
 rcases hn with rfl | rfl
 all_goals
  simp only [BE, Option.map_eq_none_iff] at h
  ·have c1 := Sk b o x t ht h
   simp only [A2, Db, List.map_cons, List.map_nil, List.cons_append, List.nil_append, FP, Oh] at c1 ⊢
   refine AJ fun B M => ?_
   repeat' (first | refine Hx 6 (by kernel_rfl) ?_ | refine Al ?_ | refine Ak ?_ | refine nc ?_ ?_ | (with_reducible intro _ <;> (try (exfalso; omega))) | refine Ad ?_ | (refine nd ?_ ?_ <;> intro hg <;> first | exact xo hg | rw [hg]))
   repeat' (first | refine Ba ?_ | refine DC ?_ | refine Cn ?_ | refine Bt ?_ | refine Ct ?_)
   refine KN (v := ?_) (st' := ?_) (nb' := ?_) (fun tmX => ?_) ?_ ?_
   rotate_left 3
   ·repeat' (first | refine Al ?_ | (refine Ay ?_; first | refine Ae 142 fun _ => ?_ | refine Ae 147 fun _ => ?_) | refine Ak ?_ | refine nc ?_ ?_ | (with_reducible intro _ <;> (try (exfalso; omega))) | refine Ad ?_ | (refine nd ?_ ?_ <;> intro hg <;> first | exact xo hg | rw [hg]))
    exact CZ
   ·repeat' (first | refine Ba ?_ | refine DC ?_ | refine Cn ?_ | refine Bt ?_ | refine Ct ?_)
    refine Nl (.d (.agg (Hz .zero))) (fun tmX => ?_) ?_
    ·repeat' (first | refine Al ?_ | (refine Ay ?_; first | refine Aj [(0, none)] c1 ?_) | refine Ak ?_ | refine nc ?_ ?_ | (with_reducible intro _ <;> (try (exfalso; omega))) | refine Ad ?_ | (refine nd ?_ ?_ <;> intro hg <;> first | exact xo hg | rw [hg]))
     refine Kx ?_
     repeat' (first | refine Al ?_ | refine Ak ?_ | refine nc ?_ ?_ | (with_reducible intro _ <;> (try (exfalso; omega))) | refine Ad ?_ | (refine nd ?_ ?_ <;> intro hg <;> first | exact xo hg | rw [hg]))
     exact Az []
    ·repeat' (first | exact IA | refine Ba ?_ | refine DC ?_ | refine Cn ?_ | refine Bt ?_ | refine Ct ?_)
   ·repeat' (first | exact trivial | exact rfl | refine ⟨?_, ?_⟩)

end Go.Proofs.YtbgcjnfhadhjeaaGreat