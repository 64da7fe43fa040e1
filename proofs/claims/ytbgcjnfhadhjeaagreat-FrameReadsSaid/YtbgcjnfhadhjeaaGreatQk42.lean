/- Walks by data and names, part 42: Layer 19, by V: TakeOps. The program's frames, by V: parts that are read. -/
import Derived.Test.YtbgcjnfhadhjeaaGreatQk35
import Derived.Test.YtbgcjnfhadhjeaaGreatQk41
import Derived.Test.YtbgcjnfhadhjeaaGreatQk39
namespace Go.Proofs.YtbgcjnfhadhjeaaGreat
set_option maxRecDepth 20000
open Go.RowKit
set_option maxRecDepth 10000
set_option maxHeartbeats 4000000
theorem Sb : VP Tryz.prog 140 [BD []] (· = .ret (.tup [.sl false true ([].map oM), An 0, An 110])) := by
 have hb : ([] : List UInt8).length ≤ 1000000 := by simp
 have hbl := Av []
 have hmin : min ((AG []).length : Int) 1048576 = ((AG []).length : Int) := by omega
 have hcut : CP none (some ((AG []).length : Int)) (AG []) = AG [] := by rw [hbl, Pk, List.take_of_length_le (Nat.le_refl _)]
 have cl := Ji [] (by omega)
 refine VP.le ?_
 refine Al fun B => ?_
 repeat' (first | refine Ai ?_ | refine Ah ?_ | refine nc ?_ ?_ | (with_reducible intro _ <;> (try (exfalso; omega))) | refine Aa ?_ | (refine nd ?_ ?_ <;> intro hg <;> first | exact xo hg | rw [hg]))
 refine Ae 183 fun _ => ?_
 refine AS ?_
 repeat' (first | refine Ai ?_ | ((fail_if_success (with_reducible refine AS ?_)); refine Ah ?_) | refine nc ?_ ?_ | (with_reducible intro _ <;> (try (exfalso; omega))) | refine Aa ?_ | (refine nd ?_ ?_ <;> intro hg <;> first | exact xo hg | rw [hg]))
 refine AS ?_
 repeat' (first | rw [hmin] | refine Ai ?_ | ((fail_if_success (with_reducible refine AS ?_)); refine Ah ?_) | refine nc ?_ ?_ | (with_reducible intro _ <;> (try (exfalso; omega))) | refine Aa ?_ | (refine nd ?_ ?_ <;> intro hg <;> first | exact xo hg | rw [hg]))
 refine AS ?_
 repeat' (first | refine Ai ?_ | ((fail_if_success (with_reducible refine AS ?_)); refine Ah ?_) | refine nc ?_ ?_ | (with_reducible intro _ <;> (try (exfalso; omega))) | refine Aa ?_ | (refine nd ?_ ?_ <;> intro hg <;> first | exact xo hg | rw [hg]))
 refine Na 1 rfl ?_
 repeat' (first | rw [hcut] | refine Ai ?_ | (refine As ?_; first | refine Ae 216 fun _ => ?_ | refine cz (cl) ?_ | refine Ae 217 fun _ => ?_ | refine Ae 184 fun _ => ?_ | refine Ae 185 fun _ => ?_ | refine BI (hc := AN (fd := 247) Tryz.func212 rfl Tryz.ntmps212 Tryz.results212 fun _ => ?_)) | refine Ah ?_ | refine nc ?_ ?_ | (with_reducible intro _ <;> (try (exfalso; omega))) | refine Aa ?_ | (refine nd ?_ ?_ <;> intro hg <;> first | exact xo hg | rw [hg]) | refine AU Tryz.func247 rfl Tryz.ntmps247 Tryz.results247 ?_)
 have c1 := H9
 refine Am [(2, none)] c1 ?_
 repeat' (first | refine Ai ?_ | (refine As ?_; first | refine Ae 220 fun _ => ?_ | refine Ar ?_ | refine Aw ?_ | refine Ax ?_ | (refine AJ (Ab 110) ?_; first | refine Ag (Ab 110) ?_ | refine Ao (Ak 110) ?_ | (refine Aj (Ad _ 110) ?_ ?_ <;> intro _ <;> (try (exfalso; omega))) | (refine Ap (Ad _ 110) ?_ ?_ <;> intro _))) | refine Ah ?_ | refine nc ?_ ?_ | (with_reducible intro _ <;> (try (exfalso; omega))) | refine Aa ?_ | (refine nd ?_ ?_ <;> intro hg <;> first | exact xo hg | rw [hg]) | refine AU Tryz.func247 rfl Tryz.ntmps247 Tryz.results247 ?_)
 all_goals first | (simp only [Cm, List.map_nil]; infer_instance) | trace_state
theorem Sa (n : UInt8) (b : List UInt8) (hb : (n :: b).length ≤ 1000000) (hn : ¬ n.toNat ≤ 64) : VP Tryz.prog 140 [BD (n :: b)] (· = .ret (.tup [.sl false true ([].map oM), An 0, An 290])) := by
 have hn8 := n.toNat_lt
 have c1 := F7 n b
 obtain ⟨B0, hB0⟩ : ∃ B0, n :: b = B0 := ⟨_, rfl⟩
 rw [hB0] at hb c1 ⊢
 have hbl := Av B0
 have hmin : min ((AG B0).length : Int) 1048576 = ((AG B0).length : Int) := by omega
 have hcut : CP none (some ((AG B0).length : Int)) (AG B0) = AG B0 := by rw [hbl, Pk, List.take_of_length_le (Nat.le_refl _)]
 have cl := Ji B0 (by omega)
 refine VP.le ?_
 refine Al fun B => ?_
 repeat' (first | refine Ai ?_ | refine Ah ?_ | refine nc ?_ ?_ | (with_reducible intro _ <;> (try (exfalso; omega))) | refine Aa ?_ | (refine nd ?_ ?_ <;> intro hg <;> first | exact xo hg | rw [hg]))
 refine Ae 183 fun _ => ?_
 refine AS ?_
 repeat' (first | refine Ai ?_ | ((fail_if_success (with_reducible refine AS ?_)); refine Ah ?_) | refine nc ?_ ?_ | (with_reducible intro _ <;> (try (exfalso; omega))) | refine Aa ?_ | (refine nd ?_ ?_ <;> intro hg <;> first | exact xo hg | rw [hg]))
 refine AS ?_
 repeat' (first | rw [hmin] | refine Ai ?_ | ((fail_if_success (with_reducible refine AS ?_)); refine Ah ?_) | refine nc ?_ ?_ | (with_reducible intro _ <;> (try (exfalso; omega))) | refine Aa ?_ | (refine nd ?_ ?_ <;> intro hg <;> first | exact xo hg | rw [hg]))
 refine AS ?_
 repeat' (first | refine Ai ?_ | ((fail_if_success (with_reducible refine AS ?_)); refine Ah ?_) | refine nc ?_ ?_ | (with_reducible intro _ <;> (try (exfalso; omega))) | refine Aa ?_ | (refine nd ?_ ?_ <;> intro hg <;> first | exact xo hg | rw [hg]))
 refine Na 1 rfl ?_
 repeat' (first | rw [hcut] | refine Ai ?_ | (refine As ?_; first | refine Ae 216 fun _ => ?_ | refine cz (cl) ?_ | refine Ae 217 fun _ => ?_ | refine Ae 184 fun _ => ?_ | refine Ae 185 fun _ => ?_ | refine BI (hc := AN (fd := 247) Tryz.func212 rfl Tryz.ntmps212 Tryz.results212 fun _ => ?_)) | refine Ah ?_ | refine nc ?_ ?_ | (with_reducible intro _ <;> (try (exfalso; omega))) | refine Aa ?_ | (refine nd ?_ ?_ <;> intro hg <;> first | exact xo hg | rw [hg]) | refine AU Tryz.func247 rfl Tryz.ntmps247 Tryz.results247 ?_)
 refine Am [(2, none)] c1 ?_
 repeat' (first | refine Ai ?_ | (refine As ?_; first | refine Ae 220 fun _ => ?_ | refine Ar ?_ | refine Aw ?_ | refine Ax ?_ | (refine AJ (Ab 110) ?_; first | refine Ag (Ab 110) ?_ | refine Ao (Ak 110) ?_ | (refine Aj (Ad _ 110) ?_ ?_ <;> intro _ <;> (try (exfalso; omega))) | (refine Ap (Ad _ 110) ?_ ?_ <;> intro _)) | (refine AJ (Ab 290) ?_; first | refine Ag (Ab 290) ?_ | refine Ao (Ak 290) ?_ | (refine Aj (Ad _ 290) ?_ ?_ <;> intro _ <;> (try (exfalso; omega))) | (refine Ap (Ad _ 290) ?_ ?_ <;> intro _))) | refine Ah ?_ | refine nc ?_ ?_ | (with_reducible intro _ <;> (try (exfalso; omega))) | refine Aa ?_ | (refine nd ?_ ?_ <;> intro hg <;> first | exact xo hg | rw [hg]) | refine AU Tryz.func247 rfl Tryz.ntmps247 Tryz.results247 ?_)
 all_goals first | (simp only [Cm, List.map_nil]; infer_instance) | trace_state
theorem R9 (n : UInt8) (b : List UInt8) (hb : (n :: b).length ≤ 1000000) (hn : n.toNat ≤ 64) : VP Tryz.prog 140 [BD (n :: b)] (· = .ret (.tup [.sl false true ((Br (n :: b)).1.map oM), An (Br (n :: b)).2.1, An (Br (n :: b)).2.2])) := by
 have hn8 := n.toNat_lt
 have c1 := F7 n b
 obtain ⟨res, hE⟩ : ∃ E, Br (n :: b) = E := ⟨_, rfl⟩
 rw [hE]
 simp only [Br, EZ] at hE
 rw [if_pos hn] at hE
 obtain ⟨B0, hB0⟩ : ∃ B0, n :: b = B0 := ⟨_, rfl⟩
 rw [hB0] at hb c1 ⊢
 have hbl := Av B0
 have hmin : min ((AG B0).length : Int) 1048576 = ((AG B0).length : Int) := by omega
 have hcut : CP none (some ((AG B0).length : Int)) (AG B0) = AG B0 := by rw [hbl, Pk, List.take_of_length_le (Nat.le_refl _)]
 have cl := Ji B0 (by omega)
 refine VP.le ?_
 refine Al fun B => ?_
 repeat' (first | refine Ai ?_ | refine Ah ?_ | refine nc ?_ ?_ | (with_reducible intro _ <;> (try (exfalso; omega))) | refine Aa ?_ | (refine nd ?_ ?_ <;> intro hg <;> first | exact xo hg | rw [hg]))
 refine Ae 183 fun _ => ?_
 refine AS ?_
 repeat' (first | refine Ai ?_ | ((fail_if_success (with_reducible refine AS ?_)); refine Ah ?_) | refine nc ?_ ?_ | (with_reducible intro _ <;> (try (exfalso; omega))) | refine Aa ?_ | (refine nd ?_ ?_ <;> intro hg <;> first | exact xo hg | rw [hg]))
 refine AS ?_
 repeat' (first | rw [hmin] | refine Ai ?_ | ((fail_if_success (with_reducible refine AS ?_)); refine Ah ?_) | refine nc ?_ ?_ | (with_reducible intro _ <;> (try (exfalso; omega))) | refine Aa ?_ | (refine nd ?_ ?_ <;> intro hg <;> first | exact xo hg | rw [hg]))
 refine AS ?_
 repeat' (first | refine Ai ?_ | ((fail_if_success (with_reducible refine AS ?_)); refine Ah ?_) | refine nc ?_ ?_ | (with_reducible intro _ <;> (try (exfalso; omega))) | refine Aa ?_ | (refine nd ?_ ?_ <;> intro hg <;> first | exact xo hg | rw [hg]))
 refine Na 1 rfl ?_
 repeat' (first | rw [hcut] | refine Ai ?_ | (refine As ?_; first | refine Ae 216 fun _ => ?_ | refine cz (cl) ?_ | refine Ae 217 fun _ => ?_ | refine Ae 184 fun _ => ?_ | refine Ae 185 fun _ => ?_ | refine BI (hc := AN (fd := 247) Tryz.func212 rfl Tryz.ntmps212 Tryz.results212 fun _ => ?_)) | refine Ah ?_ | refine nc ?_ ?_ | (with_reducible intro _ <;> (try (exfalso; omega))) | refine Aa ?_ | (refine nd ?_ ?_ <;> intro hg <;> first | exact xo hg | rw [hg]) | refine AU Tryz.func247 rfl Tryz.ntmps247 Tryz.results247 ?_)
 refine Am [(2, none)] c1 ?_
 repeat' (first | refine Ai ?_ | (refine As ?_; first | refine Ae 220 fun _ => ?_ | refine Ar ?_ | refine Aw ?_ | refine Ax ?_ | (refine AJ (Ab 110) ?_; first | refine Ag (Ab 110) ?_ | refine Ao (Ak 110) ?_ | (refine Aj (Ad _ 110) ?_ ?_ <;> intro _ <;> (try (exfalso; omega))) | (refine Ap (Ad _ 110) ?_ ?_ <;> intro _)) | (refine AJ (Ab 290) ?_; first | refine Ag (Ab 290) ?_ | refine Ao (Ak 290) ?_ | (refine Aj (Ad _ 290) ?_ ?_ <;> intro _ <;> (try (exfalso; omega))) | (refine Ap (Ad _ 290) ?_ ?_ <;> intro _)) | refine Ae 187 fun _ => ?_ | refine Ae 186 fun _ => ?_ | refine Ae 221 fun _ => ?_) | refine Ah ?_ | refine nc ?_ ?_ | (with_reducible intro _ <;> (try (exfalso; omega))) | refine Aa ?_ | (refine nd ?_ ?_ <;> intro hg <;> first | exact xo hg | rw [hg]) | refine AU Tryz.func247 rfl Tryz.ntmps247 Tryz.results247 ?_)
 refine G6 fun R1 T1 hOk1 => ?_
 refine CI fun M2 => ?_
 repeat' (first | refine Ai ?_ | refine Ah ?_ | refine nc ?_ ?_ | (with_reducible intro _ <;> (try (exfalso; omega))) | refine Aa ?_ | (refine nd ?_ ?_ <;> intro hg <;> first | exact xo hg | rw [hg]))
 refine Wq 9 0 71 19 rfl ?_
 refine BP (fun p : List A5 × List UInt8 => ⟨[(5, I .i64 p.1.length), (4, .d (An n.toNat)), (0, .yl 10), (1, .ptr 8 0), (2, .ptr 7 0)],
  [.y 10 (some R1) T1 [(13, .yl 10), (2, .ptr 9 0)], .c 9 0 [.row 11 0], .c 8 0 [.d (An n.toNat)], .c 7 0 [.ptr 6 0], .c 2 0 (E5 p.2), .c 6 0 (Mw (.ptr 2 0) Cp), .c 5 0 [.d (An 0)], .c 4 0 [.d BY], .c 3 0 [.ptr 2 0],
   .r false true 1 0 5 1 (AG B0), .c 0 0 [.fn (.func 184) [] []], .r true true 11 0 71 19 (p.1.map oM)], 12⟩)
  (fun p => p.1.length ≤ n.toNat ∧ p.2.length ≤ B0.length ∧ Dp n.toNat b = match Dp (n.toNat - p.1.length) p.2 with | .error e => .error e | .ok (l, t) => .ok (p.1 ++ l, t))
  (fun p => n.toNat - p.1.length) ([], b) (Eo [(11, _, _)]) ⟨Nat.zero_le _, by rw [← hB0]; simp, by simp only [List.length_nil, Nat.sub_zero, List.nil_append]; cases Dp n.toNat b <;> rfl⟩ fun p hp => ?_
 obtain ⟨done, rest⟩ := p
 obtain ⟨hp1, hp2, hp3⟩ := hp
 simp only at hp1 hp2 hp3
 dsimp only
 have hdl : (done.map oM).length = done.length := List.length_map _
 rcases Nat.lt_or_ge done.length n.toNat with h | h
 ·rw [show n.toNat - done.length = (n.toNat - done.length - 1) + 1 by omega, Dp] at hp3
  cases hr : Da rest with
  | error e =>
   rw [hr] at hp3
   simp only at hp3
   rw [hp3] at hE
   simp only at hE
   subst hE
   have ce := Z9 hr
   rcases PN hr with rfl | rfl
   all_goals
    repeat' (first | refine Ai ?_ | (refine As ?_; first | refine Am [(6, none), (2, none)] ce ?_) | refine Ah ?_ | refine nc ?_ ?_ | (with_reducible intro _ <;> (try (exfalso; omega))) | refine Aa ?_ | (refine nd ?_ ?_ <;> intro hg <;> first | exact xo hg | rw [hg]) | refine AU Tryz.func247 rfl Tryz.ntmps247 Tryz.results247 ?_)
    all_goals first | (simp only [Cm, List.map_nil]; infer_instance) | trace_state
  | ok q =>
   obtain ⟨o, t'⟩ := q
   rw [hr] at hp3
   simp only at hp3
   have ht' := congrArg List.length (RP hr).2
   rw [List.length_append] at ht'
   have co := Z8 hr
   simp only [oM, C6] at co
   repeat' (first | refine Ai ?_ | (refine As ?_; first | refine Am [(6, none), (2, none)] co ?_ | refine AT (by assumption) fun _ _ => ?_) | refine Ah ?_ | refine nc ?_ ?_ | (with_reducible intro _ <;> (try (exfalso; omega))) | refine Aa ?_ | (refine nd ?_ ?_ <;> intro hg <;> first | exact xo hg | rw [hg]) | refine AU Tryz.func247 rfl Tryz.ntmps247 Tryz.results247 ?_)
   refine AP (done ++ [o], t') ⟨by simp; omega, by simp only; omega, ?_⟩ (by simp; omega) ?_
   ·rw [hp3]
    simp only [List.length_append, List.length_cons, List.length_nil]
    rw [show n.toNat - (done.length + (0 + 1)) = n.toNat - done.length - 1 by omega]
    cases Dp (n.toNat - done.length - 1) t' with
    | error e => rfl
    | ok z => obtain ⟨l, t⟩ := z; simp
   ·dsimp only
    rw [show (((done ++ [o]).length : Nat) : Int) = (done.length : Int) + 1 by simp]
    simp only [List.map_append, List.map_cons, List.map_nil]
    exact (Eo [(11, _, _)])
 ·rw [show n.toNat - done.length = 0 by omega, Dp] at hp3
  simp only [List.append_nil] at hp3
  rw [hp3] at hE
  simp only at hE
  subst hE
  have c9 := Vp rest 0
  have htl : (AG rest).length ≤ (AG B0).length := by rw [Av, Av]; omega
  repeat' (first | refine Ai ?_ | (refine As ?_; first | refine cz (c9) ?_ | refine Ae 218 fun _ => ?_ | refine Ar ?_ | refine Bg ?_) | refine Ah ?_ | refine nc ?_ ?_ | (with_reducible intro _ <;> (try (exfalso; omega))) | refine Aa ?_ | (refine nd ?_ ?_ <;> intro hg <;> first | exact xo hg | rw [hg]) | refine AU Tryz.func247 rfl Tryz.ntmps247 Tryz.results247 ?_)
  all_goals (rw [hB0, Av, Av]; exact A7 _)
theorem My (B0 : List UInt8) (hb : B0.length ≤ 1000000) : VP Tryz.prog 140 [BD B0] (· = .ret (.tup [.sl false true ((Br B0).1.map oM), An (Br B0).2.1, An (Br B0).2.2])) := by
 match B0 with
 | [] => exact Sb
 | n :: b =>
  by_cases hn : n.toNat ≤ 64
  ·exact R9 n b hb hn
  ·have := Sa n b hb hn
   rw [show Br (n :: b) = ([], 0, 290) by simp only [Br, EZ]; rw [if_neg hn]]
   exact this

set_option maxRecDepth 20000
set_option maxRecDepth 10000
theorem Sk (n : Fl) (hn : n = .ep ∨ n = .sn ∨ n = .fl ∨ n = .fq ∨ n = .pr ∨ n = .tl) (b o : D) (x y : Fr) (t u : List UInt8) (ht : t.length ≤ 1000000) (h : Be x n t = some (y, u)) : Dk Tryz.prog 173 1 (.ptr 0 0 :: (FU n).map .d) [.c 0 0 (A6 b o x t)] 1 (.ret (.tup [])) [.c 0 0 (A6 b o y u)] 1 := by
 have c := OX b o x t 8 (by omega)
 rcases hn with rfl | rfl | rfl | rfl | rfl | rfl
 all_goals
  simp only [Be, HP] at h
  split at h
  ·rename_i hl
   cases h
   have c1 := c hl ht
   simp only [A6, Do, List.map_cons, List.map_nil, List.cons_append, List.nil_append, FU, N8, Int.cast_ofNat_Int] at c1 ⊢
   refine AH fun B M => ?_
   repeat' (first | refine D5 (by kernel_rfl) ?_ | refine Ai ?_ | refine Ah ?_ | refine nc ?_ ?_ | (with_reducible intro _ <;> (try (exfalso; omega))) | refine Aa ?_ | (refine nd ?_ ?_ <;> intro hg <;> first | exact xo hg | rw [hg]))
   repeat' (first | refine Bc ?_ | refine DO ?_ | refine CJ ?_ | refine BJ ?_ | refine CQ ?_)
   refine KL (v := ?_) (st' := ?_) (nb' := ?_) (fun tmX => ?_) ?_ ?_
   rotate_left 3
   ·repeat' (first | refine Ai ?_ | (refine As ?_; first | refine Ae 126 fun _ => ?_ | refine Ae 129 fun _ => ?_ | refine Ae 143 fun _ => ?_ | refine Ae 144 fun _ => ?_ | refine Ae 145 fun _ => ?_ | refine Ae 146 fun _ => ?_) | refine Ah ?_ | refine nc ?_ ?_ | (with_reducible intro _ <;> (try (exfalso; omega))) | refine Aa ?_ | (refine nd ?_ ?_ <;> intro hg <;> first | exact xo hg | rw [hg]))
    exact Db
   ·repeat' (first | refine Bc ?_ | refine DO ?_ | refine CJ ?_ | refine BJ ?_ | refine CQ ?_)
    refine KL (v := ?_) (st' := ?_) (nb' := ?_) (fun tmX => ?_) ?_ ?_
    rotate_left 3
    ·repeat' (first | refine Ai ?_ | (refine As ?_; first | refine Am [(0, none)] c1 ?_) | refine Ah ?_ | refine nc ?_ ?_ | (with_reducible intro _ <;> (try (exfalso; omega))) | refine Aa ?_ | (refine nd ?_ ?_ <;> intro hg <;> first | exact xo hg | rw [hg]))
     exact Db
    ·repeat' (first | refine Bc ?_ | refine DO ?_ | refine CJ ?_ | refine BJ ?_ | refine CQ ?_)
     repeat' (first | refine Ai ?_ | refine Ah ?_ | refine nc ?_ ?_ | (with_reducible intro _ <;> (try (exfalso; omega))) | refine Aa ?_ | (refine nd ?_ ?_ <;> intro hg <;> first | exact xo hg | rw [hg]))
     exact A8 []
    ·repeat' (first | exact trivial | exact rfl | refine ⟨?_, ?_⟩)
   ·repeat' (first | exact trivial | exact rfl | refine ⟨?_, ?_⟩)
  ·cases h
theorem MF (n : Fl) (hn : n = .ep ∨ n = .sn ∨ n = .fl ∨ n = .fq ∨ n = .pr ∨ n = .tl) (b o : D) (x : Fr) (t : List UInt8) (_ : t.length ≤ 1000000) (h : Be x n t = none) : Dk Tryz.prog 173 1 (.ptr 0 0 :: (FU n).map .d) [.c 0 0 (A6 b o x t)] 1 (.panic (.d DM)) [.c 0 0 (A6 b o x t)] 1 := by
 have c := NK b o x t 8
 rcases hn with rfl | rfl | rfl | rfl | rfl | rfl
 all_goals
  simp only [Be, HP] at h
  split at h
  ·cases h
  ·rename_i hl
   have c1 := c hl
   simp only [A6, Do, List.map_cons, List.map_nil, List.cons_append, List.nil_append, FU, N8, Int.cast_ofNat_Int] at c1 ⊢
   refine AH fun B M => ?_
   repeat' (first | refine HJ 6 (by kernel_rfl) ?_ | refine Ai ?_ | refine Ah ?_ | refine nc ?_ ?_ | (with_reducible intro _ <;> (try (exfalso; omega))) | refine Aa ?_ | (refine nd ?_ ?_ <;> intro hg <;> first | exact xo hg | rw [hg]))
   repeat' (first | refine Bc ?_ | refine DO ?_ | refine CJ ?_ | refine BJ ?_ | refine CQ ?_)
   refine KL (v := ?_) (st' := ?_) (nb' := ?_) (fun tmX => ?_) ?_ ?_
   rotate_left 3
   ·repeat' (first | refine Ai ?_ | (refine As ?_; first | refine Ae 126 fun _ => ?_ | refine Ae 129 fun _ => ?_ | refine Ae 143 fun _ => ?_ | refine Ae 144 fun _ => ?_ | refine Ae 145 fun _ => ?_ | refine Ae 146 fun _ => ?_) | refine Ah ?_ | refine nc ?_ ?_ | (with_reducible intro _ <;> (try (exfalso; omega))) | refine Aa ?_ | (refine nd ?_ ?_ <;> intro hg <;> first | exact xo hg | rw [hg]))
    exact Db
   ·repeat' (first | refine Bc ?_ | refine DO ?_ | refine CJ ?_ | refine BJ ?_ | refine CQ ?_)
    refine Nd (.d (AK 0)) (fun tmX => ?_) ?_
    ·repeat' (first | refine Ai ?_ | (refine As ?_; first | refine Am [(0, none)] c1 ?_) | refine Ah ?_ | refine nc ?_ ?_ | (with_reducible intro _ <;> (try (exfalso; omega))) | refine Aa ?_ | (refine nd ?_ ?_ <;> intro hg <;> first | exact xo hg | rw [hg]))
     refine Kt ?_
     repeat' (first | refine Ai ?_ | refine Ah ?_ | refine nc ?_ ?_ | (with_reducible intro _ <;> (try (exfalso; omega))) | refine Aa ?_ | (refine nd ?_ ?_ <;> intro hg <;> first | exact xo hg | rw [hg]))
     exact Ay []
    ·repeat' (first | exact IK | refine Bc ?_ | refine DO ?_ | refine CJ ?_ | refine BJ ?_ | refine CQ ?_)
   ·repeat' (first | exact trivial | exact rfl | refine ⟨?_, ?_⟩)
theorem ZL (n : Fl) (hn : n = .si ∨ n = .ix ∨ n = .my) (b o : D) (x y : Fr) (t u : List UInt8) (ht : t.length ≤ 1000000) (h : Be x n t = some (y, u)) : Dk Tryz.prog 175 1 (.ptr 0 0 :: (FU n).map .d) [.c 0 0 (A6 b o x t)] 1 (.ret (.tup [])) [.c 0 0 (A6 b o y u)] 1 := by
 have c := OX b o x t 1 (by omega)
 rcases hn with rfl | rfl | rfl
 all_goals
  simp only [Be, HP] at h
  split at h
  ·rename_i hl
   cases h
   have c1 := c hl ht
   have hm := HR (t.take 1)
   rw [show (t.take 1).length = 1 by rw [List.length_take]; omega, Nat.pow_one] at hm
   simp only [A6, Do, List.map_cons, List.map_nil, List.cons_append, List.nil_append, FU, N8, Int.cast_ofNat_Int] at c1 ⊢
   refine AH fun B M => ?_
   repeat' (first | refine D5 (by kernel_rfl) ?_ | refine Ai ?_ | refine Ah ?_ | refine nc ?_ ?_ | (with_reducible intro _ <;> (try (exfalso; omega))) | refine Aa ?_ | (refine nd ?_ ?_ <;> intro hg <;> first | exact xo hg | rw [hg]))
   repeat' (first | refine Bc ?_ | refine DO ?_ | refine CJ ?_ | refine BJ ?_ | refine CQ ?_)
   refine KL (v := ?_) (st' := ?_) (nb' := ?_) (fun tmX => ?_) ?_ ?_
   rotate_left 3
   ·repeat' (first | refine Ai ?_ | (refine As ?_; first | refine Ae 128 fun _ => ?_ | refine Ae 130 fun _ => ?_ | refine Ae 131 fun _ => ?_) | refine Ah ?_ | refine nc ?_ ?_ | (with_reducible intro _ <;> (try (exfalso; omega))) | refine Aa ?_ | (refine nd ?_ ?_ <;> intro hg <;> first | exact xo hg | rw [hg]))
    exact Db
   ·repeat' (first | refine Bc ?_ | refine DO ?_ | refine CJ ?_ | refine BJ ?_ | refine CQ ?_)
    refine KL (v := ?_) (st' := ?_) (nb' := ?_) (fun tmX => ?_) ?_ ?_
    rotate_left 3
    ·repeat' (first | refine Ai ?_ | (refine As ?_; first | refine Am [(0, none)] c1 ?_) | refine Ah ?_ | refine nc ?_ ?_ | (with_reducible intro _ <;> (try (exfalso; omega))) | refine Aa ?_ | (refine nd ?_ ?_ <;> intro hg <;> first | exact xo hg | rw [hg]))
     exact Db
    ·repeat' (first | refine Bc ?_ | refine DO ?_ | refine CJ ?_ | refine BJ ?_ | refine CQ ?_)
     repeat' (first | refine Ai ?_ | refine Ah ?_ | refine nc ?_ ?_ | (with_reducible intro _ <;> (try (exfalso; omega))) | refine Aa ?_ | (refine nd ?_ ?_ <;> intro hg <;> first | exact xo hg | rw [hg]))
     exact A8 []
    ·repeat' (first | exact trivial | exact rfl | refine ⟨?_, ?_⟩)
   ·repeat' (first | exact trivial | exact rfl | refine ⟨?_, ?_⟩)
  ·cases h
theorem Ul (n : Fl) (hn : n = .si ∨ n = .ix ∨ n = .my) (b o : D) (x : Fr) (t : List UInt8) (_ : t.length ≤ 1000000) (h : Be x n t = none) : Dk Tryz.prog 175 1 (.ptr 0 0 :: (FU n).map .d) [.c 0 0 (A6 b o x t)] 1 (.panic (.d DM)) [.c 0 0 (A6 b o x t)] 1 := by
 have c := NK b o x t 1
 rcases hn with rfl | rfl | rfl
 all_goals
  simp only [Be, HP] at h
  split at h
  ·cases h
  ·rename_i hl
   have c1 := c hl
   simp only [A6, Do, List.map_cons, List.map_nil, List.cons_append, List.nil_append, FU, N8, Int.cast_ofNat_Int] at c1 ⊢
   refine AH fun B M => ?_
   repeat' (first | refine HJ 6 (by kernel_rfl) ?_ | refine Ai ?_ | refine Ah ?_ | refine nc ?_ ?_ | (with_reducible intro _ <;> (try (exfalso; omega))) | refine Aa ?_ | (refine nd ?_ ?_ <;> intro hg <;> first | exact xo hg | rw [hg]))
   repeat' (first | refine Bc ?_ | refine DO ?_ | refine CJ ?_ | refine BJ ?_ | refine CQ ?_)
   refine KL (v := ?_) (st' := ?_) (nb' := ?_) (fun tmX => ?_) ?_ ?_
   rotate_left 3
   ·repeat' (first | refine Ai ?_ | (refine As ?_; first | refine Ae 128 fun _ => ?_ | refine Ae 130 fun _ => ?_ | refine Ae 131 fun _ => ?_) | refine Ah ?_ | refine nc ?_ ?_ | (with_reducible intro _ <;> (try (exfalso; omega))) | refine Aa ?_ | (refine nd ?_ ?_ <;> intro hg <;> first | exact xo hg | rw [hg]))
    exact Db
   ·repeat' (first | refine Bc ?_ | refine DO ?_ | refine CJ ?_ | refine BJ ?_ | refine CQ ?_)
    refine Nd (.d (AK 0)) (fun tmX => ?_) ?_
    ·repeat' (first | refine Ai ?_ | (refine As ?_; first | refine Am [(0, none)] c1 ?_) | refine Ah ?_ | refine nc ?_ ?_ | (with_reducible intro _ <;> (try (exfalso; omega))) | refine Aa ?_ | (refine nd ?_ ?_ <;> intro hg <;> first | exact xo hg | rw [hg]))
     refine Kt ?_
     repeat' (first | refine Ai ?_ | refine Ah ?_ | refine nc ?_ ?_ | (with_reducible intro _ <;> (try (exfalso; omega))) | refine Aa ?_ | (refine nd ?_ ?_ <;> intro hg <;> first | exact xo hg | rw [hg]))
     exact Ay []
    ·repeat' (first | exact IK | refine Bc ?_ | refine DO ?_ | refine CJ ?_ | refine BJ ?_ | refine CQ ?_)
   ·repeat' (first | exact trivial | exact rfl | refine ⟨?_, ?_⟩)
theorem R7 {t u : List UInt8} {v : Vc} (h : GZ t = some (v, u)) : BK t = (v, 64, 0) ∧ u = t.drop 64 ∧ 64 ≤ t.length := by
 unfold GZ at h
 unfold BK
 split at h
 ·cases h
 ·rename_i hl
  split at h
  ·rename_i hv
   cases h
   exact ⟨by rw [if_neg hl, if_pos hv], rfl, by omega⟩
  ·cases h
theorem R8 {t : List UInt8} (h : GZ t = none) : (BK t).2.2 = 110 ∨ (BK t).2.2 = 290 := by
 unfold GZ at h
 unfold BK
 split at h
 ·rename_i hl; rw [if_pos hl]; exact .inl rfl
 ·rename_i hl
  split at h
  ·cases h
  ·rename_i hv; rw [if_neg hl, if_neg hv]; exact .inr rfl
theorem TJ (b o : D) (x : Fr) (t : List UInt8) (v : Vc) (u : List UInt8) (ht : t.length ≤ 1000000) (h : GZ t = some (v, u)) : Dk Tryz.prog 191 1 [.ptr 0 0, .d (.lit (.func (.func 192) #[] #[]))] [.c 0 0 (A6 b o x t)] 1 (.ret (.d (.agg (Gv v)))) [.c 0 0 (A6 b o x u)] 1 := by
 obtain ⟨h1, rfl, h3⟩ := R7 h
 have c1 := QQ t ht
 rw [h1] at c1
 have c2 := NL b o x t 64 h3 ht
 simp only [A6, Do, List.map_cons, List.map_nil, List.cons_append, List.nil_append, Int.cast_ofNat_Int] at c2 ⊢
 simp only [Gv] at c1 ⊢
 refine AH fun B M => ?_
 repeat' (first | refine Ai ?_ | (refine As ?_; first | (refine AJ (A3 0) ?_; first | refine Ag (A3 0) ?_ | refine Ao (CL 0) ?_ | (refine Aj (A9 _ 0) ?_ ?_ <;> intro _ <;> (try (exfalso; omega))) | (refine Ap (A9 _ 0) ?_ ?_ <;> intro _)) | refine cz (c1) ?_ | refine Am [(0, none)] c2 ?_) | refine Ah ?_ | refine nc ?_ ?_ | (with_reducible intro _ <;> (try (exfalso; omega))) | refine Aa ?_ | (refine nd ?_ ?_ <;> intro hg <;> first | exact xo hg | rw [hg]))
 all_goals first | exact A8 [] | trace_state
theorem R5 (b o : D) (x : Fr) (t : List UInt8) (ht : t.length ≤ 1000000) (h : GZ t = none) : Dk Tryz.prog 191 1 [.ptr 0 0, .d (.lit (.func (.func 192) #[] #[]))] [.c 0 0 (A6 b o x t)] 1 (.panic (.d DM)) [.c 0 0 (A6 b o x t)] 1 := by
 have c1 := QQ t ht
 have he := R8 h
 generalize BK t = p at *
 obtain ⟨v, n, e⟩ := p
 simp only at he c1
 simp only [A6, Do, List.map_cons, List.map_nil, List.cons_append, List.nil_append]
 simp only [Gv] at c1 ⊢
 refine AH fun B M => ?_
 repeat' (first | refine Ai ?_ | (refine As ?_; first | (refine AJ (A3 0) ?_; first | refine Ag (A3 0) ?_ | refine Ao (CL 0) ?_ | (refine Aj (A9 _ 0) ?_ ?_ <;> intro _ <;> (try (exfalso; omega))) | (refine Ap (A9 _ 0) ?_ ?_ <;> intro _)) | refine cz (c1) ?_) | refine Ah ?_ | refine nc ?_ ?_ | (with_reducible intro _ <;> (try (exfalso; omega))) | refine Aa ?_ | (refine nd ?_ ?_ <;> intro hg <;> first | exact xo hg | rw [hg]))
 all_goals first | exact Ay [] | trace_state
theorem AbH (n : Fl) (hn : n = .v ∨ n = .w) (b o : D) (x y : Fr) (t u : List UInt8) (ht : t.length ≤ 1000000) (h : Be x n t = some (y, u)) : Dk Tryz.prog 190 1 (.ptr 0 0 :: (FU n).map .d) [.c 0 0 (A6 b o x t)] 1 (.ret (.tup [])) [.c 0 0 (A6 b o y u)] 1 := by
 rcases hn with rfl | rfl
 all_goals
  simp only [Be] at h
  cases hr : GZ t with
  | none => rw [hr] at h; cases h
  | some p =>
   rw [hr] at h
   cases h
   have c1 := TJ b o x t p.1 p.2 ht hr
   simp only [A6, Do, List.map_cons, List.map_nil, List.cons_append, List.nil_append, FU, N8] at c1 ⊢
   refine AH fun B M => ?_
   repeat' (first | refine D5 (by kernel_rfl) ?_ | refine Ai ?_ | refine Ah ?_ | refine nc ?_ ?_ | (with_reducible intro _ <;> (try (exfalso; omega))) | refine Aa ?_ | (refine nd ?_ ?_ <;> intro hg <;> first | exact xo hg | rw [hg]))
   repeat' (first | refine Bc ?_ | refine DO ?_ | refine CJ ?_ | refine BJ ?_ | refine CQ ?_)
   refine KL (v := ?_) (st' := ?_) (nb' := ?_) (fun tmX => ?_) ?_ ?_
   rotate_left 3
   ·repeat' (first | refine Ai ?_ | (refine As ?_; first | refine Ae 142 fun _ => ?_ | refine Ae 147 fun _ => ?_) | refine Ah ?_ | refine nc ?_ ?_ | (with_reducible intro _ <;> (try (exfalso; omega))) | refine Aa ?_ | (refine nd ?_ ?_ <;> intro hg <;> first | exact xo hg | rw [hg]))
    exact Db
   ·repeat' (first | refine Bc ?_ | refine DO ?_ | refine CJ ?_ | refine BJ ?_ | refine CQ ?_)
    refine KL (v := ?_) (st' := ?_) (nb' := ?_) (fun tmX => ?_) ?_ ?_
    rotate_left 3
    ·repeat' (first | refine Ai ?_ | (refine As ?_; first | refine Am [(0, none)] c1 ?_) | refine Ah ?_ | refine nc ?_ ?_ | (with_reducible intro _ <;> (try (exfalso; omega))) | refine Aa ?_ | (refine nd ?_ ?_ <;> intro hg <;> first | exact xo hg | rw [hg]))
     exact Db
    ·repeat' (first | refine Bc ?_ | refine DO ?_ | refine CJ ?_ | refine BJ ?_ | refine CQ ?_)
     repeat' (first | refine Ai ?_ | refine Ah ?_ | refine nc ?_ ?_ | (with_reducible intro _ <;> (try (exfalso; omega))) | refine Aa ?_ | (refine nd ?_ ?_ <;> intro hg <;> first | exact xo hg | rw [hg]))
     exact A8 []
    ·repeat' (first | exact trivial | exact rfl | refine ⟨?_, ?_⟩)
   ·repeat' (first | exact trivial | exact rfl | refine ⟨?_, ?_⟩)
theorem Yy (n : Fl) (hn : n = .v ∨ n = .w) (b o : D) (x : Fr) (t : List UInt8) (ht : t.length ≤ 1000000) (h : Be x n t = none) : Dk Tryz.prog 190 1 (.ptr 0 0 :: (FU n).map .d) [.c 0 0 (A6 b o x t)] 1 (.panic (.d DM)) [.c 0 0 (A6 b o x t)] 1 := by
 rcases hn with rfl | rfl
 all_goals
  simp only [Be, Option.map_eq_none_iff] at h
  ·have c1 := R5 b o x t ht h
   simp only [A6, Do, List.map_cons, List.map_nil, List.cons_append, List.nil_append, FU, N8] at c1 ⊢
   refine AH fun B M => ?_
   repeat' (first | refine HJ 6 (by kernel_rfl) ?_ | refine Ai ?_ | refine Ah ?_ | refine nc ?_ ?_ | (with_reducible intro _ <;> (try (exfalso; omega))) | refine Aa ?_ | (refine nd ?_ ?_ <;> intro hg <;> first | exact xo hg | rw [hg]))
   repeat' (first | refine Bc ?_ | refine DO ?_ | refine CJ ?_ | refine BJ ?_ | refine CQ ?_)
   refine KL (v := ?_) (st' := ?_) (nb' := ?_) (fun tmX => ?_) ?_ ?_
   rotate_left 3
   ·repeat' (first | refine Ai ?_ | (refine As ?_; first | refine Ae 142 fun _ => ?_ | refine Ae 147 fun _ => ?_) | refine Ah ?_ | refine nc ?_ ?_ | (with_reducible intro _ <;> (try (exfalso; omega))) | refine Aa ?_ | (refine nd ?_ ?_ <;> intro hg <;> first | exact xo hg | rw [hg]))
    exact Db
   ·repeat' (first | refine Bc ?_ | refine DO ?_ | refine CJ ?_ | refine BJ ?_ | refine CQ ?_)
    refine Nd (.d (.agg (Gv .zero))) (fun tmX => ?_) ?_
    ·repeat' (first | refine Ai ?_ | (refine As ?_; first | refine Am [(0, none)] c1 ?_) | refine Ah ?_ | refine nc ?_ ?_ | (with_reducible intro _ <;> (try (exfalso; omega))) | refine Aa ?_ | (refine nd ?_ ?_ <;> intro hg <;> first | exact xo hg | rw [hg]))
     refine Kt ?_
     repeat' (first | refine Ai ?_ | refine Ah ?_ | refine nc ?_ ?_ | (with_reducible intro _ <;> (try (exfalso; omega))) | refine Aa ?_ | (refine nd ?_ ?_ <;> intro hg <;> first | exact xo hg | rw [hg]))
     exact Ay []
    ·repeat' (first | exact IK | refine Bc ?_ | refine DO ?_ | refine CJ ?_ | refine BJ ?_ | refine CQ ?_)
   ·repeat' (first | exact trivial | exact rfl | refine ⟨?_, ?_⟩)

end Go.Proofs.YtbgcjnfhadhjeaaGreat