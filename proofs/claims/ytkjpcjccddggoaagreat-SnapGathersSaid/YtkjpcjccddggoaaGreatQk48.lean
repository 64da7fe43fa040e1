/- Walks by data and names, part 48: Layer 21, by V: SnapGathers. -/
import Derived.Test.YtkjpcjccddggoaaGreatQk47
namespace Go.Proofs.YtkjpcjccddggoaaGreat
open Go.RowKit
set_option maxRecDepth 10000
set_option maxHeartbeats 4000000
section
variable {P : Program} {cx : Cx} {b : Nat} {s : St} {L : List Int} {Q : VE → St → List Int → Prop}
theorem q_rem {P : Program} {cx : Cx} {s : St} {t yt ty : TypeId} {x y : Operand} {k : IntKind} {a b : Int} (hx : evalV s x = some (I k a)) (hy : evalV s y = some (I k b)) (hb : b ≠ 0) : OpQ P cx (.binOp .rem t x y yt) ty s (I k (a.tmod b)) := q_bini hx hy fun w => by simp [binOp, Op.intDiv, hb]
theorem vs_rem {P : Program} {cx : Cx} {ops rest : List Oper} {tm : List (Nat × V)} {st : List E} {nb : Nat} {Q : VE → St → Prop} {d : Tmp} {t yt ty : TypeId} {x y : Operand} {k : IntKind} {a b : Int} {pos : String} {af : Array Edge} (kk : VL P cx ops rest ⟨(d, I k (a.tmod b)) :: tm, st, nb⟩ Q)
    (hx : evalV ⟨tm, st, nb⟩ x = some (I k a) := by rfl) (hy : evalV ⟨tm, st, nb⟩ y = some (I k b) := by rfl) (hb : b ≠ 0 := by omega) (hd : Nat.blt d cx.N = true := by rfl) : VL P cx ops (⟨some d, .binOp .rem t x y yt, ty, pos, af, none⟩ :: rest) ⟨tm, st, nb⟩ Q := vs_x kk (sx_q (h := q_rem hx hy hb) (hd := hd))
theorem restM_n {ops rest : List Oper} (h : VLm P cx b ops rest s L Q) : restM P cx b ops rest Q .normal s L := h
theorem thenM_n {c : Code} (h : VWm P cx b c s L Q) : thenM P cx b c Q .normal s L := h
end
theorem cutE_cases (s : Int) (W : List UInt8) : (numB s = true ∧ 0 < W.length ∧ manyN W ≤ 64 ∧ cutE s W = (pcsOf s W, 0)) ∨ ∃ e, e ≠ 0 ∧ cutE s W = ([], e) := by
  unfold cutE
  split
  · exact .inr ⟨2, by decide, rfl⟩
  · rename_i h1
    split
    · exact .inr ⟨3, by decide, rfl⟩
    · rename_i h2
      simp only [Bool.not_eq_false, Bool.and_eq_true, decide_eq_true_eq] at h1 h2
      exact .inl ⟨h1.1, h1.2, h2, rfl⟩
theorem wf_i {n : Int} (h : -9223372036854775808 ≤ n ∧ n ≤ 9223372036854775807) : (Lit.int .i64 n).wf = true := by
  have h1 : IntKind.i64.min = -9223372036854775808 := by decide
  have h2 : IntKind.i64.max = 9223372036854775807 := by decide
  simp only [Lit.wf, h1, h2, Bool.and_eq_true, decide_eq_true_eq]; exact h
theorem pile_le {n : Int} {W : List UInt8} {S : Nat → Bool} : ∀ y ∈ (pileS n W S).parts, y.length ≤ 256 := by
  intro y hy
  unfold pileS at hy
  split at hy
  · simp only [partsS, List.mem_map] at hy
    obtain ⟨j, _, rfl⟩ := hy
    split
    · rw [chk_len]; omega
    · simp
  · simp [Pi.zero] at hy
theorem hTT : decide (true ≠ true) = false := rfl
theorem hFF : decide (false ≠ false) = false := rfl
theorem hTF : decide (true = false) = false := rfl
theorem hFT : decide (false = true) = false := rfl
theorem h00 : decide ((0 : Int) < 0) = false := rfl
theorem sumL_bd2 {m : Nat} : ∀ {l : List (List UInt8)}, (∀ y ∈ l, y.length ≤ m) → sumL l ≤ l.length * m
  | [], _ => by simp [sumL]
  | x :: l, h => by
    have h1 := h x (by simp)
    have h2 := sumL_bd2 (l := l) fun y hy => h y (by simp [hy])
    simp only [sumL, List.flatten_cons, List.length_append, List.length_cons] at h2 ⊢
    rw [Nat.add_mul]; omega
theorem gathers_v (s : Int) (W : List UInt8) (l : List Int) (hW : W.length ≤ 140737488351232) (hl : ∀ x ∈ l, -9223372036854775808 ≤ x ∧ x ≤ 9223372036854775807) : VP Tryz.prog 3 [u64D s, bsD W, .sl false false (l.map fun n => [i64D n])] (· = .ret (.lit (.bool true))) := by
  have c1 := cut_big s W hW
  rcases cutE_cases s W with ⟨hn, h0, hm, hc⟩ | ⟨e, he, hc⟩
  · rw [hc] at c1
    have hct : cutL none (some (min ((l.map fun n => [i64D n]).length : Int) 80)) (l.map fun n => [i64D n]) = (l.take 80).map fun n => [i64D n] := cutM _ l 80
    have hTl : (l.take 80).length ≤ 80 := by simp; omega
    have hT : ∀ x ∈ l.take 80, -9223372036854775808 ≤ x ∧ x ≤ 9223372036854775807 := fun x hx => hl x (List.mem_of_mem_take hx)
    generalize l.take 80 = T at *
    have hTm : (T.map fun n => [i64D n]).length = T.length := List.length_map _
    have hpl : ((pcsOf s W).map pcN).length = manyN W := by simp [pcsOf]
    have hm0 : 0 < manyN W := by unfold manyN; omega
    refine vp_of Tryz.func3 rfl Tryz.ntmps3 rfl Tryz.results3 fun B => ?_
    repeat' (first | refine vw_map fun b => ?_ | fail | refine nzl ?_ | refine nzd ?_ | ((first | with_reducible refine vl_id ?_ | with_reducible refine vd_id ?_); first | refine cz (wakes_v) ?_ | refine cz (c1) ?_) | refine nzo ?_ | refine nc ?_ ?_ | (with_reducible intro _ <;> (try (exfalso; omega))) | refine vs_eqnil ?_ | refine vs_nenil ?_ | (refine nd ?_ ?_ <;> intro hg <;> (first | (exfalso; (try simp only [decide_eq_true_eq, decide_eq_false_iff_not] at hg); omega) | rw [hg])) | fail)
    refine vlm_op ?_
    repeat' (first | fail | fail | refine nzl ?_ | refine nzd ?_ | ((first | with_reducible refine vl_id ?_ | with_reducible refine vd_id ?_); first | fail) | refine nzo ?_ | refine nc ?_ ?_ | (with_reducible intro _ <;> (try (exfalso; omega))) | refine vs_eqnil ?_ | refine vs_nenil ?_ | (refine nd ?_ ?_ <;> intro hg <;> (first | (exfalso; (try simp only [decide_eq_true_eq, decide_eq_false_iff_not] at hg); omega) | rw [hg])) | fail)
    refine restM_n ?_
    refine vlm_nil ?_
    refine thenM_n ?_
    refine vwm_seq ?_
    refine vwm_seq ?_
    refine vwm_of ?_
    repeat' (first | rw [hct] | fail | refine nzl ?_ | refine nzd ?_ | ((first | with_reducible refine vl_id ?_ | with_reducible refine vd_id ?_); first | fail) | refine nzo ?_ | refine nc ?_ ?_ | (with_reducible intro _ <;> (try (exfalso; omega))) | refine vs_eqnil ?_ | refine vs_nenil ?_ | (refine nd ?_ ?_ <;> intro hg <;> (first | (exfalso; (try simp only [decide_eq_true_eq, decide_eq_false_iff_not] at hg); omega) | rw [hg])) | fail)
    refine thenM_n ?_
    refine vwm_block ?_
    refine vwm_loop (fun z : Nat × List Nat => gaS s W T b (pileS s W (setS z.2)) z.1) (fun z => z.2.map fun (j : Nat) => (j : Int)) (fun z => z.1 ≤ T.length ∧ z.2.Nodup ∧ (∀ j ∈ z.2, j < manyN W) ∧ z.2.length ≤ z.1) (fun z => T.length - z.1) (0, []) (by simp only [gaS, pile_0, Pi.zero, List.map_nil]; exact (sub_z)) rfl ⟨Nat.zero_le _, List.nodup_nil, by simp, Nat.le_refl _⟩ fun ⟨i, z⟩ hz => ?_
    obtain ⟨hi, hnd, hzm, hzl⟩ := hz
    simp only at hi hnd hzm hzl
    simp only [gaS]
    rcases Nat.lt_or_ge i T.length with h | h
    · have hlt : (i : Int) < ((T.map fun n => [i64D n]).length : Int) := by rw [hTm]; omega
      have hx' : (T.map fun n => [i64D n])[((i : Nat) : Int).toNat]? = some [i64D T[i]] := by simp [h]
      have ht := hT T[i] (List.getElem_mem h)
      generalize T[i] = t at *
      have hub : 0 ≤ IntKind.u64.wrap t ∧ IntKind.u64.wrap t < 18446744073709551616 := ⟨Int.emod_nonneg _ (by decide), Int.emod_lt_of_pos _ (by decide)⟩
      generalize hu : IntKind.u64.wrap t = u at *
      obtain ⟨k, hkm, hkk⟩ : ∃ k : Nat, k < manyN W ∧ u.tmod (((pcsOf s W).map pcN).length : Int) = (k : Int) := by
        have h1 := Int.emod_nonneg u (b := (manyN W : Int)) (by omega)
        have h2 := Int.emod_lt_of_pos u (b := (manyN W : Int)) (by omega)
        exact ⟨(u % manyN W).toNat, by omega, by rw [hpl, Int.tmod_eq_emod_of_nonneg hub.1]; omega⟩
      have hx2 : ((pcsOf s W).map pcN)[((k : Nat) : Int).toNat]? = some (pcN (pcAt s W k)) := by simp [pcsOf, hkm]
      have hxi : (pcAt s W k).idx = (k : Int) := rfl
      have hwf : (Lit.int .i64 (pcAt s W k).idx).wf = true := wf_i (by rw [hxi]; omega)
      have hokL : okL (z.map fun (j : Nat) => (j : Int)) := by
        intro y hy
        obtain ⟨j, hj, rfl⟩ := List.mem_map.1 hy
        have := hzm j hj
        exact wf_i (by omega)
      have hb1 : ∀ y ∈ (pileS s W (setS z)).parts, y.length ≤ 256 := pile_le
      have c10 := putS_v (pileS s W (setS z)) (pcAt s W k) (fun y hy => by have := hb1 y hy; omega)
      have hbp := piB_S (n := s) (W := W) (S := setS z) hn hm
      refine vwm_seq ?_
      refine vwm_of ?_
      repeat' (first | fail | fail | refine nzl ?_ | refine nzd ?_ | ((first | with_reducible refine vl_id ?_ | with_reducible refine vd_id ?_); first | fail) | refine nzo ?_ | refine nc ?_ ?_ | (with_reducible intro _ <;> (try (exfalso; omega))) | refine vs_eqnil ?_ | refine vs_nenil ?_ | (refine nd ?_ ?_ <;> intro hg <;> (first | (exfalso; (try simp only [decide_eq_true_eq, decide_eq_false_iff_not] at hg); omega) | rw [hg])) | fail)
      refine thenM_n ?_
      refine vwm_seq ?_
      refine vwm_of ?_
      repeat' (first | fail | fail | refine nzl ?_ | refine nzd ?_ | ((first | with_reducible refine vl_id ?_ | with_reducible refine vd_id ?_); first | fail) | refine nzo ?_ | refine nc ?_ ?_ | (with_reducible intro _ <;> (try (exfalso; omega))) | refine vs_eqnil ?_ | refine vs_nenil ?_ | (refine nd ?_ ?_ <;> intro hg <;> (first | (exfalso; (try simp only [decide_eq_true_eq, decide_eq_false_iff_not] at hg); omega) | rw [hg])) | fail)
      refine thenM_n ?_
      refine vwm_seq ?_
      refine vwm_block ?_
      refine vwm_seq ?_
      refine vwm_of ?_
      repeat' (first | fail | fail | refine nzl ?_ | refine nzd ?_ | ((first | with_reducible refine vl_id ?_ | with_reducible refine vd_id ?_); first | fail) | refine nzo ?_ | refine nc ?_ ?_ | (with_reducible intro _ <;> (try (exfalso; omega))) | refine vs_eqnil ?_ | refine vs_nenil ?_ | (refine nd ?_ ?_ <;> intro hg <;> (first | (exfalso; (try simp only [decide_eq_true_eq, decide_eq_false_iff_not] at hg); omega) | rw [hg])) | fail)
      refine thenM_n ?_
      simp only [pcN] at hx2
      refine vwm_seq ?_
      refine vwm_of ?_
      repeat' (first | rw [hu] | rw [hkk] | refine vs_rem ?_ | fail | refine nzl ?_ | refine nzd ?_ | ((first | with_reducible refine vl_id ?_ | with_reducible refine vd_id ?_); first | fail) | refine nzo ?_ | refine nc ?_ ?_ | (with_reducible intro _ <;> (try (exfalso; omega))) | refine vs_eqnil ?_ | refine vs_nenil ?_ | (refine nd ?_ ?_ <;> intro hg <;> (first | (exfalso; (try simp only [decide_eq_true_eq, decide_eq_false_iff_not] at hg); omega) | rw [hg])) | fail)
      refine thenM_n ?_
      by_cases hk : k ∈ z
      · have hS : setS z k = true := by simp [setS, hk]
        obtain ⟨g1, g2⟩ := no_S hn hm hkm hS
        rw [show putE (pileS s W (setS z)) (pcAt s W k) = (.zero, 5) by simp [putE, hbp, g1, g2]] at c10
        have hin : (pcAt s W k).idx ∈ z.map fun (j : Nat) => (j : Int) := by rw [hxi]; exact List.mem_map_of_mem (f := fun (j : Nat) => (j : Int)) hk
        generalize hp : pileS s W (setS z) = p at *
        generalize pcAt s W k = x at *
        simp only [piD, piM, pcD] at c10
        refine vwm_seq ?_
        refine vwm_of ?_
        repeat' (first | fail | fail | refine nzl ?_ | refine nzd ?_ | ((first | with_reducible refine vl_id ?_ | with_reducible refine vd_id ?_); first | refine cz (c10) ?_) | refine nzo ?_ | refine nc ?_ ?_ | (with_reducible intro _ <;> (try (exfalso; omega))) | refine vs_eqnil ?_ | refine vs_nenil ?_ | (refine nd ?_ ?_ <;> intro hg <;> (first | (exfalso; (try simp only [decide_eq_true_eq, decide_eq_false_iff_not] at hg); omega) | rw [hg])) | fail)
        refine thenM_n ?_
        refine vwm_seq ?_
        refine vwm_seq ?_
        refine vwm_region ?_
        refine vlm_op ?_
        repeat' (first | rw [hTT] | rw [hTT] | rw [hFF] | rw [hTF] | rw [hFT] | rw [h00] | fail | refine nzl ?_ | refine nzd ?_ | ((first | with_reducible refine vl_id ?_ | with_reducible refine vd_id ?_); first | fail) | refine nzo ?_ | refine nc ?_ ?_ | (with_reducible intro _ <;> (try (exfalso; omega))) | refine vs_eqnil ?_ | refine vs_nenil ?_ | (refine nd ?_ ?_ <;> intro hg <;> (first | (exfalso; (try simp only [decide_eq_true_eq, decide_eq_false_iff_not] at hg); omega) | rw [hg])) | fail)
        refine restM_n ?_
        refine vlm_op ?_
        repeat' (first | rw [hTT] | rw [hTT] | rw [hFF] | rw [hTF] | rw [hFT] | rw [h00] | fail | refine nzl ?_ | refine nzd ?_ | ((first | with_reducible refine vl_id ?_ | with_reducible refine vd_id ?_); first | fail) | refine nzo ?_ | refine nc ?_ ?_ | (with_reducible intro _ <;> (try (exfalso; omega))) | refine vs_eqnil ?_ | refine vs_nenil ?_ | (refine nd ?_ ?_ <;> intro hg <;> (first | (exfalso; (try simp only [decide_eq_true_eq, decide_eq_false_iff_not] at hg); omega) | rw [hg])) | fail)
        refine restM_n ?_
        refine vlm_op ?_
        repeat' (first | rw [hTT] | rw [hTT] | rw [hFF] | rw [hTF] | rw [hFT] | rw [h00] | fail | refine nzl ?_ | refine nzd ?_ | ((first | with_reducible refine vl_id ?_ | with_reducible refine vd_id ?_); first | fail) | refine nzo ?_ | refine nc ?_ ?_ | (with_reducible intro _ <;> (try (exfalso; omega))) | refine vs_eqnil ?_ | refine vs_nenil ?_ | (refine nd ?_ ?_ <;> intro hg <;> (first | (exfalso; (try simp only [decide_eq_true_eq, decide_eq_false_iff_not] at hg); omega) | rw [hg])) | fail)
        refine restM_n ?_
        refine vlm_look 1 ?_ hokL (if_pos hin) hwf
        refine vlm_op ?_
        repeat' (first | rw [hTT] | rw [hTT] | rw [hFF] | rw [hTF] | rw [hFT] | rw [h00] | fail | refine nzl ?_ | refine nzd ?_ | ((first | with_reducible refine vl_id ?_ | with_reducible refine vd_id ?_); first | fail) | refine nzo ?_ | refine nc ?_ ?_ | (with_reducible intro _ <;> (try (exfalso; omega))) | refine vs_eqnil ?_ | refine vs_nenil ?_ | (refine nd ?_ ?_ <;> intro hg <;> (first | (exfalso; (try simp only [decide_eq_true_eq, decide_eq_false_iff_not] at hg); omega) | rw [hg])) | fail)
        refine restM_n ?_
        refine vlm_nil ?_
        refine thenM_n ?_
        refine vwm_of ?_
        repeat' (first | fail | fail | refine nzl ?_ | refine nzd ?_ | ((first | with_reducible refine vl_id ?_ | with_reducible refine vd_id ?_); first | fail) | refine nzo ?_ | refine nc ?_ ?_ | (with_reducible intro _ <;> (try (exfalso; omega))) | refine vs_eqnil ?_ | refine vs_nenil ?_ | (refine nd ?_ ?_ <;> intro hg <;> (first | (exfalso; (try simp only [decide_eq_true_eq, decide_eq_false_iff_not] at hg); omega) | rw [hg])) | fail)
        all_goals try (first | exact absurd hg (by simp) | (rename_i hz; exact absurd rfl hz) | (exfalso; omega) | (rename_i hz; exact absurd hz (by decide)))
        change VWm _ _ _ _ _ _ _
        refine vwm_of ?_
        repeat' (first | fail | fail | refine nzl ?_ | refine nzd ?_ | ((first | with_reducible refine vl_id ?_ | with_reducible refine vd_id ?_); first | fail) | refine nzo ?_ | refine nc ?_ ?_ | (with_reducible intro _ <;> (try (exfalso; omega))) | refine vs_eqnil ?_ | refine vs_nenil ?_ | (refine nd ?_ ?_ <;> intro hg <;> (first | (exfalso; (try simp only [decide_eq_true_eq, decide_eq_false_iff_not] at hg); omega) | rw [hg])) | fail)
        exact ⟨(i + 1, z), ⟨by simp only; omega, hnd, hzm, by simp only; omega⟩, by simp only; omega, by simp only [hp]; exact (sub_z), rfl⟩
      · have hS : setS z k = false := by simp [setS, hk]
        obtain ⟨g1, g2⟩ := put_S hn hm hkm hS
        rw [setS_add] at g2
        rw [show putE (pileS s W (setS z)) (pcAt s W k) = (pileS s W (setS (z ++ [k])), 0) by simp [putE, hbp, g1, g2]] at c10
        have hni : (pcAt s W k).idx ∉ z.map fun (j : Nat) => (j : Int) := by
          rw [hxi]; intro hm; obtain ⟨j, hj, e⟩ := List.mem_map.1 hm
          have : j = k := by omega
          subst this; exact hk hj
        have hL' : (z.map fun (j : Nat) => (j : Int)) ++ [(pcAt s W k).idx] = (z ++ [k]).map fun (j : Nat) => (j : Int) := by rw [List.map_append, hxi]; rfl
        have hnd' : (z ++ [k]).Nodup := List.nodup_append.2 ⟨hnd, by simp, fun a ha c hc => by simp at hc; subst hc; intro e; subst e; exact hk ha⟩
        have hzm' : ∀ j ∈ z ++ [k], j < manyN W := fun j hj => by rcases List.mem_append.1 hj with hj | hj; exact hzm j hj; simp at hj; subst hj; exact hkm
        have hzl' : (z ++ [k]).length ≤ i + 1 := by simp; omega
        have hlt' := lt_S hnd' hzm'
        have hbp' := piB_S (n := s) (W := W) (S := setS (z ++ [k])) hn hm
        have hb2 : ∀ y ∈ (pileS s W (setS (z ++ [k]))).parts, y.length ≤ 256 := pile_le
        have c11 := chk_v (pileS s W (setS (z ++ [k])))
        rw [hbp', if_pos rfl] at c11
        have c12 := next_v (pileS s W (setS (z ++ [k])))
        have hends := ends_S (S := setS (z ++ [k])) hn hm h0
        have hsum : sumL (pileS s W (setS (z ++ [k]))).parts ≤ 140737488355328 := by
          have h1 := sumL_bd2 hb2
          have h2 := piB_n hbp'
          omega
        have c13 := whole_v (pileS s W (setS (z ++ [k]))) hsum
        have hokL' : okL ((z ++ [k]).map fun (j : Nat) => (j : Int)) := by
          intro y hy
          obtain ⟨j, hj, rfl⟩ := List.mem_map.1 hy
          have := hzm' j hj
          exact wf_i (by omega)
        have c14 := equal_v W W
        rw [decide_eq_true rfl] at c14
        generalize hp' : pileS s W (setS (z ++ [k])) = p' at *
        generalize pileS s W (setS z) = p at *
        generalize hx : pcAt s W k = x at *
        simp only [piD, piM, pcD] at c10 c11 c12 c13
        refine vwm_seq ?_
        refine vwm_of ?_
        repeat' (first | fail | fail | refine nzl ?_ | refine nzd ?_ | ((first | with_reducible refine vl_id ?_ | with_reducible refine vd_id ?_); first | refine cz (c10) ?_) | refine nzo ?_ | refine nc ?_ ?_ | (with_reducible intro _ <;> (try (exfalso; omega))) | refine vs_eqnil ?_ | refine vs_nenil ?_ | (refine nd ?_ ?_ <;> intro hg <;> (first | (exfalso; (try simp only [decide_eq_true_eq, decide_eq_false_iff_not] at hg); omega) | rw [hg])) | fail)
        refine thenM_n ?_
        refine vwm_seq ?_
        refine vwm_seq ?_
        refine vwm_region ?_
        refine vlm_op ?_
        repeat' (first | rw [hTT] | rw [hTT] | rw [hFF] | rw [hTF] | rw [hFT] | rw [h00] | fail | refine nzl ?_ | refine nzd ?_ | ((first | with_reducible refine vl_id ?_ | with_reducible refine vd_id ?_); first | fail) | refine nzo ?_ | refine nc ?_ ?_ | (with_reducible intro _ <;> (try (exfalso; omega))) | refine vs_eqnil ?_ | refine vs_nenil ?_ | (refine nd ?_ ?_ <;> intro hg <;> (first | (exfalso; (try simp only [decide_eq_true_eq, decide_eq_false_iff_not] at hg); omega) | rw [hg])) | fail)
        refine restM_n ?_
        refine vlm_op ?_
        repeat' (first | rw [hTT] | rw [hTT] | rw [hFF] | rw [hTF] | rw [hFT] | rw [h00] | fail | refine nzl ?_ | refine nzd ?_ | ((first | with_reducible refine vl_id ?_ | with_reducible refine vd_id ?_); first | fail) | refine nzo ?_ | refine nc ?_ ?_ | (with_reducible intro _ <;> (try (exfalso; omega))) | refine vs_eqnil ?_ | refine vs_nenil ?_ | (refine nd ?_ ?_ <;> intro hg <;> (first | (exfalso; (try simp only [decide_eq_true_eq, decide_eq_false_iff_not] at hg); omega) | rw [hg])) | fail)
        refine restM_n ?_
        refine vlm_op ?_
        repeat' (first | rw [hTT] | rw [hTT] | rw [hFF] | rw [hTF] | rw [hFT] | rw [h00] | fail | refine nzl ?_ | refine nzd ?_ | ((first | with_reducible refine vl_id ?_ | with_reducible refine vd_id ?_); first | fail) | refine nzo ?_ | refine nc ?_ ?_ | (with_reducible intro _ <;> (try (exfalso; omega))) | refine vs_eqnil ?_ | refine vs_nenil ?_ | (refine nd ?_ ?_ <;> intro hg <;> (first | (exfalso; (try simp only [decide_eq_true_eq, decide_eq_false_iff_not] at hg); omega) | rw [hg])) | fail)
        refine restM_n ?_
        refine vlm_look 0 ?_ hokL (if_neg hni) hwf
        refine vlm_op ?_
        repeat' (first | rw [hTT] | rw [hTT] | rw [hFF] | rw [hTF] | rw [hFT] | rw [h00] | fail | refine nzl ?_ | refine nzd ?_ | ((first | with_reducible refine vl_id ?_ | with_reducible refine vd_id ?_); first | fail) | refine nzo ?_ | refine nc ?_ ?_ | (with_reducible intro _ <;> (try (exfalso; omega))) | refine vs_eqnil ?_ | refine vs_nenil ?_ | (refine nd ?_ ?_ <;> intro hg <;> (first | (exfalso; (try simp only [decide_eq_true_eq, decide_eq_false_iff_not] at hg); omega) | rw [hg])) | fail)
        refine restM_n ?_
        refine vlm_nil ?_
        refine thenM_n ?_
        refine vwm_of ?_
        repeat' (first | fail | fail | refine nzl ?_ | refine nzd ?_ | ((first | with_reducible refine vl_id ?_ | with_reducible refine vd_id ?_); first | fail) | refine nzo ?_ | refine nc ?_ ?_ | (with_reducible intro _ <;> (try (exfalso; omega))) | refine vs_eqnil ?_ | refine vs_nenil ?_ | (refine nd ?_ ?_ <;> intro hg <;> (first | (exfalso; (try simp only [decide_eq_true_eq, decide_eq_false_iff_not] at hg); omega) | rw [hg])) | fail)
        all_goals try (first | exact absurd hg (by simp) | (rename_i hz; exact absurd rfl hz) | (exfalso; omega) | (rename_i hz; exact absurd hz (by decide)))
        refine thenM_n ?_
        refine vwm_seq ?_
        refine vwm_of ?_
        repeat' (first | fail | fail | refine nzl ?_ | refine nzd ?_ | ((first | with_reducible refine vl_id ?_ | with_reducible refine vd_id ?_); first | refine cz (c11) ?_) | refine nzo ?_ | refine nc ?_ ?_ | (with_reducible intro _ <;> (try (exfalso; omega))) | refine vs_eqnil ?_ | refine vs_nenil ?_ | (refine nd ?_ ?_ <;> intro hg <;> (first | (exfalso; (try simp only [decide_eq_true_eq, decide_eq_false_iff_not] at hg); omega) | rw [hg])) | fail)
        all_goals try (first | exact absurd hg (by simp) | (rename_i hz; exact absurd rfl hz) | (exfalso; omega) | (rename_i hz; exact absurd hz (by decide)))
        refine thenM_n ?_
        refine vwm_seq ?_
        refine vwm_sub ?_ (ga_put (s := s) (W := W) (T := T) (p := p) (p' := p') (x := x) (i := i) hokL hwf hni ?_)
        · exact (sub_z)
        refine thenM_n ?_
        rw [hL']
        rcases hends with ⟨hall, e1, e2⟩ | ⟨j, hj, hSj, e1, e2⟩
        · rw [e1] at c12
          rw [e2] at c13
          dsimp only at c12 c13
          have hd : decide ((((z ++ [k]).map fun (j : Nat) => (j : Int)).length : Int) < (((pcsOf s W).map pcN).length : Int)) = false := by
            rw [hpl, List.length_map]; have := hlt'.1 hall; exact decide_eq_false (by omega)
          refine vwm_seq ?_
          refine vwm_of ?_
          repeat' (first | fail | fail | refine nzl ?_ | refine nzd ?_ | ((first | with_reducible refine vl_id ?_ | with_reducible refine vd_id ?_); first | refine cz (c12) ?_) | refine nzo ?_ | refine nc ?_ ?_ | (with_reducible intro _ <;> (try (exfalso; omega))) | refine vs_eqnil ?_ | refine vs_nenil ?_ | (refine nd ?_ ?_ <;> intro hg <;> (first | (exfalso; (try simp only [decide_eq_true_eq, decide_eq_false_iff_not] at hg); omega) | rw [hg])) | fail)
          refine thenM_n ?_
          refine vwm_seq ?_
          refine vwm_of ?_
          repeat' (first | fail | fail | refine nzl ?_ | refine nzd ?_ | ((first | with_reducible refine vl_id ?_ | with_reducible refine vd_id ?_); first | refine cz (c13) ?_) | refine nzo ?_ | refine nc ?_ ?_ | (with_reducible intro _ <;> (try (exfalso; omega))) | refine vs_eqnil ?_ | refine vs_nenil ?_ | (refine nd ?_ ?_ <;> intro hg <;> (first | (exfalso; (try simp only [decide_eq_true_eq, decide_eq_false_iff_not] at hg); omega) | rw [hg])) | fail)
          refine thenM_n ?_
          refine vwm_seq ?_
          refine vwm_region ?_
          refine vlm_op ?_
          repeat' (first | rw [hd] | rw [hTT] | rw [hFF] | rw [hTF] | rw [hFT] | rw [h00] | fail | refine nzl ?_ | refine nzd ?_ | ((first | with_reducible refine vl_id ?_ | with_reducible refine vd_id ?_); first | refine cz (c14) ?_) | refine nzo ?_ | refine nc ?_ ?_ | (with_reducible intro _ <;> (try (exfalso; omega))) | refine vs_eqnil ?_ | refine vs_nenil ?_ | (refine nd ?_ ?_ <;> intro hg <;> (first | (exfalso; (try simp only [decide_eq_true_eq, decide_eq_false_iff_not] at hg); omega) | rw [hg])) | fail)
          refine restM_n ?_
          refine vlm_op ?_
          repeat' (first | rw [hd] | rw [hTT] | rw [hFF] | rw [hTF] | rw [hFT] | rw [h00] | fail | refine nzl ?_ | refine nzd ?_ | ((first | with_reducible refine vl_id ?_ | with_reducible refine vd_id ?_); first | refine cz (c14) ?_) | refine nzo ?_ | refine nc ?_ ?_ | (with_reducible intro _ <;> (try (exfalso; omega))) | refine vs_eqnil ?_ | refine vs_nenil ?_ | (refine nd ?_ ?_ <;> intro hg <;> (first | (exfalso; (try simp only [decide_eq_true_eq, decide_eq_false_iff_not] at hg); omega) | rw [hg])) | fail)
          refine restM_n ?_
          refine vlm_len ?_
          refine vlm_op ?_
          repeat' (first | rw [hd] | rw [hTT] | rw [hFF] | rw [hTF] | rw [hFT] | rw [h00] | fail | refine nzl ?_ | refine nzd ?_ | ((first | with_reducible refine vl_id ?_ | with_reducible refine vd_id ?_); first | refine cz (c14) ?_) | refine nzo ?_ | refine nc ?_ ?_ | (with_reducible intro _ <;> (try (exfalso; omega))) | refine vs_eqnil ?_ | refine vs_nenil ?_ | (refine nd ?_ ?_ <;> intro hg <;> (first | (exfalso; (try simp only [decide_eq_true_eq, decide_eq_false_iff_not] at hg); omega) | rw [hg])) | fail)
          refine restM_n ?_
          refine vlm_op ?_
          repeat' (first | rw [hd] | rw [hTT] | rw [hFF] | rw [hTF] | rw [hFT] | rw [h00] | fail | refine nzl ?_ | refine nzd ?_ | ((first | with_reducible refine vl_id ?_ | with_reducible refine vd_id ?_); first | refine cz (c14) ?_) | refine nzo ?_ | refine nc ?_ ?_ | (with_reducible intro _ <;> (try (exfalso; omega))) | refine vs_eqnil ?_ | refine vs_nenil ?_ | (refine nd ?_ ?_ <;> intro hg <;> (first | (exfalso; (try simp only [decide_eq_true_eq, decide_eq_false_iff_not] at hg); omega) | rw [hg])) | fail)
          refine restM_n ?_
          refine vlm_op ?_
          repeat' (first | rw [hd] | rw [hTT] | rw [hFF] | rw [hTF] | rw [hFT] | rw [h00] | fail | refine nzl ?_ | refine nzd ?_ | ((first | with_reducible refine vl_id ?_ | with_reducible refine vd_id ?_); first | refine cz (c14) ?_) | refine nzo ?_ | refine nc ?_ ?_ | (with_reducible intro _ <;> (try (exfalso; omega))) | refine vs_eqnil ?_ | refine vs_nenil ?_ | (refine nd ?_ ?_ <;> intro hg <;> (first | (exfalso; (try simp only [decide_eq_true_eq, decide_eq_false_iff_not] at hg); omega) | rw [hg])) | fail)
          refine restM_n ?_
          refine vlm_op ?_
          repeat' (first | rw [hd] | rw [hTT] | rw [hFF] | rw [hTF] | rw [hFT] | rw [h00] | fail | refine nzl ?_ | refine nzd ?_ | ((first | with_reducible refine vl_id ?_ | with_reducible refine vd_id ?_); first | refine cz (c14) ?_) | refine nzo ?_ | refine nc ?_ ?_ | (with_reducible intro _ <;> (try (exfalso; omega))) | refine vs_eqnil ?_ | refine vs_nenil ?_ | (refine nd ?_ ?_ <;> intro hg <;> (first | (exfalso; (try simp only [decide_eq_true_eq, decide_eq_false_iff_not] at hg); omega) | rw [hg])) | fail)
          refine restM_n ?_
          refine vlm_op ?_
          repeat' (first | rw [hd] | rw [hTT] | rw [hFF] | rw [hTF] | rw [hFT] | rw [h00] | fail | refine nzl ?_ | refine nzd ?_ | ((first | with_reducible refine vl_id ?_ | with_reducible refine vd_id ?_); first | refine cz (c14) ?_) | refine nzo ?_ | refine nc ?_ ?_ | (with_reducible intro _ <;> (try (exfalso; omega))) | refine vs_eqnil ?_ | refine vs_nenil ?_ | (refine nd ?_ ?_ <;> intro hg <;> (first | (exfalso; (try simp only [decide_eq_true_eq, decide_eq_false_iff_not] at hg); omega) | rw [hg])) | fail)
          refine restM_n ?_
          refine vlm_op ?_
          repeat' (first | rw [hd] | rw [hTT] | rw [hFF] | rw [hTF] | rw [hFT] | rw [h00] | fail | refine nzl ?_ | refine nzd ?_ | ((first | with_reducible refine vl_id ?_ | with_reducible refine vd_id ?_); first | refine cz (c14) ?_) | refine nzo ?_ | refine nc ?_ ?_ | (with_reducible intro _ <;> (try (exfalso; omega))) | refine vs_eqnil ?_ | refine vs_nenil ?_ | (refine nd ?_ ?_ <;> intro hg <;> (first | (exfalso; (try simp only [decide_eq_true_eq, decide_eq_false_iff_not] at hg); omega) | rw [hg])) | fail)
          refine restM_n ?_
          refine vlm_op ?_
          repeat' (first | rw [hd] | rw [hTT] | rw [hFF] | rw [hTF] | rw [hFT] | rw [h00] | fail | refine nzl ?_ | refine nzd ?_ | ((first | with_reducible refine vl_id ?_ | with_reducible refine vd_id ?_); first | refine cz (c14) ?_) | refine nzo ?_ | refine nc ?_ ?_ | (with_reducible intro _ <;> (try (exfalso; omega))) | refine vs_eqnil ?_ | refine vs_nenil ?_ | (refine nd ?_ ?_ <;> intro hg <;> (first | (exfalso; (try simp only [decide_eq_true_eq, decide_eq_false_iff_not] at hg); omega) | rw [hg])) | fail)
          refine restM_n ?_
          refine vlm_op ?_
          repeat' (first | rw [hd] | rw [hTT] | rw [hFF] | rw [hTF] | rw [hFT] | rw [h00] | fail | refine nzl ?_ | refine nzd ?_ | ((first | with_reducible refine vl_id ?_ | with_reducible refine vd_id ?_); first | refine cz (c14) ?_) | refine nzo ?_ | refine nc ?_ ?_ | (with_reducible intro _ <;> (try (exfalso; omega))) | refine vs_eqnil ?_ | refine vs_nenil ?_ | (refine nd ?_ ?_ <;> intro hg <;> (first | (exfalso; (try simp only [decide_eq_true_eq, decide_eq_false_iff_not] at hg); omega) | rw [hg])) | fail)
          refine restM_n ?_
          refine vlm_op ?_
          repeat' (first | rw [hd] | rw [hTT] | rw [hFF] | rw [hTF] | rw [hFT] | rw [h00] | fail | refine nzl ?_ | refine nzd ?_ | ((first | with_reducible refine vl_id ?_ | with_reducible refine vd_id ?_); first | refine cz (c14) ?_) | refine nzo ?_ | refine nc ?_ ?_ | (with_reducible intro _ <;> (try (exfalso; omega))) | refine vs_eqnil ?_ | refine vs_nenil ?_ | (refine nd ?_ ?_ <;> intro hg <;> (first | (exfalso; (try simp only [decide_eq_true_eq, decide_eq_false_iff_not] at hg); omega) | rw [hg])) | fail)
          refine restM_n ?_
          refine vlm_op ?_
          repeat' (first | rw [hd] | rw [hTT] | rw [hFF] | rw [hTF] | rw [hFT] | rw [h00] | fail | refine nzl ?_ | refine nzd ?_ | ((first | with_reducible refine vl_id ?_ | with_reducible refine vd_id ?_); first | refine cz (c14) ?_) | refine nzo ?_ | refine nc ?_ ?_ | (with_reducible intro _ <;> (try (exfalso; omega))) | refine vs_eqnil ?_ | refine vs_nenil ?_ | (refine nd ?_ ?_ <;> intro hg <;> (first | (exfalso; (try simp only [decide_eq_true_eq, decide_eq_false_iff_not] at hg); omega) | rw [hg])) | fail)
          refine restM_n ?_
          refine vlm_op ?_
          repeat' (first | rw [hd] | rw [hTT] | rw [hFF] | rw [hTF] | rw [hFT] | rw [h00] | fail | refine nzl ?_ | refine nzd ?_ | ((first | with_reducible refine vl_id ?_ | with_reducible refine vd_id ?_); first | refine cz (c14) ?_) | refine nzo ?_ | refine nc ?_ ?_ | (with_reducible intro _ <;> (try (exfalso; omega))) | refine vs_eqnil ?_ | refine vs_nenil ?_ | (refine nd ?_ ?_ <;> intro hg <;> (first | (exfalso; (try simp only [decide_eq_true_eq, decide_eq_false_iff_not] at hg); omega) | rw [hg])) | fail)
          refine restM_n ?_
          refine vlm_op ?_
          repeat' (first | rw [hd] | rw [hTT] | rw [hFF] | rw [hTF] | rw [hFT] | rw [h00] | fail | refine nzl ?_ | refine nzd ?_ | ((first | with_reducible refine vl_id ?_ | with_reducible refine vd_id ?_); first | refine cz (c14) ?_) | refine nzo ?_ | refine nc ?_ ?_ | (with_reducible intro _ <;> (try (exfalso; omega))) | refine vs_eqnil ?_ | refine vs_nenil ?_ | (refine nd ?_ ?_ <;> intro hg <;> (first | (exfalso; (try simp only [decide_eq_true_eq, decide_eq_false_iff_not] at hg); omega) | rw [hg])) | fail)
          refine restM_n ?_
          refine vlm_op ?_
          repeat' (first | rw [hd] | rw [hTT] | rw [hFF] | rw [hTF] | rw [hFT] | rw [h00] | fail | refine nzl ?_ | refine nzd ?_ | ((first | with_reducible refine vl_id ?_ | with_reducible refine vd_id ?_); first | refine cz (c14) ?_) | refine nzo ?_ | refine nc ?_ ?_ | (with_reducible intro _ <;> (try (exfalso; omega))) | refine vs_eqnil ?_ | refine vs_nenil ?_ | (refine nd ?_ ?_ <;> intro hg <;> (first | (exfalso; (try simp only [decide_eq_true_eq, decide_eq_false_iff_not] at hg); omega) | rw [hg])) | fail)
          refine restM_n ?_
          refine vlm_op ?_
          repeat' (first | rw [hd] | rw [hTT] | rw [hFF] | rw [hTF] | rw [hFT] | rw [h00] | fail | refine nzl ?_ | refine nzd ?_ | ((first | with_reducible refine vl_id ?_ | with_reducible refine vd_id ?_); first | refine cz (c14) ?_) | refine nzo ?_ | refine nc ?_ ?_ | (with_reducible intro _ <;> (try (exfalso; omega))) | refine vs_eqnil ?_ | refine vs_nenil ?_ | (refine nd ?_ ?_ <;> intro hg <;> (first | (exfalso; (try simp only [decide_eq_true_eq, decide_eq_false_iff_not] at hg); omega) | rw [hg])) | fail)
          refine restM_n ?_
          refine vlm_op ?_
          repeat' (first | rw [hd] | rw [hTT] | rw [hFF] | rw [hTF] | rw [hFT] | rw [h00] | fail | refine nzl ?_ | refine nzd ?_ | ((first | with_reducible refine vl_id ?_ | with_reducible refine vd_id ?_); first | refine cz (c14) ?_) | refine nzo ?_ | refine nc ?_ ?_ | (with_reducible intro _ <;> (try (exfalso; omega))) | refine vs_eqnil ?_ | refine vs_nenil ?_ | (refine nd ?_ ?_ <;> intro hg <;> (first | (exfalso; (try simp only [decide_eq_true_eq, decide_eq_false_iff_not] at hg); omega) | rw [hg])) | fail)
          refine restM_n ?_
          refine vlm_op ?_
          repeat' (first | rw [hd] | rw [hTT] | rw [hFF] | rw [hTF] | rw [hFT] | rw [h00] | fail | refine nzl ?_ | refine nzd ?_ | ((first | with_reducible refine vl_id ?_ | with_reducible refine vd_id ?_); first | refine cz (c14) ?_) | refine nzo ?_ | refine nc ?_ ?_ | (with_reducible intro _ <;> (try (exfalso; omega))) | refine vs_eqnil ?_ | refine vs_nenil ?_ | (refine nd ?_ ?_ <;> intro hg <;> (first | (exfalso; (try simp only [decide_eq_true_eq, decide_eq_false_iff_not] at hg); omega) | rw [hg])) | fail)
          refine restM_n ?_
          refine vlm_op ?_
          repeat' (first | rw [hd] | rw [hTT] | rw [hFF] | rw [hTF] | rw [hFT] | rw [h00] | fail | refine nzl ?_ | refine nzd ?_ | ((first | with_reducible refine vl_id ?_ | with_reducible refine vd_id ?_); first | refine cz (c14) ?_) | refine nzo ?_ | refine nc ?_ ?_ | (with_reducible intro _ <;> (try (exfalso; omega))) | refine vs_eqnil ?_ | refine vs_nenil ?_ | (refine nd ?_ ?_ <;> intro hg <;> (first | (exfalso; (try simp only [decide_eq_true_eq, decide_eq_false_iff_not] at hg); omega) | rw [hg])) | fail)
          refine restM_n ?_
          refine vlm_op ?_
          repeat' (first | rw [hd] | rw [hTT] | rw [hFF] | rw [hTF] | rw [hFT] | rw [h00] | fail | refine nzl ?_ | refine nzd ?_ | ((first | with_reducible refine vl_id ?_ | with_reducible refine vd_id ?_); first | refine cz (c14) ?_) | refine nzo ?_ | refine nc ?_ ?_ | (with_reducible intro _ <;> (try (exfalso; omega))) | refine vs_eqnil ?_ | refine vs_nenil ?_ | (refine nd ?_ ?_ <;> intro hg <;> (first | (exfalso; (try simp only [decide_eq_true_eq, decide_eq_false_iff_not] at hg); omega) | rw [hg])) | fail)
          refine restM_n ?_
          refine vlm_op ?_
          repeat' (first | rw [hd] | rw [hTT] | rw [hFF] | rw [hTF] | rw [hFT] | rw [h00] | fail | refine nzl ?_ | refine nzd ?_ | ((first | with_reducible refine vl_id ?_ | with_reducible refine vd_id ?_); first | refine cz (c14) ?_) | refine nzo ?_ | refine nc ?_ ?_ | (with_reducible intro _ <;> (try (exfalso; omega))) | refine vs_eqnil ?_ | refine vs_nenil ?_ | (refine nd ?_ ?_ <;> intro hg <;> (first | (exfalso; (try simp only [decide_eq_true_eq, decide_eq_false_iff_not] at hg); omega) | rw [hg])) | fail)
          refine restM_n ?_
          refine vlm_op ?_
          repeat' (first | rw [hd] | rw [hTT] | rw [hFF] | rw [hTF] | rw [hFT] | rw [h00] | fail | refine nzl ?_ | refine nzd ?_ | ((first | with_reducible refine vl_id ?_ | with_reducible refine vd_id ?_); first | refine cz (c14) ?_) | refine nzo ?_ | refine nc ?_ ?_ | (with_reducible intro _ <;> (try (exfalso; omega))) | refine vs_eqnil ?_ | refine vs_nenil ?_ | (refine nd ?_ ?_ <;> intro hg <;> (first | (exfalso; (try simp only [decide_eq_true_eq, decide_eq_false_iff_not] at hg); omega) | rw [hg])) | fail)
          refine restM_n ?_
          refine vlm_op ?_
          repeat' (first | rw [hd] | rw [hTT] | rw [hFF] | rw [hTF] | rw [hFT] | rw [h00] | fail | refine nzl ?_ | refine nzd ?_ | ((first | with_reducible refine vl_id ?_ | with_reducible refine vd_id ?_); first | refine cz (c14) ?_) | refine nzo ?_ | refine nc ?_ ?_ | (with_reducible intro _ <;> (try (exfalso; omega))) | refine vs_eqnil ?_ | refine vs_nenil ?_ | (refine nd ?_ ?_ <;> intro hg <;> (first | (exfalso; (try simp only [decide_eq_true_eq, decide_eq_false_iff_not] at hg); omega) | rw [hg])) | fail)
          refine restM_n ?_
          refine vlm_op ?_
          repeat' (first | rw [hd] | rw [hTT] | rw [hFF] | rw [hTF] | rw [hFT] | rw [h00] | fail | refine nzl ?_ | refine nzd ?_ | ((first | with_reducible refine vl_id ?_ | with_reducible refine vd_id ?_); first | refine cz (c14) ?_) | refine nzo ?_ | refine nc ?_ ?_ | (with_reducible intro _ <;> (try (exfalso; omega))) | refine vs_eqnil ?_ | refine vs_nenil ?_ | (refine nd ?_ ?_ <;> intro hg <;> (first | (exfalso; (try simp only [decide_eq_true_eq, decide_eq_false_iff_not] at hg); omega) | rw [hg])) | fail)
          refine restM_n ?_
          refine vlm_op ?_
          repeat' (first | rw [hd] | rw [hTT] | rw [hFF] | rw [hTF] | rw [hFT] | rw [h00] | fail | refine nzl ?_ | refine nzd ?_ | ((first | with_reducible refine vl_id ?_ | with_reducible refine vd_id ?_); first | refine cz (c14) ?_) | refine nzo ?_ | refine nc ?_ ?_ | (with_reducible intro _ <;> (try (exfalso; omega))) | refine vs_eqnil ?_ | refine vs_nenil ?_ | (refine nd ?_ ?_ <;> intro hg <;> (first | (exfalso; (try simp only [decide_eq_true_eq, decide_eq_false_iff_not] at hg); omega) | rw [hg])) | fail)
          refine restM_n ?_
          refine vlm_op ?_
          repeat' (first | rw [hd] | rw [hTT] | rw [hFF] | rw [hTF] | rw [hFT] | rw [h00] | fail | refine nzl ?_ | refine nzd ?_ | ((first | with_reducible refine vl_id ?_ | with_reducible refine vd_id ?_); first | refine cz (c14) ?_) | refine nzo ?_ | refine nc ?_ ?_ | (with_reducible intro _ <;> (try (exfalso; omega))) | refine vs_eqnil ?_ | refine vs_nenil ?_ | (refine nd ?_ ?_ <;> intro hg <;> (first | (exfalso; (try simp only [decide_eq_true_eq, decide_eq_false_iff_not] at hg); omega) | rw [hg])) | fail)
          refine restM_n ?_
          refine vlm_op ?_
          repeat' (first | rw [hd] | rw [hTT] | rw [hFF] | rw [hTF] | rw [hFT] | rw [h00] | fail | refine nzl ?_ | refine nzd ?_ | ((first | with_reducible refine vl_id ?_ | with_reducible refine vd_id ?_); first | refine cz (c14) ?_) | refine nzo ?_ | refine nc ?_ ?_ | (with_reducible intro _ <;> (try (exfalso; omega))) | refine vs_eqnil ?_ | refine vs_nenil ?_ | (refine nd ?_ ?_ <;> intro hg <;> (first | (exfalso; (try simp only [decide_eq_true_eq, decide_eq_false_iff_not] at hg); omega) | rw [hg])) | fail)
          refine restM_n ?_
          refine vlm_op ?_
          repeat' (first | rw [hd] | rw [hTT] | rw [hFF] | rw [hTF] | rw [hFT] | rw [h00] | fail | refine nzl ?_ | refine nzd ?_ | ((first | with_reducible refine vl_id ?_ | with_reducible refine vd_id ?_); first | refine cz (c14) ?_) | refine nzo ?_ | refine nc ?_ ?_ | (with_reducible intro _ <;> (try (exfalso; omega))) | refine vs_eqnil ?_ | refine vs_nenil ?_ | (refine nd ?_ ?_ <;> intro hg <;> (first | (exfalso; (try simp only [decide_eq_true_eq, decide_eq_false_iff_not] at hg); omega) | rw [hg])) | fail)
          refine restM_n ?_
          refine vlm_op ?_
          repeat' (first | rw [hd] | rw [hTT] | rw [hFF] | rw [hTF] | rw [hFT] | rw [h00] | fail | refine nzl ?_ | refine nzd ?_ | ((first | with_reducible refine vl_id ?_ | with_reducible refine vd_id ?_); first | refine cz (c14) ?_) | refine nzo ?_ | refine nc ?_ ?_ | (with_reducible intro _ <;> (try (exfalso; omega))) | refine vs_eqnil ?_ | refine vs_nenil ?_ | (refine nd ?_ ?_ <;> intro hg <;> (first | (exfalso; (try simp only [decide_eq_true_eq, decide_eq_false_iff_not] at hg); omega) | rw [hg])) | fail)
          refine restM_n ?_
          refine vlm_nil ?_
          refine thenM_n ?_
          refine vwm_of ?_
          repeat' (first | fail | fail | refine nzl ?_ | refine nzd ?_ | ((first | with_reducible refine vl_id ?_ | with_reducible refine vd_id ?_); first | fail) | refine nzo ?_ | refine nc ?_ ?_ | (with_reducible intro _ <;> (try (exfalso; omega))) | refine vs_eqnil ?_ | refine vs_nenil ?_ | (refine nd ?_ ?_ <;> intro hg <;> (first | (exfalso; (try simp only [decide_eq_true_eq, decide_eq_false_iff_not] at hg); omega) | rw [hg])) | fail)
          all_goals try (first | exact absurd hg (by simp) | (rename_i hz; exact absurd rfl hz) | (exfalso; omega) | (rename_i hz; exact absurd hz (by decide)))
          change VWm _ _ _ _ _ _ _
          refine vwm_of ?_
          repeat' (first | fail | fail | refine nzl ?_ | refine nzd ?_ | ((first | with_reducible refine vl_id ?_ | with_reducible refine vd_id ?_); first | fail) | refine nzo ?_ | refine nc ?_ ?_ | (with_reducible intro _ <;> (try (exfalso; omega))) | refine vs_eqnil ?_ | refine vs_nenil ?_ | (refine nd ?_ ?_ <;> intro hg <;> (first | (exfalso; (try simp only [decide_eq_true_eq, decide_eq_false_iff_not] at hg); omega) | rw [hg])) | fail)
          exact ⟨(i + 1, z ++ [k]), ⟨by simp only; omega, hnd', hzm', hzl'⟩, by simp only; omega, by simp only [hp']; exact (sub_z), rfl⟩
        · rw [e1] at c12
          rw [e2] at c13
          dsimp only at c12 c13
          have hd : decide ((((z ++ [k]).map fun (j : Nat) => (j : Int)).length : Int) < (((pcsOf s W).map pcN).length : Int)) = true := by
            rw [hpl, List.length_map]; have := hlt'.2 ⟨j, hj, hSj⟩; exact decide_eq_true (by omega)
          have hjn : ((j : Nat) : Int) ∉ (z ++ [k]).map fun (j : Nat) => (j : Int) := by
            intro hm; obtain ⟨j', hj', e⟩ := List.mem_map.1 hm
            have : j' = j := by omega
            subst this
            simp only [setS, decide_eq_false_iff_not] at hSj
            exact hSj hj'
          have hjw : (Lit.int .i64 ((j : Nat) : Int)).wf = true := wf_i (by omega)
          refine vwm_seq ?_
          refine vwm_of ?_
          repeat' (first | fail | fail | refine nzl ?_ | refine nzd ?_ | ((first | with_reducible refine vl_id ?_ | with_reducible refine vd_id ?_); first | refine cz (c12) ?_) | refine nzo ?_ | refine nc ?_ ?_ | (with_reducible intro _ <;> (try (exfalso; omega))) | refine vs_eqnil ?_ | refine vs_nenil ?_ | (refine nd ?_ ?_ <;> intro hg <;> (first | (exfalso; (try simp only [decide_eq_true_eq, decide_eq_false_iff_not] at hg); omega) | rw [hg])) | fail)
          refine thenM_n ?_
          refine vwm_seq ?_
          refine vwm_of ?_
          repeat' (first | fail | fail | refine nzl ?_ | refine nzd ?_ | ((first | with_reducible refine vl_id ?_ | with_reducible refine vd_id ?_); first | refine cz (c13) ?_) | refine nzo ?_ | refine nc ?_ ?_ | (with_reducible intro _ <;> (try (exfalso; omega))) | refine vs_eqnil ?_ | refine vs_nenil ?_ | (refine nd ?_ ?_ <;> intro hg <;> (first | (exfalso; (try simp only [decide_eq_true_eq, decide_eq_false_iff_not] at hg); omega) | rw [hg])) | fail)
          refine thenM_n ?_
          refine vwm_seq ?_
          refine vwm_region ?_
          refine vlm_op ?_
          repeat' (first | rw [hd] | rw [hTT] | rw [hFF] | rw [hTF] | rw [hFT] | rw [h00] | fail | refine nzl ?_ | refine nzd ?_ | ((first | with_reducible refine vl_id ?_ | with_reducible refine vd_id ?_); first | refine cz (c14) ?_) | refine nzo ?_ | refine nc ?_ ?_ | (with_reducible intro _ <;> (try (exfalso; omega))) | refine vs_eqnil ?_ | refine vs_nenil ?_ | (refine nd ?_ ?_ <;> intro hg <;> (first | (exfalso; (try simp only [decide_eq_true_eq, decide_eq_false_iff_not] at hg); omega) | rw [hg])) | fail)
          refine restM_n ?_
          refine vlm_op ?_
          repeat' (first | rw [hd] | rw [hTT] | rw [hFF] | rw [hTF] | rw [hFT] | rw [h00] | fail | refine nzl ?_ | refine nzd ?_ | ((first | with_reducible refine vl_id ?_ | with_reducible refine vd_id ?_); first | refine cz (c14) ?_) | refine nzo ?_ | refine nc ?_ ?_ | (with_reducible intro _ <;> (try (exfalso; omega))) | refine vs_eqnil ?_ | refine vs_nenil ?_ | (refine nd ?_ ?_ <;> intro hg <;> (first | (exfalso; (try simp only [decide_eq_true_eq, decide_eq_false_iff_not] at hg); omega) | rw [hg])) | fail)
          refine restM_n ?_
          refine vlm_len ?_
          refine vlm_op ?_
          repeat' (first | rw [hd] | rw [hTT] | rw [hFF] | rw [hTF] | rw [hFT] | rw [h00] | fail | refine nzl ?_ | refine nzd ?_ | ((first | with_reducible refine vl_id ?_ | with_reducible refine vd_id ?_); first | refine cz (c14) ?_) | refine nzo ?_ | refine nc ?_ ?_ | (with_reducible intro _ <;> (try (exfalso; omega))) | refine vs_eqnil ?_ | refine vs_nenil ?_ | (refine nd ?_ ?_ <;> intro hg <;> (first | (exfalso; (try simp only [decide_eq_true_eq, decide_eq_false_iff_not] at hg); omega) | rw [hg])) | fail)
          refine restM_n ?_
          refine vlm_op ?_
          repeat' (first | rw [hd] | rw [hTT] | rw [hFF] | rw [hTF] | rw [hFT] | rw [h00] | fail | refine nzl ?_ | refine nzd ?_ | ((first | with_reducible refine vl_id ?_ | with_reducible refine vd_id ?_); first | refine cz (c14) ?_) | refine nzo ?_ | refine nc ?_ ?_ | (with_reducible intro _ <;> (try (exfalso; omega))) | refine vs_eqnil ?_ | refine vs_nenil ?_ | (refine nd ?_ ?_ <;> intro hg <;> (first | (exfalso; (try simp only [decide_eq_true_eq, decide_eq_false_iff_not] at hg); omega) | rw [hg])) | fail)
          refine restM_n ?_
          refine vlm_op ?_
          repeat' (first | rw [hd] | rw [hTT] | rw [hFF] | rw [hTF] | rw [hFT] | rw [h00] | fail | refine nzl ?_ | refine nzd ?_ | ((first | with_reducible refine vl_id ?_ | with_reducible refine vd_id ?_); first | refine cz (c14) ?_) | refine nzo ?_ | refine nc ?_ ?_ | (with_reducible intro _ <;> (try (exfalso; omega))) | refine vs_eqnil ?_ | refine vs_nenil ?_ | (refine nd ?_ ?_ <;> intro hg <;> (first | (exfalso; (try simp only [decide_eq_true_eq, decide_eq_false_iff_not] at hg); omega) | rw [hg])) | fail)
          refine restM_n ?_
          refine vlm_op ?_
          repeat' (first | rw [hd] | rw [hTT] | rw [hFF] | rw [hTF] | rw [hFT] | rw [h00] | fail | refine nzl ?_ | refine nzd ?_ | ((first | with_reducible refine vl_id ?_ | with_reducible refine vd_id ?_); first | refine cz (c14) ?_) | refine nzo ?_ | refine nc ?_ ?_ | (with_reducible intro _ <;> (try (exfalso; omega))) | refine vs_eqnil ?_ | refine vs_nenil ?_ | (refine nd ?_ ?_ <;> intro hg <;> (first | (exfalso; (try simp only [decide_eq_true_eq, decide_eq_false_iff_not] at hg); omega) | rw [hg])) | fail)
          refine restM_n ?_
          refine vlm_op ?_
          repeat' (first | rw [hd] | rw [hTT] | rw [hFF] | rw [hTF] | rw [hFT] | rw [h00] | fail | refine nzl ?_ | refine nzd ?_ | ((first | with_reducible refine vl_id ?_ | with_reducible refine vd_id ?_); first | refine cz (c14) ?_) | refine nzo ?_ | refine nc ?_ ?_ | (with_reducible intro _ <;> (try (exfalso; omega))) | refine vs_eqnil ?_ | refine vs_nenil ?_ | (refine nd ?_ ?_ <;> intro hg <;> (first | (exfalso; (try simp only [decide_eq_true_eq, decide_eq_false_iff_not] at hg); omega) | rw [hg])) | fail)
          refine restM_n ?_
          refine vlm_op ?_
          repeat' (first | rw [hd] | rw [hTT] | rw [hFF] | rw [hTF] | rw [hFT] | rw [h00] | fail | refine nzl ?_ | refine nzd ?_ | ((first | with_reducible refine vl_id ?_ | with_reducible refine vd_id ?_); first | refine cz (c14) ?_) | refine nzo ?_ | refine nc ?_ ?_ | (with_reducible intro _ <;> (try (exfalso; omega))) | refine vs_eqnil ?_ | refine vs_nenil ?_ | (refine nd ?_ ?_ <;> intro hg <;> (first | (exfalso; (try simp only [decide_eq_true_eq, decide_eq_false_iff_not] at hg); omega) | rw [hg])) | fail)
          refine restM_n ?_
          refine vlm_op ?_
          repeat' (first | rw [hd] | rw [hTT] | rw [hFF] | rw [hTF] | rw [hFT] | rw [h00] | fail | refine nzl ?_ | refine nzd ?_ | ((first | with_reducible refine vl_id ?_ | with_reducible refine vd_id ?_); first | refine cz (c14) ?_) | refine nzo ?_ | refine nc ?_ ?_ | (with_reducible intro _ <;> (try (exfalso; omega))) | refine vs_eqnil ?_ | refine vs_nenil ?_ | (refine nd ?_ ?_ <;> intro hg <;> (first | (exfalso; (try simp only [decide_eq_true_eq, decide_eq_false_iff_not] at hg); omega) | rw [hg])) | fail)
          refine restM_n ?_
          refine vlm_op ?_
          repeat' (first | rw [hd] | rw [hTT] | rw [hFF] | rw [hTF] | rw [hFT] | rw [h00] | fail | refine nzl ?_ | refine nzd ?_ | ((first | with_reducible refine vl_id ?_ | with_reducible refine vd_id ?_); first | refine cz (c14) ?_) | refine nzo ?_ | refine nc ?_ ?_ | (with_reducible intro _ <;> (try (exfalso; omega))) | refine vs_eqnil ?_ | refine vs_nenil ?_ | (refine nd ?_ ?_ <;> intro hg <;> (first | (exfalso; (try simp only [decide_eq_true_eq, decide_eq_false_iff_not] at hg); omega) | rw [hg])) | fail)
          refine restM_n ?_
          refine vlm_op ?_
          repeat' (first | rw [hd] | rw [hTT] | rw [hFF] | rw [hTF] | rw [hFT] | rw [h00] | fail | refine nzl ?_ | refine nzd ?_ | ((first | with_reducible refine vl_id ?_ | with_reducible refine vd_id ?_); first | refine cz (c14) ?_) | refine nzo ?_ | refine nc ?_ ?_ | (with_reducible intro _ <;> (try (exfalso; omega))) | refine vs_eqnil ?_ | refine vs_nenil ?_ | (refine nd ?_ ?_ <;> intro hg <;> (first | (exfalso; (try simp only [decide_eq_true_eq, decide_eq_false_iff_not] at hg); omega) | rw [hg])) | fail)
          refine restM_n ?_
          refine vlm_op ?_
          repeat' (first | rw [hd] | rw [hTT] | rw [hFF] | rw [hTF] | rw [hFT] | rw [h00] | fail | refine nzl ?_ | refine nzd ?_ | ((first | with_reducible refine vl_id ?_ | with_reducible refine vd_id ?_); first | refine cz (c14) ?_) | refine nzo ?_ | refine nc ?_ ?_ | (with_reducible intro _ <;> (try (exfalso; omega))) | refine vs_eqnil ?_ | refine vs_nenil ?_ | (refine nd ?_ ?_ <;> intro hg <;> (first | (exfalso; (try simp only [decide_eq_true_eq, decide_eq_false_iff_not] at hg); omega) | rw [hg])) | fail)
          refine restM_n ?_
          refine vlm_op ?_
          repeat' (first | rw [hd] | rw [hTT] | rw [hFF] | rw [hTF] | rw [hFT] | rw [h00] | fail | refine nzl ?_ | refine nzd ?_ | ((first | with_reducible refine vl_id ?_ | with_reducible refine vd_id ?_); first | refine cz (c14) ?_) | refine nzo ?_ | refine nc ?_ ?_ | (with_reducible intro _ <;> (try (exfalso; omega))) | refine vs_eqnil ?_ | refine vs_nenil ?_ | (refine nd ?_ ?_ <;> intro hg <;> (first | (exfalso; (try simp only [decide_eq_true_eq, decide_eq_false_iff_not] at hg); omega) | rw [hg])) | fail)
          refine restM_n ?_
          refine vlm_op ?_
          repeat' (first | rw [hd] | rw [hTT] | rw [hFF] | rw [hTF] | rw [hFT] | rw [h00] | fail | refine nzl ?_ | refine nzd ?_ | ((first | with_reducible refine vl_id ?_ | with_reducible refine vd_id ?_); first | refine cz (c14) ?_) | refine nzo ?_ | refine nc ?_ ?_ | (with_reducible intro _ <;> (try (exfalso; omega))) | refine vs_eqnil ?_ | refine vs_nenil ?_ | (refine nd ?_ ?_ <;> intro hg <;> (first | (exfalso; (try simp only [decide_eq_true_eq, decide_eq_false_iff_not] at hg); omega) | rw [hg])) | fail)
          refine restM_n ?_
          refine vlm_op ?_
          repeat' (first | rw [hd] | rw [hTT] | rw [hFF] | rw [hTF] | rw [hFT] | rw [h00] | fail | refine nzl ?_ | refine nzd ?_ | ((first | with_reducible refine vl_id ?_ | with_reducible refine vd_id ?_); first | refine cz (c14) ?_) | refine nzo ?_ | refine nc ?_ ?_ | (with_reducible intro _ <;> (try (exfalso; omega))) | refine vs_eqnil ?_ | refine vs_nenil ?_ | (refine nd ?_ ?_ <;> intro hg <;> (first | (exfalso; (try simp only [decide_eq_true_eq, decide_eq_false_iff_not] at hg); omega) | rw [hg])) | fail)
          refine restM_n ?_
          refine vlm_op ?_
          repeat' (first | rw [hd] | rw [hTT] | rw [hFF] | rw [hTF] | rw [hFT] | rw [h00] | fail | refine nzl ?_ | refine nzd ?_ | ((first | with_reducible refine vl_id ?_ | with_reducible refine vd_id ?_); first | refine cz (c14) ?_) | refine nzo ?_ | refine nc ?_ ?_ | (with_reducible intro _ <;> (try (exfalso; omega))) | refine vs_eqnil ?_ | refine vs_nenil ?_ | (refine nd ?_ ?_ <;> intro hg <;> (first | (exfalso; (try simp only [decide_eq_true_eq, decide_eq_false_iff_not] at hg); omega) | rw [hg])) | fail)
          refine restM_n ?_
          refine vlm_look 0 ?_ hokL' (if_neg hjn) hjw
          refine vlm_op ?_
          repeat' (first | rw [hd] | rw [hTT] | rw [hFF] | rw [hTF] | rw [hFT] | rw [h00] | fail | refine nzl ?_ | refine nzd ?_ | ((first | with_reducible refine vl_id ?_ | with_reducible refine vd_id ?_); first | refine cz (c14) ?_) | refine nzo ?_ | refine nc ?_ ?_ | (with_reducible intro _ <;> (try (exfalso; omega))) | refine vs_eqnil ?_ | refine vs_nenil ?_ | (refine nd ?_ ?_ <;> intro hg <;> (first | (exfalso; (try simp only [decide_eq_true_eq, decide_eq_false_iff_not] at hg); omega) | rw [hg])) | fail)
          refine restM_n ?_
          refine vlm_op ?_
          repeat' (first | rw [hd] | rw [hTT] | rw [hFF] | rw [hTF] | rw [hFT] | rw [h00] | fail | refine nzl ?_ | refine nzd ?_ | ((first | with_reducible refine vl_id ?_ | with_reducible refine vd_id ?_); first | refine cz (c14) ?_) | refine nzo ?_ | refine nc ?_ ?_ | (with_reducible intro _ <;> (try (exfalso; omega))) | refine vs_eqnil ?_ | refine vs_nenil ?_ | (refine nd ?_ ?_ <;> intro hg <;> (first | (exfalso; (try simp only [decide_eq_true_eq, decide_eq_false_iff_not] at hg); omega) | rw [hg])) | fail)
          refine restM_n ?_
          refine vlm_op ?_
          repeat' (first | rw [hd] | rw [hTT] | rw [hFF] | rw [hTF] | rw [hFT] | rw [h00] | fail | refine nzl ?_ | refine nzd ?_ | ((first | with_reducible refine vl_id ?_ | with_reducible refine vd_id ?_); first | refine cz (c14) ?_) | refine nzo ?_ | refine nc ?_ ?_ | (with_reducible intro _ <;> (try (exfalso; omega))) | refine vs_eqnil ?_ | refine vs_nenil ?_ | (refine nd ?_ ?_ <;> intro hg <;> (first | (exfalso; (try simp only [decide_eq_true_eq, decide_eq_false_iff_not] at hg); omega) | rw [hg])) | fail)
          refine restM_n ?_
          refine vlm_op ?_
          repeat' (first | rw [hd] | rw [hTT] | rw [hFF] | rw [hTF] | rw [hFT] | rw [h00] | fail | refine nzl ?_ | refine nzd ?_ | ((first | with_reducible refine vl_id ?_ | with_reducible refine vd_id ?_); first | refine cz (c14) ?_) | refine nzo ?_ | refine nc ?_ ?_ | (with_reducible intro _ <;> (try (exfalso; omega))) | refine vs_eqnil ?_ | refine vs_nenil ?_ | (refine nd ?_ ?_ <;> intro hg <;> (first | (exfalso; (try simp only [decide_eq_true_eq, decide_eq_false_iff_not] at hg); omega) | rw [hg])) | fail)
          refine restM_n ?_
          refine vlm_op ?_
          repeat' (first | rw [hd] | rw [hTT] | rw [hFF] | rw [hTF] | rw [hFT] | rw [h00] | fail | refine nzl ?_ | refine nzd ?_ | ((first | with_reducible refine vl_id ?_ | with_reducible refine vd_id ?_); first | refine cz (c14) ?_) | refine nzo ?_ | refine nc ?_ ?_ | (with_reducible intro _ <;> (try (exfalso; omega))) | refine vs_eqnil ?_ | refine vs_nenil ?_ | (refine nd ?_ ?_ <;> intro hg <;> (first | (exfalso; (try simp only [decide_eq_true_eq, decide_eq_false_iff_not] at hg); omega) | rw [hg])) | fail)
          refine restM_n ?_
          refine vlm_op ?_
          repeat' (first | rw [hd] | rw [hTT] | rw [hFF] | rw [hTF] | rw [hFT] | rw [h00] | fail | refine nzl ?_ | refine nzd ?_ | ((first | with_reducible refine vl_id ?_ | with_reducible refine vd_id ?_); first | refine cz (c14) ?_) | refine nzo ?_ | refine nc ?_ ?_ | (with_reducible intro _ <;> (try (exfalso; omega))) | refine vs_eqnil ?_ | refine vs_nenil ?_ | (refine nd ?_ ?_ <;> intro hg <;> (first | (exfalso; (try simp only [decide_eq_true_eq, decide_eq_false_iff_not] at hg); omega) | rw [hg])) | fail)
          refine restM_n ?_
          refine vlm_op ?_
          repeat' (first | rw [hd] | rw [hTT] | rw [hFF] | rw [hTF] | rw [hFT] | rw [h00] | fail | refine nzl ?_ | refine nzd ?_ | ((first | with_reducible refine vl_id ?_ | with_reducible refine vd_id ?_); first | refine cz (c14) ?_) | refine nzo ?_ | refine nc ?_ ?_ | (with_reducible intro _ <;> (try (exfalso; omega))) | refine vs_eqnil ?_ | refine vs_nenil ?_ | (refine nd ?_ ?_ <;> intro hg <;> (first | (exfalso; (try simp only [decide_eq_true_eq, decide_eq_false_iff_not] at hg); omega) | rw [hg])) | fail)
          refine restM_n ?_
          refine vlm_op ?_
          repeat' (first | rw [hd] | rw [hTT] | rw [hFF] | rw [hTF] | rw [hFT] | rw [h00] | fail | refine nzl ?_ | refine nzd ?_ | ((first | with_reducible refine vl_id ?_ | with_reducible refine vd_id ?_); first | refine cz (c14) ?_) | refine nzo ?_ | refine nc ?_ ?_ | (with_reducible intro _ <;> (try (exfalso; omega))) | refine vs_eqnil ?_ | refine vs_nenil ?_ | (refine nd ?_ ?_ <;> intro hg <;> (first | (exfalso; (try simp only [decide_eq_true_eq, decide_eq_false_iff_not] at hg); omega) | rw [hg])) | fail)
          refine restM_n ?_
          refine vlm_op ?_
          repeat' (first | rw [hd] | rw [hTT] | rw [hFF] | rw [hTF] | rw [hFT] | rw [h00] | fail | refine nzl ?_ | refine nzd ?_ | ((first | with_reducible refine vl_id ?_ | with_reducible refine vd_id ?_); first | refine cz (c14) ?_) | refine nzo ?_ | refine nc ?_ ?_ | (with_reducible intro _ <;> (try (exfalso; omega))) | refine vs_eqnil ?_ | refine vs_nenil ?_ | (refine nd ?_ ?_ <;> intro hg <;> (first | (exfalso; (try simp only [decide_eq_true_eq, decide_eq_false_iff_not] at hg); omega) | rw [hg])) | fail)
          refine restM_n ?_
          refine vlm_op ?_
          repeat' (first | rw [hd] | rw [hTT] | rw [hFF] | rw [hTF] | rw [hFT] | rw [h00] | fail | refine nzl ?_ | refine nzd ?_ | ((first | with_reducible refine vl_id ?_ | with_reducible refine vd_id ?_); first | refine cz (c14) ?_) | refine nzo ?_ | refine nc ?_ ?_ | (with_reducible intro _ <;> (try (exfalso; omega))) | refine vs_eqnil ?_ | refine vs_nenil ?_ | (refine nd ?_ ?_ <;> intro hg <;> (first | (exfalso; (try simp only [decide_eq_true_eq, decide_eq_false_iff_not] at hg); omega) | rw [hg])) | fail)
          refine restM_n ?_
          refine vlm_op ?_
          repeat' (first | rw [hd] | rw [hTT] | rw [hFF] | rw [hTF] | rw [hFT] | rw [h00] | fail | refine nzl ?_ | refine nzd ?_ | ((first | with_reducible refine vl_id ?_ | with_reducible refine vd_id ?_); first | refine cz (c14) ?_) | refine nzo ?_ | refine nc ?_ ?_ | (with_reducible intro _ <;> (try (exfalso; omega))) | refine vs_eqnil ?_ | refine vs_nenil ?_ | (refine nd ?_ ?_ <;> intro hg <;> (first | (exfalso; (try simp only [decide_eq_true_eq, decide_eq_false_iff_not] at hg); omega) | rw [hg])) | fail)
          refine restM_n ?_
          refine vlm_op ?_
          repeat' (first | rw [hd] | rw [hTT] | rw [hFF] | rw [hTF] | rw [hFT] | rw [h00] | fail | refine nzl ?_ | refine nzd ?_ | ((first | with_reducible refine vl_id ?_ | with_reducible refine vd_id ?_); first | refine cz (c14) ?_) | refine nzo ?_ | refine nc ?_ ?_ | (with_reducible intro _ <;> (try (exfalso; omega))) | refine vs_eqnil ?_ | refine vs_nenil ?_ | (refine nd ?_ ?_ <;> intro hg <;> (first | (exfalso; (try simp only [decide_eq_true_eq, decide_eq_false_iff_not] at hg); omega) | rw [hg])) | fail)
          refine restM_n ?_
          refine vlm_nil ?_
          refine thenM_n ?_
          refine vwm_of ?_
          repeat' (first | fail | fail | refine nzl ?_ | refine nzd ?_ | ((first | with_reducible refine vl_id ?_ | with_reducible refine vd_id ?_); first | fail) | refine nzo ?_ | refine nc ?_ ?_ | (with_reducible intro _ <;> (try (exfalso; omega))) | refine vs_eqnil ?_ | refine vs_nenil ?_ | (refine nd ?_ ?_ <;> intro hg <;> (first | (exfalso; (try simp only [decide_eq_true_eq, decide_eq_false_iff_not] at hg); omega) | rw [hg])) | fail)
          all_goals try (first | exact absurd hg (by simp) | (rename_i hz; exact absurd rfl hz) | (exfalso; omega) | (rename_i hz; exact absurd hz (by decide)))
          change VWm _ _ _ _ _ _ _
          refine vwm_of ?_
          repeat' (first | fail | fail | refine nzl ?_ | refine nzd ?_ | ((first | with_reducible refine vl_id ?_ | with_reducible refine vd_id ?_); first | fail) | refine nzo ?_ | refine nc ?_ ?_ | (with_reducible intro _ <;> (try (exfalso; omega))) | refine vs_eqnil ?_ | refine vs_nenil ?_ | (refine nd ?_ ?_ <;> intro hg <;> (first | (exfalso; (try simp only [decide_eq_true_eq, decide_eq_false_iff_not] at hg); omega) | rw [hg])) | fail)
          exact ⟨(i + 1, z ++ [k]), ⟨by simp only; omega, hnd', hzm', hzl'⟩, by simp only; omega, by simp only [hp']; exact (sub_z), rfl⟩
    · have hlt : ¬ (i : Int) < ((T.map fun n => [i64D n]).length : Int) := by rw [hTm]; omega
      have hb1 : ∀ y ∈ (pileS s W (setS z)).parts, y.length ≤ 256 := pile_le
      obtain ⟨P, g1, g2, g3⟩ := gather_S hn hm h0 hnd hzm
      have hpn : (pcsOf s W).length ≤ 64 := by simpa [pcsOf] using hm
      have c20 := puts_v (pileS s W (setS z)) (pcsOf s W) (fun y hy => by have := hb1 y hy; omega) (by omega)
      rw [g1] at c20
      have c21 := whole_v P (by rw [sumL, g3]; omega)
      rw [g2] at c21
      have c14 := equal_v W W
      rw [decide_eq_true rfl] at c14
      have hzl2 : (((z.map fun (j : Nat) => (j : Int)).length : Nat) : Int) = z.length := by rw [List.length_map]
      generalize pileS s W (setS z) = p at *
      simp only [piD, piM] at c20 c21
      refine vwm_seq ?_
      refine vwm_of ?_
      repeat' (first | fail | fail | refine nzl ?_ | refine nzd ?_ | ((first | with_reducible refine vl_id ?_ | with_reducible refine vd_id ?_); first | fail) | refine nzo ?_ | refine nc ?_ ?_ | (with_reducible intro _ <;> (try (exfalso; omega))) | refine vs_eqnil ?_ | refine vs_nenil ?_ | (refine nd ?_ ?_ <;> intro hg <;> (first | (exfalso; (try simp only [decide_eq_true_eq, decide_eq_false_iff_not] at hg); omega) | rw [hg])) | fail)
      refine thenM_n ?_
      refine vwm_seq ?_
      refine vwm_of ?_
      repeat' (first | fail | fail | refine nzl ?_ | refine nzd ?_ | ((first | with_reducible refine vl_id ?_ | with_reducible refine vd_id ?_); first | fail) | refine nzo ?_ | refine nc ?_ ?_ | (with_reducible intro _ <;> (try (exfalso; omega))) | refine vs_eqnil ?_ | refine vs_nenil ?_ | (refine nd ?_ ?_ <;> intro hg <;> (first | (exfalso; (try simp only [decide_eq_true_eq, decide_eq_false_iff_not] at hg); omega) | rw [hg])) | fail)
      change VWm _ _ _ _ _ _ _
      refine vwm_seq ?_
      refine vwm_of ?_
      repeat' (first | fail | fail | refine nzl ?_ | refine nzd ?_ | ((first | with_reducible refine vl_id ?_ | with_reducible refine vd_id ?_); first | refine cz (c20) ?_) | refine nzo ?_ | refine nc ?_ ?_ | (with_reducible intro _ <;> (try (exfalso; omega))) | refine vs_eqnil ?_ | refine vs_nenil ?_ | (refine nd ?_ ?_ <;> intro hg <;> (first | (exfalso; (try simp only [decide_eq_true_eq, decide_eq_false_iff_not] at hg); omega) | rw [hg])) | fail)
      refine thenM_n ?_
      refine vwm_seq ?_
      refine vwm_of ?_
      repeat' (first | fail | fail | refine nzl ?_ | refine nzd ?_ | ((first | with_reducible refine vl_id ?_ | with_reducible refine vd_id ?_); first | refine cz (c21) ?_) | refine nzo ?_ | refine nc ?_ ?_ | (with_reducible intro _ <;> (try (exfalso; omega))) | refine vs_eqnil ?_ | refine vs_nenil ?_ | (refine nd ?_ ?_ <;> intro hg <;> (first | (exfalso; (try simp only [decide_eq_true_eq, decide_eq_false_iff_not] at hg); omega) | rw [hg])) | fail)
      refine thenM_n ?_
      refine vwm_seq ?_
      refine vwm_region ?_
      refine vlm_op ?_
      repeat' (first | rw [hzl2] | rw [hTT] | rw [hFF] | rw [hTF] | rw [hFT] | rw [h00] | fail | refine nzl ?_ | refine nzd ?_ | ((first | with_reducible refine vl_id ?_ | with_reducible refine vd_id ?_); first | refine cz (c14) ?_) | refine nzo ?_ | refine nc ?_ ?_ | (with_reducible intro _ <;> (try (exfalso; omega))) | refine vs_eqnil ?_ | refine vs_nenil ?_ | (refine nd ?_ ?_ <;> intro hg <;> (first | (exfalso; (try simp only [decide_eq_true_eq, decide_eq_false_iff_not] at hg); omega) | rw [hg])) | fail)
      refine restM_n ?_
      refine vlm_op ?_
      repeat' (first | rw [hzl2] | rw [hTT] | rw [hFF] | rw [hTF] | rw [hFT] | rw [h00] | fail | refine nzl ?_ | refine nzd ?_ | ((first | with_reducible refine vl_id ?_ | with_reducible refine vd_id ?_); first | refine cz (c14) ?_) | refine nzo ?_ | refine nc ?_ ?_ | (with_reducible intro _ <;> (try (exfalso; omega))) | refine vs_eqnil ?_ | refine vs_nenil ?_ | (refine nd ?_ ?_ <;> intro hg <;> (first | (exfalso; (try simp only [decide_eq_true_eq, decide_eq_false_iff_not] at hg); omega) | rw [hg])) | fail)
      refine restM_n ?_
      refine vlm_op ?_
      repeat' (first | rw [hzl2] | rw [hTT] | rw [hFF] | rw [hTF] | rw [hFT] | rw [h00] | fail | refine nzl ?_ | refine nzd ?_ | ((first | with_reducible refine vl_id ?_ | with_reducible refine vd_id ?_); first | refine cz (c14) ?_) | refine nzo ?_ | refine nc ?_ ?_ | (with_reducible intro _ <;> (try (exfalso; omega))) | refine vs_eqnil ?_ | refine vs_nenil ?_ | (refine nd ?_ ?_ <;> intro hg <;> (first | (exfalso; (try simp only [decide_eq_true_eq, decide_eq_false_iff_not] at hg); omega) | rw [hg])) | fail)
      refine restM_n ?_
      refine vlm_op ?_
      repeat' (first | rw [hzl2] | rw [hTT] | rw [hFF] | rw [hTF] | rw [hFT] | rw [h00] | fail | refine nzl ?_ | refine nzd ?_ | ((first | with_reducible refine vl_id ?_ | with_reducible refine vd_id ?_); first | refine cz (c14) ?_) | refine nzo ?_ | refine nc ?_ ?_ | (with_reducible intro _ <;> (try (exfalso; omega))) | refine vs_eqnil ?_ | refine vs_nenil ?_ | (refine nd ?_ ?_ <;> intro hg <;> (first | (exfalso; (try simp only [decide_eq_true_eq, decide_eq_false_iff_not] at hg); omega) | rw [hg])) | fail)
      refine restM_n ?_
      refine vlm_op ?_
      repeat' (first | rw [hzl2] | rw [hTT] | rw [hFF] | rw [hTF] | rw [hFT] | rw [h00] | fail | refine nzl ?_ | refine nzd ?_ | ((first | with_reducible refine vl_id ?_ | with_reducible refine vd_id ?_); first | refine cz (c14) ?_) | refine nzo ?_ | refine nc ?_ ?_ | (with_reducible intro _ <;> (try (exfalso; omega))) | refine vs_eqnil ?_ | refine vs_nenil ?_ | (refine nd ?_ ?_ <;> intro hg <;> (first | (exfalso; (try simp only [decide_eq_true_eq, decide_eq_false_iff_not] at hg); omega) | rw [hg])) | fail)
      refine restM_n ?_
      refine vlm_len ?_
      refine vlm_op ?_
      repeat' (first | rw [hzl2] | rw [hTT] | rw [hFF] | rw [hTF] | rw [hFT] | rw [h00] | fail | refine nzl ?_ | refine nzd ?_ | ((first | with_reducible refine vl_id ?_ | with_reducible refine vd_id ?_); first | refine cz (c14) ?_) | refine nzo ?_ | refine nc ?_ ?_ | (with_reducible intro _ <;> (try (exfalso; omega))) | refine vs_eqnil ?_ | refine vs_nenil ?_ | (refine nd ?_ ?_ <;> intro hg <;> (first | (exfalso; (try simp only [decide_eq_true_eq, decide_eq_false_iff_not] at hg); omega) | rw [hg])) | fail)
      refine restM_n ?_
      refine vlm_op ?_
      repeat' (first | rw [hzl2] | rw [hTT] | rw [hFF] | rw [hTF] | rw [hFT] | rw [h00] | fail | refine nzl ?_ | refine nzd ?_ | ((first | with_reducible refine vl_id ?_ | with_reducible refine vd_id ?_); first | refine cz (c14) ?_) | refine nzo ?_ | refine nc ?_ ?_ | (with_reducible intro _ <;> (try (exfalso; omega))) | refine vs_eqnil ?_ | refine vs_nenil ?_ | (refine nd ?_ ?_ <;> intro hg <;> (first | (exfalso; (try simp only [decide_eq_true_eq, decide_eq_false_iff_not] at hg); omega) | rw [hg])) | fail)
      refine restM_n ?_
      refine vlm_op ?_
      repeat' (first | rw [hzl2] | rw [hTT] | rw [hFF] | rw [hTF] | rw [hFT] | rw [h00] | fail | refine nzl ?_ | refine nzd ?_ | ((first | with_reducible refine vl_id ?_ | with_reducible refine vd_id ?_); first | refine cz (c14) ?_) | refine nzo ?_ | refine nc ?_ ?_ | (with_reducible intro _ <;> (try (exfalso; omega))) | refine vs_eqnil ?_ | refine vs_nenil ?_ | (refine nd ?_ ?_ <;> intro hg <;> (first | (exfalso; (try simp only [decide_eq_true_eq, decide_eq_false_iff_not] at hg); omega) | rw [hg])) | fail)
      refine restM_n ?_
      refine vlm_op ?_
      repeat' (first | rw [hzl2] | rw [hTT] | rw [hFF] | rw [hTF] | rw [hFT] | rw [h00] | fail | refine nzl ?_ | refine nzd ?_ | ((first | with_reducible refine vl_id ?_ | with_reducible refine vd_id ?_); first | refine cz (c14) ?_) | refine nzo ?_ | refine nc ?_ ?_ | (with_reducible intro _ <;> (try (exfalso; omega))) | refine vs_eqnil ?_ | refine vs_nenil ?_ | (refine nd ?_ ?_ <;> intro hg <;> (first | (exfalso; (try simp only [decide_eq_true_eq, decide_eq_false_iff_not] at hg); omega) | rw [hg])) | fail)
      refine restM_n ?_
      refine vlm_op ?_
      repeat' (first | rw [hzl2] | rw [hTT] | rw [hFF] | rw [hTF] | rw [hFT] | rw [h00] | fail | refine nzl ?_ | refine nzd ?_ | ((first | with_reducible refine vl_id ?_ | with_reducible refine vd_id ?_); first | refine cz (c14) ?_) | refine nzo ?_ | refine nc ?_ ?_ | (with_reducible intro _ <;> (try (exfalso; omega))) | refine vs_eqnil ?_ | refine vs_nenil ?_ | (refine nd ?_ ?_ <;> intro hg <;> (first | (exfalso; (try simp only [decide_eq_true_eq, decide_eq_false_iff_not] at hg); omega) | rw [hg])) | fail)
      refine restM_n ?_
      refine vlm_op ?_
      repeat' (first | rw [hzl2] | rw [hTT] | rw [hFF] | rw [hTF] | rw [hFT] | rw [h00] | fail | refine nzl ?_ | refine nzd ?_ | ((first | with_reducible refine vl_id ?_ | with_reducible refine vd_id ?_); first | refine cz (c14) ?_) | refine nzo ?_ | refine nc ?_ ?_ | (with_reducible intro _ <;> (try (exfalso; omega))) | refine vs_eqnil ?_ | refine vs_nenil ?_ | (refine nd ?_ ?_ <;> intro hg <;> (first | (exfalso; (try simp only [decide_eq_true_eq, decide_eq_false_iff_not] at hg); omega) | rw [hg])) | fail)
      refine restM_n ?_
      refine vlm_op ?_
      repeat' (first | rw [hzl2] | rw [hTT] | rw [hFF] | rw [hTF] | rw [hFT] | rw [h00] | fail | refine nzl ?_ | refine nzd ?_ | ((first | with_reducible refine vl_id ?_ | with_reducible refine vd_id ?_); first | refine cz (c14) ?_) | refine nzo ?_ | refine nc ?_ ?_ | (with_reducible intro _ <;> (try (exfalso; omega))) | refine vs_eqnil ?_ | refine vs_nenil ?_ | (refine nd ?_ ?_ <;> intro hg <;> (first | (exfalso; (try simp only [decide_eq_true_eq, decide_eq_false_iff_not] at hg); omega) | rw [hg])) | fail)
      refine restM_n ?_
      refine vlm_op ?_
      repeat' (first | rw [hzl2] | rw [hTT] | rw [hFF] | rw [hTF] | rw [hFT] | rw [h00] | fail | refine nzl ?_ | refine nzd ?_ | ((first | with_reducible refine vl_id ?_ | with_reducible refine vd_id ?_); first | refine cz (c14) ?_) | refine nzo ?_ | refine nc ?_ ?_ | (with_reducible intro _ <;> (try (exfalso; omega))) | refine vs_eqnil ?_ | refine vs_nenil ?_ | (refine nd ?_ ?_ <;> intro hg <;> (first | (exfalso; (try simp only [decide_eq_true_eq, decide_eq_false_iff_not] at hg); omega) | rw [hg])) | fail)
      refine restM_n ?_
      refine vlm_op ?_
      repeat' (first | rw [hzl2] | rw [hTT] | rw [hFF] | rw [hTF] | rw [hFT] | rw [h00] | fail | refine nzl ?_ | refine nzd ?_ | ((first | with_reducible refine vl_id ?_ | with_reducible refine vd_id ?_); first | refine cz (c14) ?_) | refine nzo ?_ | refine nc ?_ ?_ | (with_reducible intro _ <;> (try (exfalso; omega))) | refine vs_eqnil ?_ | refine vs_nenil ?_ | (refine nd ?_ ?_ <;> intro hg <;> (first | (exfalso; (try simp only [decide_eq_true_eq, decide_eq_false_iff_not] at hg); omega) | rw [hg])) | fail)
      refine restM_n ?_
      refine vlm_op ?_
      repeat' (first | rw [hzl2] | rw [hTT] | rw [hFF] | rw [hTF] | rw [hFT] | rw [h00] | fail | refine nzl ?_ | refine nzd ?_ | ((first | with_reducible refine vl_id ?_ | with_reducible refine vd_id ?_); first | refine cz (c14) ?_) | refine nzo ?_ | refine nc ?_ ?_ | (with_reducible intro _ <;> (try (exfalso; omega))) | refine vs_eqnil ?_ | refine vs_nenil ?_ | (refine nd ?_ ?_ <;> intro hg <;> (first | (exfalso; (try simp only [decide_eq_true_eq, decide_eq_false_iff_not] at hg); omega) | rw [hg])) | fail)
      refine restM_n ?_
      refine vlm_op ?_
      repeat' (first | rw [hzl2] | rw [hTT] | rw [hFF] | rw [hTF] | rw [hFT] | rw [h00] | fail | refine nzl ?_ | refine nzd ?_ | ((first | with_reducible refine vl_id ?_ | with_reducible refine vd_id ?_); first | refine cz (c14) ?_) | refine nzo ?_ | refine nc ?_ ?_ | (with_reducible intro _ <;> (try (exfalso; omega))) | refine vs_eqnil ?_ | refine vs_nenil ?_ | (refine nd ?_ ?_ <;> intro hg <;> (first | (exfalso; (try simp only [decide_eq_true_eq, decide_eq_false_iff_not] at hg); omega) | rw [hg])) | fail)
      refine restM_n ?_
      refine vlm_nil ?_
      refine thenM_n ?_
      refine vwm_of ?_
      repeat' (first | fail | fail | refine nzl ?_ | refine nzd ?_ | ((first | with_reducible refine vl_id ?_ | with_reducible refine vd_id ?_); first | fail) | refine nzo ?_ | refine nc ?_ ?_ | (with_reducible intro _ <;> (try (exfalso; omega))) | refine vs_eqnil ?_ | refine vs_nenil ?_ | (refine nd ?_ ?_ <;> intro hg <;> (first | (exfalso; (try simp only [decide_eq_true_eq, decide_eq_false_iff_not] at hg); omega) | rw [hg])) | fail)
      all_goals first | rfl | exact absurd hg (by simp) | (rename_i hz; exact absurd rfl hz) | (exfalso; omega) | (rename_i hz; exact absurd hz (by decide))
  · rw [hc] at c1
    simp only [List.map_nil] at c1
    obtain ⟨E, hE⟩ : ∃ E : List (List D), E = [] := ⟨_, rfl⟩
    rw [← hE] at c1
    have hEl : E.length = 0 := by rw [hE]; rfl
    clear hE
    refine vp_of Tryz.func3 rfl Tryz.ntmps3 rfl Tryz.results3 fun B => ?_
    repeat' (first | refine vw_map fun b => ?_ | fail | refine nzl ?_ | refine nzd ?_ | ((first | with_reducible refine vl_id ?_ | with_reducible refine vd_id ?_); first | refine cz (wakes_v) ?_ | refine cz (c1) ?_) | refine nzo ?_ | refine nc ?_ ?_ | (with_reducible intro _ <;> (try (exfalso; omega))) | refine vs_eqnil ?_ | refine vs_nenil ?_ | (refine nd ?_ ?_ <;> intro hg <;> (first | (exfalso; (try simp only [decide_eq_true_eq, decide_eq_false_iff_not] at hg); omega) | rw [hg])) | fail)
    all_goals first | (rw [decide_eq_true (show (E.length : Int) = 0 by omega)]) | (exfalso; omega) | trace_state
end Go.Proofs.YtkjpcjccddggoaaGreat
