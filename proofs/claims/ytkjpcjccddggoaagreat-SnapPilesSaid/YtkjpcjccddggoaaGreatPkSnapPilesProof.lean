/- SnapPiles: for every input the law returns true, and turns nothing that was there; no condition. -/
import Derived.Test.YtkjpcjccddggoaaGreatRows
import Derived.Test.YtkjpcjccddggoaaGreatPkSnapPilesProofa
import Derived.Test.YtkjpcjccddggoaaGreatPk52
import Derived.Test.YtkjpcjccddggoaaGreatPk44
namespace Go.Proofs.YtkjpcjccddggoaaGreat
open Go.RowKit
set_option maxRecDepth 10000
set_option maxHeartbeats 4000000
/-- what comes behind the loop -/
theorem piles_end (B : Nat) (x0 p : Pi) (y0 l : List Pc) (q : Pi) (n : Nat) (ho : x0.own = p) (hf : fewL y0 = l) (ho2 : ∀ y ∈ p.parts, y.length ≤ 300) (hf1 : l.length ≤ 12) (hr : piB p = true) (hq : piB q = true) (hq3 : ∀ y ∈ q.parts, y.length ≤ 300) (hT : putsP (p, 0) l = (q, n)) :
    VW Tryz.prog (plC B) pilesE ⟨plT l y0 true l.length n, plL x0 p q, 3⟩ (retQ Tryz.prog [.tmp 4] (· = .ret (.lit (.bool true)))) := by
  have c5 := puts_v p l (fun y hy => by have := ho2 y hy; omega) (by omega)
  rw [show putsE p l = ((putsP (p, 0) l).1, ((putsP (p, 0) l).2 : Int), 0) by simp [putsE, hr], hT] at c5
  have c1 := own_v x0
  have c2 := few_v y0
  rw [ho] at c1
  rw [hf] at c2
  have c6 := samepile_v p p
  have c7 := eqpc_v l l
  have c12 := samepile_v q q
  rw [decide_eq_true rfl] at c6 c7 c12
  have hqn := piB_n hq
  have hpl : poV true (.tup [.agg [u64D q.snap, i64D q.many, .sl false true (q.parts.map fM)], i64D n, i64D 0]) = .tup [.agg [.d (u64D q.snap), .d (i64D q.many), .po true (.sl false true (q.parts.map fM))], .d (i64D n), .d (i64D 0)] := rfl
  simp only [piD, piM] at c1 c5 c6 c12
  refine vw_seq ?_
  repeat' (first | (refine vs_pol8 (fun _ => ?_)) | (refine vs_poset ?_; simp only [blurT, blurS, blurV, blurVs]) | refine vs_po ?_ | fail | refine nzl ?_ | refine nzd ?_ | ((first | with_reducible refine vl_id ?_ | with_reducible refine vd_id ?_); first | (refine vs_pool c5 ?_; rw [hpl]) | refine cz (c12) ?_) | refine nzo ?_ | refine nc ?_ ?_ | (with_reducible intro _ <;> (try (exfalso; omega))) | refine vs_eqnil ?_ | refine vs_nenil ?_ | (refine nd ?_ ?_ <;> intro hg <;> (first | (exfalso; (try simp only [decide_eq_true_eq, decide_eq_false_iff_not] at hg); omega) | rw [hg])) | fail)
  all_goals first | (rename_i hz; exact absurd hz (by decide)) | skip
  refine vw_loop (fun j : Nat => ⟨[(187, I .i64 j), (186, I .i64 (q.parts.map fM).length), (185, .po false (.sl false true (q.parts.map fM))), (6, .d (.sl false true (l.map pcM))), (5, .ptr 1 0), (2, .ptr 0 0), (1, .d (.sl false false (y0.map pcD)))], [.c 1 0 [.d (u64D p.snap), .d (i64D p.many), .d (.sl false true (p.parts.map fM))], .c 0 0 [.d (u64D x0.snap), .d (i64D x0.many), .d (.sl false false (x0.parts.map fD))]], 3⟩) (fun j => j ≤ q.parts.length) (fun j => q.parts.length - j) 0 (sub_z) (Nat.zero_le _) fun j hj => ?_
  have hql : (q.parts.map fM).length = q.parts.length := List.length_map _
  rcases Nat.lt_or_ge j q.parts.length with h | h
  · have hx : (q.parts.map fM)[((j : Nat) : Int).toNat]? = some (fM q.parts[j]) := by simp [h]
    have hb3 := hq3 _ (List.getElem_mem h)
    have hlt : (j : Int) < ((q.parts.map fM).length : Int) := by rw [hql]; omega
    generalize q.parts[j] = b at *
    have hbl := byD_len b
    simp only [fM] at hx
    repeat' (first | (refine vs_pol8 (fun _ => ?_)) | (refine vs_poset ?_; simp only [blurT, blurS, blurV, blurVs]) | refine vs_po ?_ | fail | refine nzl ?_ | refine nzd ?_ | ((first | with_reducible refine vl_id ?_ | with_reducible refine vd_id ?_); first | fail) | refine nzo ?_ | refine nc ?_ ?_ | (with_reducible intro _ <;> (try (exfalso; omega))) | refine vs_eqnil ?_ | refine vs_nenil ?_ | (refine nd ?_ ?_ <;> intro hg <;> (first | (exfalso; (try simp only [decide_eq_true_eq, decide_eq_false_iff_not] at hg); omega) | rw [hg])) | fail)
    refine vw_loop (fun k : Nat => ⟨[(193, I .i64 k), (192, I .i64 (byD b).length), (27, .po false (.sl false true (byD b))), (187, I .i64 j), (186, I .i64 (q.parts.map fM).length), (185, .po false (.sl false true (q.parts.map fM))), (6, .d (.sl false true (l.map pcM))), (5, .ptr 1 0), (2, .ptr 0 0), (1, .d (.sl false false (y0.map pcD)))], [.c 1 0 [.d (u64D p.snap), .d (i64D p.many), .d (.sl false true (p.parts.map fM))], .c 0 0 [.d (u64D x0.snap), .d (i64D x0.many), .d (.sl false false (x0.parts.map fD))]], 3⟩) (fun k => k ≤ b.length) (fun k => b.length - k) 0 (sub_z) (Nat.zero_le _) fun k hk => ?_
    rcases Nat.lt_or_ge k b.length with h2 | h2
    · have hx' : (byD b)[((k : Nat) : Int).toNat]? = some [.lit (.int .u8 b[k].toNat)] := by simp [byD, h2, vb]
      have hlt2 : (k : Int) < ((byD b).length : Int) := by omega
      repeat' (first | (refine vs_pol8 (fun _ => ?_)) | (refine vs_poset ?_; simp only [blurT, blurS, blurV, blurVs]) | refine vs_po ?_ | fail | refine nzl ?_ | refine nzd ?_ | ((first | with_reducible refine vl_id ?_ | with_reducible refine vd_id ?_); first | fail) | refine nzo ?_ | refine nc ?_ ?_ | (with_reducible intro _ <;> (try (exfalso; omega))) | refine vs_eqnil ?_ | refine vs_nenil ?_ | (refine nd ?_ ?_ <;> intro hg <;> (first | (exfalso; (try simp only [decide_eq_true_eq, decide_eq_false_iff_not] at hg); omega) | rw [hg])) | fail)
      exact nx_loop (k + 1) (by omega) (by omega) (sub_z)
    · have hlt2 : ¬ (k : Int) < ((byD b).length : Int) := by omega
      repeat' (first | (refine vs_pol8 (fun _ => ?_)) | (refine vs_poset ?_; simp only [blurT, blurS, blurV, blurVs]) | refine vs_po ?_ | fail | refine nzl ?_ | refine nzd ?_ | ((first | with_reducible refine vl_id ?_ | with_reducible refine vd_id ?_); first | fail) | refine nzo ?_ | refine nc ?_ ?_ | (with_reducible intro _ <;> (try (exfalso; omega))) | refine vs_eqnil ?_ | refine vs_nenil ?_ | (refine nd ?_ ?_ <;> intro hg <;> (first | (exfalso; (try simp only [decide_eq_true_eq, decide_eq_false_iff_not] at hg); omega) | rw [hg])) | fail)
      exact nx_loop (j + 1) (by omega) (by omega) (sub_z)
  · have hlt : ¬ (j : Int) < ((q.parts.map fM).length : Int) := by rw [hql]; omega
    repeat' (first | fail | fail | refine nzl ?_ | refine nzd ?_ | ((first | with_reducible refine vl_id ?_ | with_reducible refine vd_id ?_); first | refine cz (c1) ?_ | refine cz (c2) ?_ | refine cz (c6) ?_ | refine cz (c7) ?_) | refine nzo ?_ | refine nc ?_ ?_ | (with_reducible intro _ <;> (try (exfalso; omega))) | refine vs_eqnil ?_ | refine vs_nenil ?_ | (refine nd ?_ ?_ <;> intro hg <;> (first | (exfalso; (try simp only [decide_eq_true_eq, decide_eq_false_iff_not] at hg); omega) | rw [hg])) | fail)
    all_goals first | rfl | trace_state
theorem piles_v (hw : VP Tryz.prog 8 [] (· = .ret (.lit (.bool true)))) (x0 : Pi) (y0 : List Pc) (hm : -9223372036854775808 ≤ x0.many ∧ x0.many ≤ 9223372036854775807) : VP Tryz.prog 6 [.agg (piD x0), .sl false false (y0.map pcD)] (· = .ret (.lit (.bool true))) := by
  have c1 := own_v x0
  have c2 := few_v y0
  have c3 := rpile_v x0.own hm
  have c4 := chk_v x0.own
  obtain ⟨ho1, ho2⟩ := own_le x0
  obtain ⟨hf1, hf2⟩ := few_le y0
  have c5 := puts_v x0.own (fewL y0) (fun y hy => by have := ho2 y hy; omega) (by omega)
  have hend := fun B q n h1 h2 h3 h4 h5 => piles_end B x0 x0.own y0 (fewL y0) q n rfl rfl h1 h2 h3 h4 h5
  generalize x0.own = p at *
  generalize fewL y0 = l at *
  have hend := fun B q n => hend B q n ho2 hf1
  simp only [piD, piM] at c1 c3 c4 c5 ⊢
  have hlm : (l.map pcM).length = l.length := List.length_map _
  cases hr : piB p with
  | false =>
    rw [hr] at c3 c4
    rw [show putsE p l = (.zero, 0, 312) by simp [putsE, hr]] at c5
    simp only [Bool.false_eq_true, if_false, Pi.zero, List.map_nil] at c4 c5
    have c0 := samepile_v .zero .zero
    rw [decide_eq_true rfl] at c0
    simp only [piD, Pi.zero, List.map_nil] at c0
    clear hend
    refine vp_of Tryz.func6 rfl Tryz.ntmps6 rfl Tryz.results6 fun B => ?_
    repeat' (first | fail | fail | refine nzl ?_ | refine nzd ?_ | ((first | with_reducible refine vl_id ?_ | with_reducible refine vd_id ?_); first | refine cz (hw) ?_ | refine cz (c1) ?_ | refine cz (c2) ?_ | refine cz (c3) ?_ | refine cz (c4) ?_) | refine nzo ?_ | refine nc ?_ ?_ | (with_reducible intro _ <;> (try (exfalso; omega))) | refine vs_eqnil ?_ | refine vs_nenil ?_ | (refine nd ?_ ?_ <;> intro hg <;> (first | (exfalso; (try simp only [decide_eq_true_eq, decide_eq_false_iff_not] at hg); omega) | rw [hg])) | fail)
    all_goals first | (rename_i hz; exact absurd hz (by decide)) | skip
    refine vw_each 52 l pcM (fun (i : Nat) (n : Nat) => ⟨plT l y0 false i n, plL x0 p p, 3⟩) (fun i n => n ≤ i) 0 (sub_z) (Nat.zero_le _) (fun i y x hT hi hx hx' hlt hlm hlen hdr => ?_) (fun y hT hlt hlm => ?_)
    · refine vw_seq ?_
      repeat' (first | fail | fail | refine nzl ?_ | refine nzd ?_ | ((first | with_reducible refine vl_id ?_ | with_reducible refine vd_id ?_); first | fail) | ((fail_if_success (with_reducible refine vw_seq ?_)); refine nzo ?_) | refine nc ?_ ?_ | (with_reducible intro _ <;> (try (exfalso; omega))) | refine vs_eqnil ?_ | refine vs_nenil ?_ | (refine nd ?_ ?_ <;> intro hg <;> (first | (exfalso; (try simp only [decide_eq_true_eq, decide_eq_false_iff_not] at hg); omega) | rw [hg])) | fail)
      refine vw_seq ?_
      repeat' (first | fail | fail | refine nzl ?_ | refine nzd ?_ | ((first | with_reducible refine vl_id ?_ | with_reducible refine vd_id ?_); first | fail) | ((fail_if_success (with_reducible refine vw_seq ?_)); refine nzo ?_) | refine nc ?_ ?_ | (with_reducible intro _ <;> (try (exfalso; omega))) | refine vs_eqnil ?_ | refine vs_nenil ?_ | (refine nd ?_ ?_ <;> intro hg <;> (first | (exfalso; (try simp only [decide_eq_true_eq, decide_eq_false_iff_not] at hg); omega) | rw [hg])) | fail)
      refine vw_seq ?_
      refine vw_block ?_
      refine vw_sub ?_ (piles_no B x0 p y0 l i y x hr ho1 ho2 hx' hlt (by omega) _ fun s hs => ?_)
      · exact (sub_z)
      · refine NX.go ?_; constructor
        refine vl_sub hs ?_
        repeat' (first | fail | fail | refine nzl ?_ | refine nzd ?_ | ((first | with_reducible refine vl_id ?_ | with_reducible refine vd_id ?_); first | fail) | refine nzo ?_ | refine nc ?_ ?_ | (with_reducible intro _ <;> (try (exfalso; omega))) | refine vs_eqnil ?_ | refine vs_nenil ?_ | (refine nd ?_ ?_ <;> intro hg <;> (first | (exfalso; (try simp only [decide_eq_true_eq, decide_eq_false_iff_not] at hg); omega) | rw [hg])) | fail)
        refine nx_each (y + 1) hi (by omega) ?_
        exact (sub_z)
    · repeat' (first | fail | fail | refine nzl ?_ | refine nzd ?_ | ((first | with_reducible refine vl_id ?_ | with_reducible refine vd_id ?_); first | refine cz (c5) ?_ | refine cz (c0) ?_) | refine nzo ?_ | refine nc ?_ ?_ | (with_reducible intro _ <;> (try (exfalso; omega))) | refine vs_eqnil ?_ | refine vs_nenil ?_ | (refine nd ?_ ?_ <;> intro hg <;> (first | (exfalso; (try simp only [decide_eq_true_eq, decide_eq_false_iff_not] at hg); omega) | rw [hg])) | fail)
      all_goals first | rfl | trace_state
  | true =>
    rw [hr] at c3 c4
    simp only [if_true] at c4
    clear c5
    refine vp_of Tryz.func6 rfl Tryz.ntmps6 rfl Tryz.results6 fun B => ?_
    repeat' (first | fail | fail | refine nzl ?_ | refine nzd ?_ | ((first | with_reducible refine vl_id ?_ | with_reducible refine vd_id ?_); first | refine cz (hw) ?_ | refine cz (c1) ?_ | refine cz (c2) ?_ | refine cz (c3) ?_ | refine cz (c4) ?_) | refine nzo ?_ | refine nc ?_ ?_ | (with_reducible intro _ <;> (try (exfalso; omega))) | refine vs_eqnil ?_ | refine vs_nenil ?_ | (refine nd ?_ ?_ <;> intro hg <;> (first | (exfalso; (try simp only [decide_eq_true_eq, decide_eq_false_iff_not] at hg); omega) | rw [hg])) | fail)
    all_goals first | (rename_i hz; exact absurd hz (by decide)) | skip
    refine vw_join (fun z : Pi × Nat => ⟨plT l y0 true l.length z.2, plL x0 p z.1, 3⟩) (fun z => piB p = true ∧ piB z.1 = true ∧ (∀ y ∈ z.1.parts, y.length ≤ 300) ∧ putsP (p, 0) l = z) ?_ fun z hz => hend B z.1 z.2 hz.1 hz.2.1 hz.2.2.1 hz.2.2.2
    refine vw_each 52 l pcM (fun (i : Nat) (z : Pi × Nat) => ⟨plT l y0 true i z.2, plL x0 p z.1, 3⟩) (fun i z => putsP (p, 0) l = putsP z (l.drop i) ∧ piB z.1 = true ∧ (∀ y ∈ z.1.parts, y.length ≤ 300) ∧ z.2 ≤ i) (p, 0) (sub_z) ⟨rfl, hr, ho2, Nat.le_refl _⟩ (fun i y x hT hi hx hx' hlt hlm hlen hdr => ?_) (fun y hT hlt hlm => ?_)
    · obtain ⟨q, n⟩ := y
      obtain ⟨hT, hq, hq3, hn⟩ := hT
      simp only at hq hq3 hn
      rw [hdr, putsP] at hT
      have hx3 := hf2 x (List.mem_of_getElem? hx)
      refine vw_seq ?_
      repeat' (first | fail | fail | refine nzl ?_ | refine nzd ?_ | ((first | with_reducible refine vl_id ?_ | with_reducible refine vd_id ?_); first | fail) | ((fail_if_success (with_reducible refine vw_seq ?_)); refine nzo ?_) | refine nc ?_ ?_ | (with_reducible intro _ <;> (try (exfalso; omega))) | refine vs_eqnil ?_ | refine vs_nenil ?_ | (refine nd ?_ ?_ <;> intro hg <;> (first | (exfalso; (try simp only [decide_eq_true_eq, decide_eq_false_iff_not] at hg); omega) | rw [hg])) | fail)
      refine vw_seq ?_
      repeat' (first | fail | fail | refine nzl ?_ | refine nzd ?_ | ((first | with_reducible refine vl_id ?_ | with_reducible refine vd_id ?_); first | fail) | ((fail_if_success (with_reducible refine vw_seq ?_)); refine nzo ?_) | refine nc ?_ ?_ | (with_reducible intro _ <;> (try (exfalso; omega))) | refine vs_eqnil ?_ | refine vs_nenil ?_ | (refine nd ?_ ?_ <;> intro hg <;> (first | (exfalso; (try simp only [decide_eq_true_eq, decide_eq_false_iff_not] at hg); omega) | rw [hg])) | fail)
      refine vw_seq ?_
      refine vw_block ?_
      cases hk : putOk q x with
      | false =>
        rw [hk] at hT
        simp only [Bool.false_eq_true, if_false] at hT
        refine vw_sub ?_ (piles_ov B x0 p y0 l i n x q hq hq3 hk hx' hlt (by omega) _ fun s hs => ?_)
        · exact (sub_z)
        · refine NX.go ?_; constructor
          refine vl_sub hs ?_
          repeat' (first | fail | fail | refine nzl ?_ | refine nzd ?_ | ((first | with_reducible refine vl_id ?_ | with_reducible refine vd_id ?_); first | fail) | refine nzo ?_ | refine nc ?_ ?_ | (with_reducible intro _ <;> (try (exfalso; omega))) | refine vs_eqnil ?_ | refine vs_nenil ?_ | (refine nd ?_ ?_ <;> intro hg <;> (first | (exfalso; (try simp only [decide_eq_true_eq, decide_eq_false_iff_not] at hg); omega) | rw [hg])) | fail)
          refine nx_each (q, n + 1) hi ⟨hT, hq, hq3, by simp only; omega⟩ ?_
          exact (sub_z)
      | true =>
        rw [hk] at hT
        simp only [if_true] at hT
        refine vw_sub ?_ (piles_in B x0 p y0 l i n x q hq hq3 hx3 hk hx' hlt (by omega) _ fun s hs => ?_)
        · exact (sub_z)
        · refine NX.go ?_; constructor
          refine vl_sub hs ?_
          repeat' (first | fail | fail | refine nzl ?_ | refine nzd ?_ | ((first | with_reducible refine vl_id ?_ | with_reducible refine vd_id ?_); first | fail) | refine nzo ?_ | refine nc ?_ ?_ | (with_reducible intro _ <;> (try (exfalso; omega))) | refine vs_eqnil ?_ | refine vs_nenil ?_ | (refine nd ?_ ?_ <;> intro hg <;> (first | (exfalso; (try simp only [decide_eq_true_eq, decide_eq_false_iff_not] at hg); omega) | rw [hg])) | fail)
          refine nx_each (q.put x, n) hi ⟨hT, piB_put hq hk, put_le hq3 hx3, by simp only; omega⟩ ?_
          exact (sub_z)
    · obtain ⟨q, n⟩ := y
      obtain ⟨hT, hq, hq3, hn⟩ := hT
      rw [List.drop_of_length_le (Nat.le_refl _), putsP] at hT
      repeat' (first | fail | fail | refine nzl ?_ | refine nzd ?_ | ((first | with_reducible refine vl_id ?_ | with_reducible refine vd_id ?_); first | fail) | refine nzo ?_ | refine nc ?_ ?_ | (with_reducible intro _ <;> (try (exfalso; omega))) | refine vs_eqnil ?_ | refine vs_nenil ?_ | (refine nd ?_ ?_ <;> intro hg <;> (first | (exfalso; (try simp only [decide_eq_true_eq, decide_eq_false_iff_not] at hg); omega) | rw [hg])) | fail)
      exact nx_cut (q, n) ⟨hr, hq, hq3, hT⟩ (sub_z)
end Go.Proofs.YtkjpcjccddggoaaGreat

namespace Go.Proofs.YtkjpcjccddggoaaGreat
theorem piles_law (x0 : Pi) (hm : -9223372036854775808 ≤ x0.many ∧ x0.many ≤ 9223372036854775807) (y0 : List Pc) : VP Tryz.prog 6 [.agg (piD x0), .sl false false (y0.map pcD)] (· = .ret (.lit (.bool true))) := piles_v wakes_v x0 y0 hm
end Go.Proofs.YtkjpcjccddggoaaGreat

namespace Go.Proofs.YtkjpcjccddggoaaGreat
open Go.ChangeShapes Go.WideShapes Go.ChangeAt Go.RowKit
set_option maxRecDepth 100000 in
theorem snapPiles_lifted (os : Os) (started : os.Started) (H : Type) (enc : TypeId × Value → H) :
    ReturnsInHanded {} Tryz.checked os 6 .any (Rows.snapPilesSpec.pre6 enc Tryz.prog Tryz.f6 Rows.snapPilesRow.domain false) (Rows.snapPilesSpec.post enc Tryz.prog Tryz.f6 false true false false) := by
  refine returnsInHanded_of_change (C := Tryz.checked) l_own started (by kernel_rfl) Tryz.func6
    (ChangeSpec.witness6 (enc := enc) (C := Tryz.checked) false ⟨#[], #[.agg #[.int .u64 0, .int .i64 0, .slice none 0 0], .slice none 0 0], []⟩ 8 (by kernel_rfl) (by kernel_rfl) (by kernel_rfl) (by kernel_rfl)) ?_
  intro W base args ds gs before hval0 hW hcnd _
  have hval : ∀ (j : Nat) t v, Tryz.f6.params[j]? = some t → args[j]? = some v → Value.okWide Tryz.prog W .any base t v := hval0
  have hW' := hW
  obtain ⟨p, q, hA0, hV, rfl, hfz, hnd⟩ := hW
  have hA : DataW.TrodAll enc Tryz.prog W 0 (fun _ => true) true Tryz.f6.params.toList args.toList ds p := hA0
  rw [Tryz.params6] at hA hval
  obtain ⟨v0, vs0, e0, ds0, p0, q0, hargs, rfl, rfl, h0, r0⟩ := trodAll_cons hA
  obtain ⟨v1, vs1, e1, ds1, p1, q1, rfl, rfl, rfl, h1, r1⟩ := trodAll_cons r0
  obtain ⟨rfl, rfl, rfl⟩ := trodAll_nil r1
  obtain rfl : args = #[v0, v1] := by cases args; simp_all
  obtain ⟨rfl, rfl⟩ := trodVars_none hV
  have k0 := h0
  have lt0 : ∀ x ∈ p0, x.block < W.heap.size := by obtain ⟨m, hm⟩ := k0; exact DataW.trod_lt m _ _ _ hm
  obtain ⟨y0, z0, d0⟩ := arg_struct opn_pi Tryz.underlying32 (hval 0 32 v0 rfl rfl) h0
  have k1 := h1
  have lt1 : ∀ x ∈ p1, x.block < W.heap.size := by obtain ⟨m, hm⟩ := k1; exact DataW.trod_lt m _ _ _ hm
  obtain ⟨a1, n1, c1, rfl⟩ := okWide_slice Tryz.underlying26 (hval 1 26 v1 rfl rfl)
  obtain ⟨y1, z1, d1⟩ := arg_cell opn_pcs rfl h1
  clear hA0 hval0
  refine ((piles_law y0 z0 y1).2 (fun _ => True) W _ (by simp only [dreps]; exact ⟨_, _, rfl, d0 _, ⟨_, _, rfl, d1 _, rfl⟩⟩)).mono fun e W' ⟨bel, r, he, hr⟩ => ?_
  subst he
  obtain ⟨u, rfl, hu⟩ := hr
  simp only [drep] at hu
  subst hu
  exact ⟨_, rfl, _, _, _, [], _, [], hW', trodAll_mk1 (shut_bool Tryz.underlying4 _), (trodAll_cons_mk (Below.trod l_laidOut (by kernel_rfl) (of_decide_eq_true (by kernel_rfl)) k0 bel lt0) (trodAll_cons_mk (Below.trod l_laidOut (by kernel_rfl) (of_decide_eq_true (by kernel_rfl)) k1 bel lt1) trodAll_mk0)), rfl, bel.frame _, fun h => by cases h⟩
theorem snapPiles_over : Rows.snapPilesRow.holds Tryz.pinned (OpenSpec.ofChange Rows.snapPilesSpec) :=
  OpenClaim.holds_of_wide 6 Tryz.f6 rfl rfl rfl rfl rfl rfl rfl ⟨rfl, rfl, rfl, rfl, rfl⟩ rfl rfl rfl rfl rfl (by kernel_rfl) Tryz.func6 (by kernel_rfl)
    (of_decide_eq_true (by kernel_rfl)) (by unfold Func.isWrapper; first | (rw [if_pos (by decide +kernel)]; kernel_rfl) | (rw [if_neg (by decide +kernel)]; exact ⟨rfl, rfl⟩))
    (fun os started H enc _ => snapPiles_lifted os started H enc)
/-- SnapPiles holds as it is stated. -/
theorem snapPiles_holds : Rows.SnapPilesSaid := snapPiles_over
#print axioms snapPiles_holds
end Go.Proofs.YtkjpcjccddggoaaGreat
