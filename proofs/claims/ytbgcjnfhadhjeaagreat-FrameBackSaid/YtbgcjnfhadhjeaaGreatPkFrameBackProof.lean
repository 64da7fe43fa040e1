/- FrameBack: for every input the law returns true, and turns nothing that was there; no condition. -/
import Derived.Test.YtbgcjnfhadhjeaaGreatRows
import Derived.Test.YtbgcjnfhadhjeaaGreatPk35
import Derived.Test.YtbgcjnfhadhjeaaGreatPk53
namespace Go.Proofs.YtbgcjnfhadhjeaaGreat
set_option maxRecDepth 20000
open Go.ChangeShapes Go.WideShapes Go.ChangeAt Go.RowKit
set_option maxRecDepth 100000
set_option maxRecDepth 100000 in
theorem JB (os : Os) (started : os.Started) (H : Type) (enc : TypeId × Value → H) :
  ReturnsInHanded {} Tryz.checked os 5 .any (Rows.frameBackSpec.pre6 enc Tryz.prog Tryz.f5 Rows.frameBackRow.domain false) (Rows.frameBackSpec.post enc Tryz.prog Tryz.f5 false true false false) := by
 refine returnsInHanded_of_change (C := Tryz.checked) VJ started (by kernel_rfl) Tryz.func5
  (ChangeSpec.witness6 (enc := enc) (C := Tryz.checked) false ⟨#[], #[.agg #[.int .i64 0, .int .u64 0, .int .i64 0, .int .u64 0, .int .i64 0, .int .i64 0, .slice none 0 0, .slice none 0 0, .int .u64 0, .int .u64 0, .int .u64 0, .int .u64 0, .int .u64 0, .int .u64 0, .int .u64 0, .int .u64 0, .int .u64 0, .int .u64 0, .int .u64 0, .int .u64 0, .int .u64 0, .int .u64 0, .int .u64 0, .int .u64 0, .int .u64 0, .int .u64 0, .int .u64 0, .int .u64 0, .int .u64 0, .int .u64 0], .slice none 0 0], []⟩ 8 (by kernel_rfl) (by kernel_rfl) (by kernel_rfl) (by kernel_rfl)) ?_
 intro W base args ds gs before hval0 hW hcnd _
 have hval : ∀ (j : Nat) t v, Tryz.f5.params[j]? = some t → args[j]? = some v → Value.okWide Tryz.prog W .any base t v := hval0
 have hW' := hW
 obtain ⟨p, q, hA0, hV, rfl, hfz, hnd⟩ := hW
 have hA : DataW.TrodAll enc Tryz.prog W 0 (fun _ => true) true Tryz.f5.params.toList args.toList ds p := hA0
 rw [Tryz.params5] at hA hval
 obtain ⟨v0, vs0, e0, ds0, p0, q0, hargs, rfl, rfl, h0, r0⟩ := trodAll_cons hA
 obtain ⟨v1, vs1, e1, ds1, p1, q1, rfl, rfl, rfl, h1, r1⟩ := trodAll_cons r0
 obtain ⟨rfl, rfl, rfl⟩ := trodAll_nil r1
 obtain rfl : args = #[v0, v1] := by cases args; simp_all
 obtain ⟨rfl, rfl⟩ := trodVars_none hV
 have k0 := h0
 have lt0 : ∀ x ∈ p0, x.block < W.heap.size := by obtain ⟨m, hm⟩ := k0; exact DataW.trod_lt m _ _ _ hm
 obtain ⟨y0, z0, d0⟩ := Fp Lm Tryz.underlying28 (hval 0 28 v0 rfl rfl) h0
 have k1 := h1
 have lt1 : ∀ x ∈ p1, x.block < W.heap.size := by obtain ⟨m, hm⟩ := k1; exact DataW.trod_lt m _ _ _ hm
 obtain ⟨a1, n1, c1, rfl⟩ := okWide_slice Tryz.underlying23 (hval 1 23 v1 rfl rfl)
 obtain ⟨y1, z1, d1⟩ := Pw U7 rfl h1
 clear hA0 hval0
 refine ((Aax y0 y1).2 (fun _ => True) W _ (by simp only [dreps]; exact ⟨_, _, rfl, d0 _, ⟨_, _, rfl, d1 _, rfl⟩⟩)).mono fun e W' ⟨bel, r, he, hr⟩ => ?_
 subst he
 obtain ⟨u, rfl, hu⟩ := hr
 simp only [drep] at hu
 subst hu
 exact ⟨_, rfl, _, _, _, [], _, [], hW', trodAll_mk1 (shut_bool Tryz.underlying4 _), (trodAll_cons_mk (Below.trod CM (by kernel_rfl) (of_decide_eq_true (by kernel_rfl)) k0 bel lt0) (trodAll_cons_mk (Below.trod CM (by kernel_rfl) (of_decide_eq_true (by kernel_rfl)) k1 bel lt1) trodAll_mk0)), rfl, bel.frame _, fun h => by cases h⟩
theorem Kk : (Rows.frameBackRow.inPlace == Tryz.prog.inPlace 5) = true := by kernel_rfl
theorem H8 : (Rows.frameBackRow.unfollowed == Tryz.prog.unfollowed 5) = true := by kernel_rfl
theorem Mu : (Rows.frameBackRow.recurses == Tryz.prog.recurses 5) = true := by
 have h : Tryz.prog.unfollowed 5 = true := (beq_iff_eq.1 H8).symm
 unfold Program.recurses; rw [h]; rfl
theorem Kl : (Rows.frameBackRow.named == Tryz.prog.varsNamed 5) = true := by kernel_rfl
theorem LB : (Rows.frameBackRow.plainKeys == Tryz.prog.plainKeys) = true := by rw [QA]; rfl
theorem N3 : (Rows.frameBackRow.lifted == Tryz.prog.liftsFinal) = true := Lt
theorem N2 : (Tryz.prog.make == some Rows.frameBackRow.make) = true := Qz
theorem JC : joinedFacts Tryz.prog 5 Tryz.f5 Rows.frameBackSpec Rows.frameBackRow = true := by
 unfold joinedFacts
 simp only [Bool.and_eq_true]
 repeat' refine And.intro ?_ ?_
 all_goals first | with_reducible exact CM | with_reducible exact Hg | with_reducible exact NU | with_reducible exact NV | with_reducible exact Kk | with_reducible exact H8 | with_reducible exact Mu | with_reducible exact Kl | with_reducible exact LB | with_reducible exact N3 | with_reducible exact N2 | kernel_rfl
theorem LA : Rows.frameBackRow.holds Tryz.pinned (OpenSpec.ofChange Rows.frameBackSpec) :=
 OpenClaim.holds_of_wide 5 Tryz.f5 rfl rfl rfl rfl rfl rfl rfl ⟨rfl, rfl, rfl, rfl, rfl⟩ rfl rfl rfl rfl rfl (by kernel_rfl) Tryz.func5 JC
  (of_decide_eq_true (by kernel_rfl)) (by unfold Func.isWrapper; first | (rw [if_pos (by decide +kernel)]; kernel_rfl) | (rw [if_neg (by decide +kernel)]; exact ⟨rfl, rfl⟩))
  (fun os started H enc _ => JB os started H enc)
theorem frameBack_holds : Rows.FrameBackSaid := LA
#print axioms frameBack_holds

end Go.Proofs.YtbgcjnfhadhjeaaGreat