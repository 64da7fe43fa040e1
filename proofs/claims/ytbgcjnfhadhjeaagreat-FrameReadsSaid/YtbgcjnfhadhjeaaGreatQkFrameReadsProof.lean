/- FrameReads: for every input the law returns true, and turns nothing that was there; no condition. -/
import Derived.Test.YtbgcjnfhadhjeaaGreatRows
import Derived.Test.YtbgcjnfhadhjeaaGreatQk48
namespace Go.Proofs.YtbgcjnfhadhjeaaGreat
set_option maxRecDepth 20000
open Go.ChangeShapes Go.WideShapes Go.ChangeAt Go.RowKit
set_option maxRecDepth 100000
set_option maxRecDepth 100000 in
theorem Jb (os : Os) (started : os.Started) (H : Type) (enc : TypeId × Value → H) :
  ReturnsInHanded {} Tryz.checked os 4 .any (Rows.frameReadsSpec.pre6 enc Tryz.prog Tryz.f4 Rows.frameReadsRow.domain false) (Rows.frameReadsSpec.post enc Tryz.prog Tryz.f4 false true false false) := by
 refine returnsInHanded_of_change (C := Tryz.checked) Ab8 started (by kernel_rfl) Tryz.func4
  (ChangeSpec.witness6 (enc := enc) (C := Tryz.checked) false ⟨#[], #[.slice none 0 0], []⟩ 8 (by kernel_rfl) (by kernel_rfl) (by kernel_rfl) (by kernel_rfl)) ?_
 intro W base args ds gs before hval0 hW hcnd _
 have hval : ∀ (j : Nat) t v, Tryz.f4.params[j]? = some t → args[j]? = some v → Value.okWide Tryz.prog W .any base t v := hval0
 have hW' := hW
 obtain ⟨p, q, hA0, hV, rfl, hfz, hnd⟩ := hW
 have hA : DataW.TrodAll enc Tryz.prog W 0 (fun _ => true) true Tryz.f4.params.toList args.toList ds p := hA0
 rw [Tryz.params4] at hA hval
 obtain ⟨v0, vs0, e0, ds0, p0, q0, hargs, rfl, rfl, h0, r0⟩ := trodAll_cons hA
 obtain ⟨rfl, rfl, rfl⟩ := trodAll_nil r0
 obtain rfl : args = #[v0] := by cases args; simp_all
 obtain ⟨rfl, rfl⟩ := trodVars_none hV
 have k0 := h0
 have lt0 : ∀ x ∈ p0, x.block < W.heap.size := by obtain ⟨m, hm⟩ := k0; exact DataW.trod_lt m _ _ _ hm
 obtain ⟨a0, n0, c0, rfl⟩ := okWide_slice Tryz.underlying45 (hval 0 45 v0 rfl rfl)
 obtain ⟨y0, z0, d0⟩ := Wb Sq rfl h0
 clear hA0 hval0
 refine ((W6 y0).2 (fun _ => True) W _ (by simp only [dreps]; exact ⟨_, _, rfl, d0 _, rfl⟩)).mono fun e W' ⟨bel, r, he, hr⟩ => ?_
 subst he
 obtain ⟨u, rfl, hu⟩ := hr
 simp only [drep] at hu
 subst hu
 exact ⟨_, rfl, _, _, _, [], _, [], hW', trodAll_mk1 (shut_bool Tryz.underlying4 _), (trodAll_cons_mk (Below.trod MO (by kernel_rfl) (of_decide_eq_true (by kernel_rfl)) k0 bel lt0) trodAll_mk0), rfl, bel.frame _, fun h => by cases h⟩
theorem JF : (Rows.frameReadsRow.inPlace == Tryz.prog.inPlace 4) = true := by kernel_rfl
theorem Hv : (Rows.frameReadsRow.unfollowed == Tryz.prog.unfollowed 4) = true := by kernel_rfl
theorem Lx : (Rows.frameReadsRow.recurses == Tryz.prog.recurses 4) = true := by
 have h : Tryz.prog.unfollowed 4 = true := (beq_iff_eq.1 Hv).symm
 unfold Program.recurses; rw [h]; rfl
theorem JG : (Rows.frameReadsRow.named == Tryz.prog.varsNamed 4) = true := by kernel_rfl
theorem Kj : (Rows.frameReadsRow.plainKeys == Tryz.prog.plainKeys) = true := by rw [Aaw]; rfl
theorem Mm : (Rows.frameReadsRow.lifted == Tryz.prog.liftsFinal) = true := Vv
theorem Ml : (Tryz.prog.make == some Rows.frameReadsRow.make) = true := Aav
theorem Jc : joinedFacts Tryz.prog 4 Tryz.f4 Rows.frameReadsSpec Rows.frameReadsRow = true := by
 unfold joinedFacts
 simp only [Bool.and_eq_true]
 repeat' refine And.intro ?_ ?_
 all_goals first | with_reducible exact MO | with_reducible exact O5 | with_reducible exact XY | with_reducible exact XZ | with_reducible exact JF | with_reducible exact Hv | with_reducible exact Lx | with_reducible exact JG | with_reducible exact Kj | with_reducible exact Mm | with_reducible exact Ml | kernel_rfl
theorem Ki : Rows.frameReadsRow.holds Tryz.pinned (OpenSpec.ofChange Rows.frameReadsSpec) :=
 OpenClaim.holds_of_wide 4 Tryz.f4 rfl rfl rfl rfl rfl rfl rfl ⟨rfl, rfl, rfl, rfl, rfl⟩ rfl rfl rfl rfl rfl (by kernel_rfl) Tryz.func4 Jc
  (of_decide_eq_true (by kernel_rfl)) (by unfold Func.isWrapper; first | (rw [if_pos (by decide +kernel)]; kernel_rfl) | (rw [if_neg (by decide +kernel)]; exact ⟨rfl, rfl⟩))
  (fun os started H enc _ => Jb os started H enc)
theorem frameReads_holds : Rows.FrameReadsSaid := Ki
#print axioms frameReads_holds

end Go.Proofs.YtbgcjnfhadhjeaaGreat