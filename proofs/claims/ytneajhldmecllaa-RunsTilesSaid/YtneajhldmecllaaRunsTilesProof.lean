/- RunsTiles: for every row of tiles, and bytes, the law returns true, and turns nothing that was there; no condition. -/
import Derived.Test.YtneajhldmecllaaRows
import Derived.Test.YtneajhldmecllaaTilesLaw
import Derived.Test.YtneajhldmecllaaOpenTiles
import Derived.ShutString
import Derived.ChangeOld
namespace Go.Proofs.Ytneajhldmecllaa
open Go.ChangeShapes Go.WideShapes Go.ChangeAt Go.RowKit

theorem l_own : ownKnob Try.prog.godebug = none := by kernel_rfl
theorem l_laidOut : laidOutB Try.prog = true := by kernel_rfl

set_option maxRecDepth 100000 in
theorem tiles_lifted (os : Os) (started : os.Started) (H : Type) (enc : TypeId × Value → H) :
    ReturnsInHanded {} Try.checked os 3 .any (Rows.runsTilesSpec.pre6 enc Try.prog Try.f3 Rows.runsTilesRow.domain false) (Rows.runsTilesSpec.post enc Try.prog Try.f3 false true false false) := by
  refine returnsInHanded_of_change (C := Try.checked) l_own started (by kernel_rfl) Try.func3
    (ChangeSpec.witness6 (enc := enc) (C := Try.checked) false ⟨#[], #[.slice none 0 0, .slice none 0 0], []⟩ 8 (by kernel_rfl) (by kernel_rfl) (by kernel_rfl) (by kernel_rfl)) ?_
  intro W base args ds gs before hval0 hW hcnd _
  have hval : ∀ (j : Nat) t v, Try.f3.params[j]? = some t → args[j]? = some v → Value.okWide Try.prog W .any base t v := hval0
  have hW' := hW
  obtain ⟨p, q, hA0, hV, rfl, hfz, hnd⟩ := hW
  have hA : DataW.TrodAll enc Try.prog W 0 (fun _ => true) true Try.f3.params.toList args.toList ds p := hA0
  rw [Try.params3] at hA hval
  obtain ⟨v0, vs0, d0, ds0, p0, q0, hargs, rfl, rfl, h0, r0⟩ := trodAll_cons hA
  obtain ⟨v1, vs1, d1, ds1, p1, q1, rfl, rfl, rfl, h1, r1⟩ := trodAll_cons r0
  obtain ⟨rfl, rfl, rfl⟩ := trodAll_nil r1
  obtain rfl : args = #[v0, v1] := by cases args; simp_all
  obtain ⟨rfl, rfl⟩ := trodVars_none hV
  obtain ⟨a0, len0, cap0, rfl⟩ := okWide_slice Try.underlying22 (hval 0 22 v0 rfl rfl)
  obtain ⟨a1, len1, cap1, rfl⟩ := okWide_slice Try.underlying23 (hval 1 23 v1 rfl rfl)
  have k0 := h0
  have k1 := h1
  have lt0 : ∀ x ∈ p0, x.block < W.heap.size := by obtain ⟨m, hm⟩ := k0; exact DataW.trod_lt m _ _ _ hm
  have lt1 : ∀ x ∈ p1, x.block < W.heap.size := by obtain ⟨m, hm⟩ := k1; exact DataW.trod_lt m _ _ _ hm
  obtain ⟨L, _, w0⟩ : ∃ L : List (List Col), L.length = len0 ∧ Tiles W (.slice a0 len0 cap0) L := by
    obtain ⟨fuel, hf⟩ := h0
    exact tiles_of_trod hf
  obtain ⟨l, _, w1⟩ : ∃ l : List UInt8, l.length = len1 ∧ Bytes W (.slice a1 len1 cap1) l := by
    obtain ⟨fuel, hf⟩ := h1
    exact bytes_of_trod hf
  clear hA0 hval0
  refine (law_tiles _ _ L l W w0 w1).mono fun e W' ⟨he, bel⟩ => ?_
  subst he
  exact ⟨_, rfl, _, _, _, [], _, [], hW', trodAll_mk1 (shut_bool Try.underlying4 _), (trodAll_cons_mk (Below.trod l_laidOut (by kernel_rfl) (of_decide_eq_true (by kernel_rfl)) k0 bel lt0) (trodAll_cons_mk (Below.trod l_laidOut (by kernel_rfl) (of_decide_eq_true (by kernel_rfl)) k1 bel lt1) trodAll_mk0)), rfl, bel.frame _, fun h => by cases h⟩

theorem runsTiles_over : Rows.runsTilesRow.holds Try.pinned (OpenSpec.ofChange Rows.runsTilesSpec) :=
  OpenClaim.holds_of_wide 3 Try.f3 rfl rfl rfl rfl rfl rfl rfl ⟨rfl, rfl, rfl, rfl, rfl⟩ rfl rfl rfl rfl rfl (by kernel_rfl) Try.func3 (by kernel_rfl)
    (of_decide_eq_true (by kernel_rfl)) (by unfold Func.isWrapper; first | (rw [if_pos (by decide +kernel)]; kernel_rfl) | (rw [if_neg (by decide +kernel)]; exact ⟨rfl, rfl⟩))
    (fun os started H enc _ => tiles_lifted os started H enc)

/-- RunsTiles holds as it is stated. -/
theorem runsTiles_holds : Rows.RunsTilesSaid := runsTiles_over
#print axioms runsTiles_holds

end Go.Proofs.Ytneajhldmecllaa
