/- Walks by data and names, part 7: Contracts over slices that read so (IsSl), as contracts over data (VP). -/
import Derived.Test.YtkjpcjccddggoaaGreatQk6
namespace Go.Proofs.YtkjpcjccddggoaaGreat
open Go.RowKit
section
variable {B : Nat} {U : Nat → Prop} {w : World}
theorem dreps_lits : ∀ {vs cs : List Value}, dreps B U w (vs.map .lit) cs → cs = vs
  | [], _, h => by simpa only [List.map_nil, dreps] using h
  | v :: vs, _, h => by
    simp only [List.map_cons, dreps, drep] at h
    obtain ⟨y, ys, rfl, rfl, k⟩ := h
    rw [dreps_lits k]
theorem drepss_lits {α : Type} (g : α → List Value) : ∀ {L : List α} {cs : List Value}, drepss B U w (L.map fun x => (g x).map .lit) cs → cs = L.flatMap g
  | [], _, h => by simpa only [List.map_nil, drepss, List.flatMap_nil] using h
  | x :: L, _, h => by
    simp only [List.map_cons, drepss] at h
    obtain ⟨c1, c2, rfl, k1, k2⟩ := h
    rw [dreps_lits k1, drepss_lits g k2, List.flatMap_cons]
theorem dreps_lits_mk : ∀ (vs : List Value), dreps B U w (vs.map .lit) vs
  | [] => by simp only [List.map_nil, dreps]
  | v :: vs => by simp only [List.map_cons, dreps, drep]; exact ⟨v, vs, rfl, rfl, dreps_lits_mk vs⟩
theorem drepss_lits_mk {α : Type} (g : α → List Value) : ∀ (L : List α), drepss B U w (L.map fun x => (g x).map .lit) (L.flatMap g)
  | [] => by simp only [List.map_nil, drepss, List.flatMap_nil]
  | x :: L => by simp only [List.map_cons, drepss, List.flatMap_cons]; exact ⟨_, _, rfl, dreps_lits_mk _, drepss_lits_mk g L⟩
/-- a slice of plain elements reads so -/
theorem isSl_of {α : Type} (g : α → List Value) {c f : Bool} {L : List α} {u : Value} (h : drep B U w (.sl c f (L.map fun x => (g x).map .lit)) u) : IsSl w u L.length (L.flatMap g) := by
  simp only [drep] at h
  obtain ⟨a, cap, cs, e1, e2, e3, _, e5, _, _, e7, e8⟩ := h
  rw [List.length_map] at e1 e2
  rw [drepss_lits g e8] at e7
  exact ⟨a, cap, e1, e2, e3, e5, fun j u hj => by
    obtain ⟨b, o, h1, _, h3⟩ := e7 j u hj
    exact ⟨b, o, h1, h3⟩⟩
/-- what a call owns, as data that is new -/
theorem own_sl {α : Type} (g : α → List Value) {sz : Nat} (hg : ∀ x, (g x).length = sz) {e : TypeId} {L : List α} {v : Value} (h : w.ownsRow B e sz v L.length (L.flatMap g)) (h1 : ∀ u ∈ L.flatMap g, u.oneCell' = true) (hU : ∀ b, B ≤ b → U b) : drep B U w (.sl false true (L.map fun x => (g x).map .lit)) v := by
  refine ownsRow_sl (sz := sz) (e := e) (drepss_lits_mk g L) (fun x hx => ?_) h1 (by rw [List.length_map]; exact ownsRow_base h (Nat.zero_le _)) (fun _ b hb => (h.lt b hb).1) fun b hb => hU b (h.lt b hb).1
  obtain ⟨y, _, rfl⟩ := List.mem_map.1 hx
  rw [List.length_map]; exact hg y
end
theorem vp_bridge {P : Program} {f : FuncId} {ds : List D} {r : R} (hrun : ∀ args w, (callFunc f args).run P w = .ok (.enter f args) w)
    (h : ∀ (U : Nat → Prop) (w : World) (us : List Value), dreps w.heap.size U w ds us → Calls P f us.toArray w fun e w' => Below w.heap.size w w' ∧ rrel w.heap.size (fun b => U b ∨ w.heap.size ≤ b) w' r e) : VP P f ds (· = r) :=
  ⟨hrun, fun U w us hu => (h U w us hu).mono fun _ _ ⟨h1, h2⟩ => ⟨h1, r, rfl, h2⟩⟩
end Go.Proofs.YtkjpcjccddggoaaGreat
