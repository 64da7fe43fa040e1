/- Walks by data and names, part 23: A nil slice is a row of one's own; rows may be named anew. -/
import Derived.Test.YtkjpcjccddggoaaGreatQk18
namespace Go.Proofs.YtkjpcjccddggoaaGreat
open Go.RowKit
section
variable {P : Program} {cx : Cx} {Q : VE → St → Prop} {tm : List (Nat × V)} {st : List E} {nb : Nat}
theorem Sim.newNil {g : G} {a : Act} {w : World} (h : Sim cx g a w ⟨tm, st, nb⟩) (e : TypeId) (sz : Nat) :
    ∃ g', Evo cx.B g w g' w ∧ Sim cx g' a w ⟨tm, .r true true nb 0 e sz [] :: st, nb + 1⟩ ∧ vrep cx.B g' w (.row nb 0) (.slice none 0 0) := by
  have hup := h.inv.up (Nat.le_succ nb)
  obtain ⟨m1, m2, m3, m4⟩ := new_row (u := .slice none 0 0) (e := e) (sz := sz) (l := []) (xs := []) hup h.inv.free (Nat.lt_succ_self _) (Below.refl _ w) (by simp only [drepss]) ⟨by simp, by simp⟩ ⟨by simp, .inl ⟨rfl, rfl⟩⟩
  exact ⟨_, m1.evo, ⟨h.size, fun hx => m1.evo.vrep (h.tm hx), m2.cons (h.st.new m1 hup h.inv.free), m3, h.defers.evo m1.evo⟩, m4⟩
theorem Sim.nilT {g : G} {a : Act} {w : World} (h : Sim cx g a w ⟨tm, st, nb⟩) {t : Tmp} (e : TypeId) (sz : Nat) (ht : lookT t tm = some (.d (.lit (.slice none 0 0)))) :
    ∃ g', Evo cx.B g w g' w ∧ Sim cx g' a w ⟨(t, .row nb 0) :: tm, .r true true nb 0 e sz [] :: st, nb + 1⟩ := by
  obtain ⟨g', h1, h2, h3⟩ := h.newNil e sz
  refine ⟨g', h1, h2.size, fun {t' v} hx => ?_, h2.st, h2.inv, h2.defers⟩
  simp only [lookT] at hx
  split at hx
  · rename_i hb
    have := Nat.eq_of_beq_eq_true hb
    subst this
    cases hx
    have hv := h.tm ht
    simp only [vrep, drep] at hv
    rw [hv]; exact h3
  · exact h2.tm hx
theorem vw_nilT {c : Code} (t : Tmp) (e : TypeId) (sz : Nat) (ht : lookT t tm = some (.d (.lit (.slice none 0 0)))) (k : VW P cx c ⟨(t, .row nb 0) :: tm, .r true true nb 0 e sz [] :: st, nb + 1⟩ Q) : VW P cx c ⟨tm, st, nb⟩ Q := fun n g0 w0 g a w hE hS => by
  obtain ⟨g', h1, h2⟩ := hS.nilT e sz ht
  exact k n g0 w0 g' a w (hE.trans h1) h2
theorem SimS.nilC {B : Nat} {g : G} {w : World} (hs : SimS B g w st) (hi : Inv B nb g w) {k off : Nat} (e : TypeId) (sz : Nat) (ht : cellAt k off st = some (.d (.lit (.slice none 0 0)))) :
    ∃ g', Evo B g w g' w ∧ vrep B g' w (.row nb 0) (.slice none 0 0) ∧ SimS B g' w (.c k off [.row nb 0] :: .r true true nb 0 e sz [] :: st) ∧ Inv B (nb + 1) g' w := by
  have hup := hi.up (Nat.le_succ nb)
  obtain ⟨n1, n2, n3, n4⟩ := new_row (u := .slice none 0 0) (e := e) (sz := sz) (l := []) (xs := []) hup hi.free (Nat.lt_succ_self _) (Below.refl _ w) (by simp only [drepss]) ⟨by simp, by simp⟩ ⟨by simp, .inl ⟨rfl, rfl⟩⟩
  obtain ⟨b, rcs, ty, u, m1, m2, m3, m4⟩ := hs.cell ht
  simp only [vrep, drep] at m4
  subst m4
  refine ⟨_, n1.evo, n4, SimS.cons ⟨fun {k' o' v} hc => ?_, fun hr => by simp [rowAt] at hr, fun hl => by simp [loopAt] at hl⟩ (n2.cons (hs.new n1 hup hi.free)), n3⟩
  simp only [cellAt] at hc
  split at hc
  · rename_i hk
    have := Nat.eq_of_beq_eq_true hk
    subst this
    split at hc
    · rename_i ho
      have ho := Nat.le_of_ble_eq_true ho
      split at hc
      · rename_i v' hv
        cases hc
        rw [List.getElem?_singleton] at hv
        split at hv
        · rename_i h0
          cases hv
          have : o' = off := by omega
          subst this
          exact ⟨b, rcs, ty, _, n1.evo.bx m1, m2, m3, n4⟩
        · cases hv
      · cases hc
    · cases hc
  · cases hc
theorem Sim.nilC {g : G} {a : Act} {w : World} (h : Sim cx g a w ⟨tm, st, nb⟩) {k off : Nat} (e : TypeId) (sz : Nat) (ht : cellAt k off st = some (.d (.lit (.slice none 0 0)))) :
    ∃ g', Evo cx.B g w g' w ∧ Sim cx g' a w ⟨tm, .c k off [.row nb 0] :: .r true true nb 0 e sz [] :: st, nb + 1⟩ := by
  obtain ⟨g', h1, _, h3, h4⟩ := h.st.nilC h.inv e sz ht
  exact ⟨g', h1, h.size, fun hx => h1.vrep (h.tm hx), h3, h4, h.defers.evo h1⟩
theorem vw_nilC {c : Code} (k off : Nat) (e : TypeId) (sz : Nat) (ht : cellAt k off st = some (.d (.lit (.slice none 0 0)))) (h : VW P cx c ⟨tm, .c k off [.row nb 0] :: .r true true nb 0 e sz [] :: st, nb + 1⟩ Q) : VW P cx c ⟨tm, st, nb⟩ Q := fun n g0 w0 g a w hE hS => by
  obtain ⟨g', h1, h2⟩ := hS.nilC e sz ht
  exact h n g0 w0 g' a w (hE.trans h1) h2
end
end Go.Proofs.YtkjpcjccddggoaaGreat
