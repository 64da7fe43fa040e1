/- Walks by data and names, part 2: Loops in walks: the state at the head, said again in each round; rows are named anew there, and what is no longer used is forgotten. More operations: parts of slices and of values, rows that are made, copied, written out; loops of so many rounds. Rows that are made, copied, written out; values that are put together. -/
import Derived.Laws.MakeOwn
import Derived.Laws.OwnMore
import Derived.LoopNIn
import Derived.Laws.Tables
import Derived.Laws.BytesArg
import Derived.Laws.IdiomStrings
import Derived.Laws.Strings
import Derived.StillTailTactics
import Derived.Deep.RegionHeld3
import Derived.Test.YtjfaihpiohccbaaPk1
namespace Go.Proofs.Ytjfaihpiohccbaa
open Go.RowKit

theorem blt_lt {k n : Nat} (h : Nat.blt k n = true) : k < n := Nat.le_of_ble_eq_true h
section
variable {B : Nat} {g : G} {w : World}
theorem cellsAt_get {k : Nat} {st : List E} : ∀ {n o : Nat} {vs : List V}, cellsAt k o st n = some vs → ∀ {i : Nat} {v : V}, vs[i]? = some v → cellAt k (o + i) st = some v
  | 0, o, vs, h, i, v, hv => by simp only [cellsAt, Option.some.injEq] at h; subst h; simp at hv
  | n + 1, o, vs, h, i, v, hv => by
    simp only [cellsAt] at h
    split at h
    · cases h
    · rename_i x hx
      split at h
      · cases h
      · rename_i xs hxs
        cases h
        cases i with
        | zero => simp at hv; subst hv; exact hx
        | succ i => simp at hv; have := cellsAt_get hxs hv; rwa [show o + 1 + i = o + (i + 1) by omega] at this
end
def memB (k : Nat) : List Nat → Bool
  | [] => false
  | x :: xs => match Nat.beq k x with
    | true => true
    | false => memB k xs
theorem memB_iff {k : Nat} : ∀ {l : List Nat}, memB k l = true ↔ k ∈ l
  | [] => by simp [memB]
  | x :: xs => by
    simp only [memB, List.mem_cons]
    split
    · rename_i h; simp [Nat.eq_of_beq_eq_true h]
    · rename_i h
      rw [memB_iff]
      constructor
      · exact .inr
      · rintro (rfl | h2)
        · rw [Nat.beq_refl] at h; cases h
        · exact h2
/-- the one state is one of those that the other describes -/
def Sub (cx : Cx) (s s' : St) : Prop := ∀ g0 w0 g a w, Ext cx.m g0 w0 g w → Sim cx g a w s → ∃ g', Ext cx.m g0 w0 g' w ∧ Sim cx g' a w s'

/-- a row's name at the head, and its name and time where a round ends -/
abbrev Ren := List (Nat × Nat × Nat)
def lookR (k : Nat) : Ren → Option (Nat × Nat)
  | [] => none
  | (k', a, v) :: r => match Nat.beq k k' with
    | true => some (a, v)
    | false => lookR k r
def G.ren (g : G) (ρ : Ren) (n : Nat) : G :=
  ⟨g.ex, fun k => if k < n then g.bx k else none,
   fun k => if k < n then (match lookR k ρ with | some p => g.rb p.1 | none => if memB k (ρ.map (·.2.1)) = true then none else g.rb k) else none,
   fun k ver => if k < n then (match lookR k ρ with | some p => if ver = 0 then g.rw p.1 p.2 else none | none => g.rw k ver) else none⟩
def renOk (m : Nat) (ρ : Ren) : Bool := decide ((ρ.map (·.1)).Nodup) && decide ((ρ.map (·.2.1)).Nodup) && ρ.all fun p => decide (m ≤ p.1)
theorem lookR_get {k : Nat} {p : Nat × Nat} : ∀ {ρ : Ren}, lookR k ρ = some p → ∃ i : Nat, ρ[i]? = some (k, p.1, p.2)
  | [], h => by simp [lookR] at h
  | (k', a, v) :: r, h => by
    simp only [lookR] at h
    split at h
    · rename_i hb
      have := Nat.eq_of_beq_eq_true hb
      subst this
      cases h
      exact ⟨0, rfl⟩
    · obtain ⟨i, hi⟩ := lookR_get h
      exact ⟨i + 1, by simpa using hi⟩
theorem renOk_spec {m : Nat} {ρ : Ren} (h : renOk m ρ = true) : (∀ {k k' : Nat} {p q : Nat × Nat}, lookR k ρ = some p → lookR k' ρ = some q → p.1 = q.1 → k = k') ∧ (∀ {k : Nat} {p : Nat × Nat}, lookR k ρ = some p → m ≤ k ∧ memB p.1 (ρ.map (·.2.1)) = true) := by
  simp only [renOk, Bool.and_eq_true, decide_eq_true_eq, List.all_eq_true] at h
  refine ⟨fun {k k' p q} h1 h2 e => ?_, fun {k p} h1 => ?_⟩
  · obtain ⟨i, hi⟩ := lookR_get h1
    obtain ⟨j, hj⟩ := lookR_get h2
    have e1 : (ρ.map (·.2.1))[i]? = some p.1 := by simp [hi]
    have e2 : (ρ.map (·.2.1))[j]? = some q.1 := by simp [hj]
    have : i = j := (List.getElem?_inj (List.getElem?_eq_some_iff.1 e1).1 h.1.2).1 (e1.trans (by rw [e2, e]))
    subst this
    rw [hi] at hj; simp only [Option.some.injEq, Prod.mk.injEq] at hj; exact hj.1
  · obtain ⟨i, hi⟩ := lookR_get h1
    have hm := List.mem_of_getElem? hi
    exact ⟨h.2 _ hm, memB_iff.2 (List.mem_map.2 ⟨_, hm, rfl⟩)⟩

section
variable {B n nb m : Nat} {ρ : Ren} {g : G} {w : World} {st : List E}
theorem ren_own {b : Nat} (h : (g.ren ρ n).own b) : g.own b := by
  rcases h with h | ⟨k, h⟩ | ⟨k, h⟩
  · exact .inl h
  · simp only [G.ren] at h
    split at h
    · exact .inr (.inl ⟨k, h⟩)
    · cases h
  · simp only [G.ren] at h
    split at h
    · split at h
      · exact .inr (.inr ⟨_, h⟩)
      · split at h
        · cases h
        · exact .inr (.inr ⟨k, h⟩)
    · cases h
theorem ren_prot {b : Nat} (h : g.prot b) : (g.ren ρ n).prot b := fun ho => h (ren_own ho)
theorem ren_inv (h : Inv B nb g w) (hρ : renOk m ρ = true) : Inv B n (g.ren ρ n) w := by
  obtain ⟨hi, hk⟩ := renOk_spec hρ
  have bxd : ∀ {k b}, (g.ren ρ n).bx k = some b → k < n ∧ g.bx k = some b := fun {k b} hb => by
    simp only [G.ren] at hb
    split at hb
    · rename_i hn; exact ⟨hn, hb⟩
    · cases hb
  have rbd : ∀ {k b}, (g.ren ρ n).rb k = some b → k < n ∧ ((∃ p, lookR k ρ = some p ∧ g.rb p.1 = some b) ∨ (lookR k ρ = none ∧ memB k (ρ.map (·.2.1)) = false ∧ g.rb k = some b)) := fun {k b} hb => by
    simp only [G.ren] at hb
    split at hb
    · rename_i hn
      refine ⟨hn, ?_⟩
      split at hb
      · rename_i p hp; exact .inl ⟨p, hp, hb⟩
      · rename_i hp
        split at hb
        · cases hb
        · rename_i hm; exact .inr ⟨hp, by simpa using hm, hb⟩
    · cases hb
  refine ⟨fun {k b} hb => ?_, fun {k b} hb => ?_, fun {k j v} hb => ?_, fun {i j b} h1 h2 => ?_, fun {i j b} h1 h2 => ?_, fun {i j b} h1 h2 => ?_, h.exlt, fun {i b} hb he => ?_, fun {i b} hb he => ?_, h.base⟩
  · obtain ⟨h1, h2⟩ := bxd hb; exact ⟨(h.bxlt h2).1, h1⟩
  · obtain ⟨h1, ⟨p, _, h2⟩ | ⟨_, _, h2⟩⟩ := rbd hb
    · exact ⟨(h.rblt h2).1, h1⟩
    · exact ⟨(h.rblt h2).1, h1⟩
  · simp only [G.ren] at hb
    split at hb
    · assumption
    · cases hb
  · exact h.bxinj (bxd h1).2 (bxd h2).2
  · obtain ⟨_, ⟨p, a1, a2⟩ | ⟨a1, a2, a3⟩⟩ := rbd h1 <;> obtain ⟨_, ⟨q, c1, c2⟩ | ⟨c1, c2, c3⟩⟩ := rbd h2
    · exact hi a1 c1 (h.rbinj a2 c2)
    · have := h.rbinj a2 c3; have h3 := (hk a1).2; rw [this, c2] at h3; cases h3
    · have := h.rbinj c2 a3; have h3 := (hk c1).2; rw [this, a2] at h3; cases h3
    · exact h.rbinj a3 c3
  · obtain ⟨_, ⟨q, c1, c2⟩ | ⟨c1, c2, c3⟩⟩ := rbd h2
    · exact h.apart (bxd h1).2 c2
    · exact h.apart (bxd h1).2 c3
  · exact h.exbx (bxd hb).2 he
  · obtain ⟨_, ⟨q, c1, c2⟩ | ⟨c1, c2, c3⟩⟩ := rbd hb
    · exact h.exrb c2 he
    · exact h.exrb c3 he

/-- what the one value says, the other says in the new names -/
def RLe (n : Nat) (ρ : Ren) (st : List E) (vl vc : V) : Prop := ∀ B g w u, SimS B g w st → vrep B g w vc u → vrep B (g.ren ρ n) w vl u
def RLes (n : Nat) (ρ : Ren) (st : List E) (vl vc : List V) : Prop := ∀ B g w u, SimS B g w st → vreps B g w vc u → vreps B (g.ren ρ n) w vl u
theorem rle_nil : RLes n ρ st [] [] := fun _ _ _ _ _ h => by simpa only [vreps] using h
theorem rle_cons {x y : V} {xs ys : List V} (h : RLe n ρ st x y) (hs : RLes n ρ st xs ys) : RLes n ρ st (x :: xs) (y :: ys) := fun B g w u k h2 => by
  simp only [vreps] at h2 ⊢
  obtain ⟨z, zs, e, k1, k2⟩ := h2
  exact ⟨z, zs, e, h _ _ _ _ k k1, hs _ _ _ _ k k2⟩
theorem rle_d {x y : D} {v : V} (h : argD st v = some y) (hd : DL y x) : RLe n ρ st (.d x) v := fun B g w u k hu => by
  have := argD_rep k h hu
  simp only [vrep]
  exact drep_mono (Nat.le_refl _) (fun b _ hb => ⟨ren_prot hb, rfl⟩) (hd.le _ _ _ _ _ this)
theorem rle_any {v : V} : RLe n ρ st (.d .any) v := fun B g w u _ _ => by simp only [vrep, drep]
theorem rle_dd {x : D} : RLe n ρ st (.d x) (.d x) := fun B g w u _ hu => by
  simp only [vrep] at hu ⊢
  exact drep_mono (Nat.le_refl _) (fun b _ hb => ⟨ren_prot hb, rfl⟩) hu
theorem rle_ep {x : List D} : RLe n ρ st (.ep x) (.ep x) := fun B g w u _ hu => by
  simp only [vrep] at hu ⊢
  obtain ⟨b, o, cs, e, k1, k2⟩ := hu
  exact ⟨b, o, cs, e, k1.imp fun b hb => ren_prot hb, dreps_mono (Nat.le_refl _) (fun b _ hb => ⟨ren_prot hb, rfl⟩) k2⟩
theorem rle_ptr {i off : Nat} (hi : Nat.blt i n = true) : RLe n ρ st (.ptr i off) (.ptr i off) := fun B g w u _ hu => by
  simp only [vrep] at hu ⊢
  obtain ⟨b, hb, e⟩ := hu
  exact ⟨b, by simp only [G.ren]; rw [if_pos (blt_lt hi)]; exact hb, e⟩
theorem rle_sv {i off l c sz : Nat} (hi : Nat.blt i n = true) : RLe n ρ st (.sv i off l c sz) (.sv i off l c sz) := fun B g w u _ hu => by
  simp only [vrep] at hu ⊢
  obtain ⟨b, hb, e⟩ := hu
  exact ⟨b, by simp only [G.ren]; rw [if_pos (blt_lt hi)]; exact hb, e⟩
theorem rle_yl {i : Nat} (hi : Nat.blt i n = true) : RLe n ρ st (.yl i) (.yl i) := fun B g w u _ hu => by
  simp only [vrep] at hu ⊢
  obtain ⟨b, hb, e⟩ := hu
  exact ⟨b, by simp only [G.ren]; rw [if_pos (blt_lt hi)]; exact hb, e⟩
theorem rle_row {i k v : Nat} (hi : Nat.blt i n = true) (h : lookR i ρ = some (k, v)) : RLe n ρ st (.row i 0) (.row k v) := fun B g w u _ hu => by
  simp only [vrep] at hu ⊢
  exact ⟨by simp only [G.ren, h]; rw [if_pos (blt_lt hi)]; simp only [if_true]; exact hu.1, hu.2⟩
theorem rle_rowk {i v : Nat} (hi : Nat.blt i n = true) (h : lookR i ρ = none) : RLe n ρ st (.row i v) (.row i v) := fun B g w u _ hu => by
  simp only [vrep] at hu ⊢
  exact ⟨by simp only [G.ren, h]; rw [if_pos (blt_lt hi)]; exact hu.1, hu.2⟩
theorem rle_rv {i k v l : Nat} (hi : Nat.blt i n = true) (h : lookR i ρ = some (k, v)) : RLe n ρ st (.rv i 0 l) (.rv k v l) := fun B g w u _ hu => by
  simp only [vrep] at hu ⊢
  obtain ⟨a, m, c, e, hu⟩ := hu
  exact ⟨a, m, c, by simp only [G.ren, h]; rw [if_pos (blt_lt hi), if_pos trivial]; exact e, hu⟩
theorem rle_agg {xs ys : List V} (h : RLes n ρ st xs ys) : RLe n ρ st (.agg xs) (.agg ys) := fun B g w u k hu => by
  simp only [vrep] at hu ⊢
  obtain ⟨cs, e, hu⟩ := hu
  exact ⟨cs, e, h _ _ _ _ k hu⟩
theorem rle_tup {xs ys : List V} (h : RLes n ρ st xs ys) : RLe n ρ st (.tup xs) (.tup ys) := fun B g w u k hu => by
  simp only [vrep] at hu ⊢
  obtain ⟨cs, e, hu⟩ := hu
  exact ⟨cs, e, h _ _ _ _ k hu⟩
theorem rle_ifc {t : TypeId} {x y : V} (h : RLe n ρ st x y) : RLe n ρ st (.ifc t x) (.ifc t y) := fun B g w u k hu => by
  simp only [vrep] at hu ⊢
  obtain ⟨cs, e, hu⟩ := hu
  exact ⟨cs, e, h _ _ _ _ k hu⟩
theorem rle_fn {f : Fn} {xs ys xs' ys' : List V} (h : RLes n ρ st xs ys) (h' : RLes n ρ st xs' ys') : RLe n ρ st (.fn f xs xs') (.fn f ys ys') := fun B g w u k hu => by
  simp only [vrep] at hu ⊢
  obtain ⟨a, b, e, k1, k2⟩ := hu
  exact ⟨a, b, e, h _ _ _ _ k k1, h' _ _ _ _ k k2⟩

def TmR (n : Nat) (ρ : Ren) (st : List E) (tm : List (Nat × V)) : List (Nat × V) → Prop
  | [] => True
  | (t, v') :: r => (∃ v, lookT t tm = some v ∧ RLe n ρ st v' v) ∧ TmR n ρ st tm r
theorem tmR_look {tm : List (Nat × V)} (hs : SimS B g w st) : ∀ {r : List (Nat × V)}, TmR n ρ st tm r → ∀ {t v'}, lookT t r = some v' → ∃ v, lookT t tm = some v ∧ ∀ u, vrep B g w v u → vrep B (g.ren ρ n) w v' u
  | [], _, t, v, h => by simp [lookT] at h
  | (t', v') :: r, hs', t, v, h => by
    simp only [lookT] at h
    split at h
    · rename_i hb
      have := Nat.eq_of_beq_eq_true hb
      subst this
      cases h
      obtain ⟨⟨v0, h1, h2⟩, _⟩ := hs'
      exact ⟨v0, h1, fun u => h2 B g w u hs⟩
    · exact tmR_look hs hs'.2 h
def EntR (n : Nat) (ρ : Ren) (st : List E) : List E → Prop
  | [] => True
  | .c k off vs :: r => (Nat.blt k n = true ∧ ∃ vs', cellsAt k off st vs.length = some vs' ∧ RLes n ρ st vs vs') ∧ EntR n ρ st r
  | .r o nw k ver e sz l :: r => (Nat.blt k n = true ∧ ((ver = 0 ∧ ∃ a v, lookR k ρ = some (a, v) ∧ rowAt a st = some (o, nw, v, e, sz, l)) ∨ (lookR k ρ = none ∧ memB k (ρ.map (·.2.1)) = false ∧ rowAt k st = some (o, nw, ver, e, sz, l)))) ∧ EntR n ρ st r
  | .y k lp T tm :: r => (Nat.blt k n = true ∧ ∃ tm', loopAt k st = some (lp, T, tm') ∧ TmR n ρ st tm' tm) ∧ EntR n ρ st r
theorem entR_cell (hs : SimS B g w st) : ∀ {st0 : List E}, EntR n ρ st st0 → ∀ {i off : Nat} {v : V}, cellAt i off st0 = some v → ∃ b rcs ty u, (g.ren ρ n).bx i = some b ∧ w.heap[b]? = some (.cells rcs ty (0, 0)) ∧ rcs[off]? = some u ∧ vrep B (g.ren ρ n) w v u
  | [], _, i, off, v, h => by simp [cellAt] at h
  | .c i' o' vs :: r, he, i, off, v, h => by
    simp only [cellAt] at h
    split at h
    · rename_i hi
      have := Nat.eq_of_beq_eq_true hi
      subst this
      split at h
      · rename_i ho
        have ho := Nat.le_of_ble_eq_true ho
        split at h
        · rename_i v' hv
          cases h
          obtain ⟨⟨hm, vs', hc, hle⟩, _⟩ := he
          have hlen := (List.getElem?_eq_some_iff.1 hv).1
          have hlen2 := cellsAt_len hc
          obtain ⟨y, hy⟩ : ∃ y, vs'[off - o']? = some y := ⟨_, List.getElem?_eq_getElem (by omega)⟩
          have h1 := cellsAt_get hc hy
          rw [show o' + (off - o') = off by omega] at h1
          obtain ⟨b, rcs, ty, u, m1, m2, m3, m4⟩ := hs.cell h1
          obtain ⟨us, q1, q2⟩ := cellsAt_rep hs m1 hc
          obtain ⟨z, hz, hz2⟩ := vreps_get q1 hy
          have hzu : z = u := by
            obtain ⟨b', o2, e, _, e3⟩ := q2 _ _ hz
            cases e
            have : w.cell? ⟨b, o' + (off - o'), none⟩ = some u := by
              rw [show o' + (off - o') = off by omega, cell_of_row w b off rcs ty (0, 0) m2]; exact m3
            rw [this] at e3; cases e3; rfl
          subst hzu
          obtain ⟨z', hz', hz2'⟩ := vreps_get (hle _ _ _ _ hs q1) hv
          rw [hz] at hz'; cases hz'
          exact ⟨b, rcs, ty, z, by simp only [G.ren]; rw [if_pos (blt_lt hm)]; exact m1, m2, m3, hz2'⟩
        · exact entR_cell hs he.2 h
      · exact entR_cell hs he.2 h
    · exact entR_cell hs he.2 h
  | .r .. :: r, he, i, off, v, h => by
    simp only [cellAt] at h
    exact entR_cell hs he.2 h
  | .y .. :: r, he, i, off, v, h => by
    simp only [cellAt] at h
    exact entR_cell hs he.2 h
theorem entR_loop (hs : SimS B g w st) : ∀ {st0 : List E}, EntR n ρ st st0 → ∀ {i : Nat} {lp : Option Loop} {T : Array Value} {tm : List (Nat × V)}, loopAt i st0 = some (lp, T, tm) → (∀ r, lp = some r → ∃ b, (g.ren ρ n).bx i = some b ∧ w.heap[b]? = some (.loop r)) ∧ ∀ {t v}, lookT t tm = some v → vrep B (g.ren ρ n) w v (T.getD t undef)
  | [], _, i, lp, T, tm, h => by simp [loopAt] at h
  | .c .. :: r, he, i, lp, T, tm, h => by simp only [loopAt] at h; exact entR_loop hs he.2 h
  | .r .. :: r, he, i, lp, T, tm, h => by simp only [loopAt] at h; exact entR_loop hs he.2 h
  | .y .. :: r, he, i, lp, T, tm, h => by
    simp only [loopAt] at h
    split at h
    · rename_i hb
      have := Nat.eq_of_beq_eq_true hb
      subst this
      cases h
      obtain ⟨⟨hn, tm', hl, htm⟩, _⟩ := he
      obtain ⟨h1, h2⟩ := hs.loop hl
      refine ⟨fun r e => ?_, fun ht => ?_⟩
      · obtain ⟨b, m1, m2⟩ := h1 r e
        exact ⟨b, by simp only [G.ren]; rw [if_pos (blt_lt hn)]; exact m1, m2⟩
      · obtain ⟨v0, e1, e2⟩ := tmR_look hs htm ht
        exact e2 _ (h2 e1)
    · exact entR_loop hs he.2 h
theorem entR_row (hs : SimS B g w st) : ∀ {st0 : List E}, EntR n ρ st st0 → ∀ {k : Nat} {o nw ver e sz l}, rowAt k st0 = some (o, nw, ver, e, sz, l) → ∃ v xs, (g.ren ρ n).rw k ver = some v ∧ drepss B (g.ren ρ n).prot w l xs ∧ ((∀ x ∈ l, x.length = sz) ∧ (∀ u ∈ xs, u.oneCell' = true) ∧ ∀ i v', (g.ren ρ n).rw k i = some v' → i ≤ ver) ∧ (nw = true → ∀ b, v.ownBlock = some b → B ≤ b) ∧
    ((o = true ∧ w.ownsRow 0 e sz v l.length xs ∧ (g.ren ρ n).rb k = v.ownBlock) ∨ (o = false ∧ (g.ren ρ n).rb k = none ∧ drep B (g.ren ρ n).prot w (.sl false nw l) v))
  | [], _, k, o, nw, ver, e, sz, l, h => by simp [rowAt] at h
  | .c .. :: r, he, k, o, nw, ver, e, sz, l, h => by
    simp only [rowAt] at h
    exact entR_row hs he.2 h
  | .y .. :: r, he, k, o, nw, ver, e, sz, l, h => by
    simp only [rowAt] at h
    exact entR_row hs he.2 h
  | .r .. :: r, he, k, o, nw, ver, e, sz, l, h => by
    simp only [rowAt] at h
    split at h
    · rename_i hb
      have := Nat.eq_of_beq_eq_true hb
      subst this
      cases h
      obtain ⟨⟨hn, hk⟩, _⟩ := he
      have hn := blt_lt hn
      have hp : ∀ {x u}, drep B g.prot w x u → drep B (g.ren ρ n).prot w x u := fun hu => drep_mono (Nat.le_refl _) (fun b _ hb => ⟨ren_prot hb, rfl⟩) hu
      rcases hk with ⟨rfl, a, v, h1, h2⟩ | ⟨h1, hm, h2⟩
      · obtain ⟨x, xs, r1, r2, r3, r4, r5⟩ := hs.row h2
        refine ⟨x, xs, by simp only [G.ren, if_pos hn, h1, if_true]; exact r1, drepss_mono (Nat.le_refl _) (fun b _ hb => ⟨ren_prot hb, rfl⟩) r2, ⟨r3.1, r3.2.1, fun i v' hv => ?_⟩, r4, ?_⟩
        · simp only [G.ren, if_pos hn, h1] at hv
          split at hv
          · omega
          · cases hv
        · rcases r5 with ⟨e1, e2, e3⟩ | ⟨e1, e2, e3⟩
          · exact .inl ⟨e1, e2, by simp only [G.ren, if_pos hn, h1]; exact e3⟩
          · exact .inr ⟨e1, by simp only [G.ren, if_pos hn, h1]; exact e2, hp e3⟩
      · obtain ⟨x, xs, r1, r2, r3, r4, r5⟩ := hs.row h2
        refine ⟨x, xs, by simp only [G.ren, if_pos hn, h1]; exact r1, drepss_mono (Nat.le_refl _) (fun b _ hb => ⟨ren_prot hb, rfl⟩) r2, ⟨r3.1, r3.2.1, fun i v' hv => ?_⟩, r4, ?_⟩
        · simp only [G.ren, if_pos hn, h1] at hv
          exact r3.2.2 i v' hv
        · rcases r5 with ⟨e1, e2, e3⟩ | ⟨e1, e2, e3⟩
          · exact .inl ⟨e1, e2, by simp only [G.ren, if_pos hn, h1, hm]; exact e3⟩
          · exact .inr ⟨e1, by simp only [G.ren, if_pos hn, h1, hm]; exact e2, hp e3⟩
    · exact entR_row hs he.2 h
/-- deferred calls that lead to variables alone -/
def DfR (n : Nat) (ρ : Ren) (st : List E) : List (FuncId × List V) → Prop
  | [] => True
  | (_, vs) :: r => RLes n ρ st vs vs ∧ DfR n ρ st r
theorem dfR_l (hs : SimS B g w st) : ∀ {df : List (FuncId × List V)}, DfR n ρ st df → ∀ {ds : List Deferred}, DfL B g w df ds → DfL B (g.ren ρ n) w df ds
  | [], _, _, h => h
  | (_, _) :: _, hd, _, ⟨us, r, e, h1, h2⟩ => ⟨us, r, e, hd.1 _ _ _ _ hs h1, dfR_l hs hd.2 h2⟩
theorem sub_ren {cx : Cx} {tm tm' : List (Nat × V)} {st' : List E} {nb' : Nat} (ρ : Ren) (h1 : TmR nb' ρ st tm tm') (h2 : EntR nb' ρ st st') (hd : DfR nb' ρ st cx.df) (hρ : renOk cx.m ρ = true) (h3 : Nat.ble cx.m nb' = true) : Sub cx ⟨tm, st, nb⟩ ⟨tm', st', nb'⟩ := fun g0 w0 g a w hE hS => by
  have hm := Nat.le_of_ble_eq_true h3
  obtain ⟨hi, hk⟩ := renOk_spec hρ
  have hno : ∀ {k}, k < cx.m → lookR k ρ = none := fun {k} hlt => by
    cases hq : lookR k ρ with
    | none => rfl
    | some p => have := (hk hq).1; omega
  refine ⟨g.ren ρ nb', ⟨hE.os, hE.tape, hE.output, hE.size, fun hk e => ?_, fun hk e => ?_, fun b hb hp => ⟨ren_prot (hE.blk b hb hp).1, (hE.blk b hb hp).2⟩, hE.ex, hE.exblk⟩,
    ⟨hS.size, fun hx => ?_, ⟨fun hc => entR_cell hS.st h2 hc, fun hr => entR_row hS.st h2 hr, fun hl => entR_loop hS.st h2 hl⟩, ren_inv hS.inv hρ, ?_⟩⟩
  · simp only [G.ren]; rw [if_pos (by omega)]; exact hE.bx hk e
  · simp only [G.ren]; rw [if_pos (by omega), hno hk]; exact hE.rw hk e
  · obtain ⟨v, e1, e2⟩ := tmR_look hS.st h1 hx
    exact e2 _ (hS.tm e1)
  · obtain ⟨hm0, bs, r, e, hn, hb, hr⟩ := hS.defers
    exact ⟨hm0, bs, r, e, hn, fun b hb' => ⟨ren_prot (hb b hb').1, (hb b hb').2⟩, dfR_l hS.st hd hr⟩
end


section
variable {P : Program} {cx : Cx} {s : St} {Q : VE → St → Prop}
theorem vw_sub {c : Code} {s' : St} (h : Sub cx s s') (k : VW P cx c s' Q) : VW P cx c s Q := fun n g0 w0 g a w hE hS =>
  let ⟨g', h1, h2⟩ := h g0 w0 g a w hE hS; k n g0 w0 g' a w h1 h2
theorem vl_sub {ops rest : List Oper} {s' : St} (h : Sub cx s s') (k : VL P cx ops rest s' Q) : VL P cx ops rest s Q := fun n g0 w0 g a w hE hS =>
  let ⟨g', h1, h2⟩ := h g0 w0 g a w hE hS; k n g0 w0 g' a w h1 h2

theorem least {p : Nat → Prop} : ∀ n, p n → ∃ m, p m ∧ ∀ k, p k → m ≤ k := by
  intro n
  induction n using Nat.strongRecOn with
  | _ n ih =>
    intro hn
    by_cases h : ∃ k, k < n ∧ p k
    · obtain ⟨k, hk, hp⟩ := h
      exact ih k hk hp
    · exact ⟨n, hn, fun k hk => Nat.le_of_not_lt fun hlt => h ⟨k, hlt, hk⟩⟩
/-- what a round owes -/
def loopV {α : Type} (cx : Cx) (I : α → St) (T : α → Prop) (μ : α → Nat) (x : α) (Q : VE → St → Prop) : VE → St → Prop
  | .normal, s => ∃ y, T y ∧ μ y < μ x ∧ Sub cx s (I y)
  | e, s => Q e s
theorem vw_loop {α : Type} (I : α → St) (T : α → Prop) (μ : α → Nat) {c : Code} (x0 : α) (h0 : Sub cx s (I x0)) (hT : T x0) (step : ∀ x, T x → VW P cx c (I x) (loopV cx I T μ x Q)) : VW P cx (.loop c) s Q := fun n g0 w0 g a w hE hS => by
  classical
  let ok : Nat → Act → World → Prop := fun j a w => ∃ x g, T x ∧ μ x = j ∧ Ext cx.m g0 w0 g w ∧ Sim cx g a w (I x)
  have hleast : ∀ a w, (∃ j, ok j a w) → ∃ m, ok m a w ∧ ∀ k, ok k a w → m ≤ k := fun a w ⟨j, hj⟩ => least j hj
  let m : Act → World → Nat := fun a w => if h : ∃ j, ok j a w then Classical.choose (hleast a w h) else 0
  have hms : ∀ a w, (∃ j, ok j a w) → ok (m a w) a w ∧ ∀ k, ok k a w → m a w ≤ k := fun a w h => by
    have : m a w = Classical.choose (hleast a w h) := dif_pos h
    rw [this]; exact Classical.choose_spec (hleast a w h)
  refine wpIn_loop (fun a w => ∃ j, ok j a w) m ?_ ?_
  · obtain ⟨g', h1, h2⟩ := h0 g0 w0 g a w hE hS
    exact ⟨_, x0, g', hT, rfl, h1, h2⟩
  · intro a w h
    obtain ⟨⟨x, g1, hx, hj, hE1, hS1⟩, _⟩ := hms a w h
    refine wpIn_mono (step x hx n g0 w0 g1 a w hE1 hS1) ?_
    rintro e a' w' ⟨g', s', e', k1, k2, k3, k4⟩
    cases e' with
    | normal =>
      simp only [erel] at k3; subst k3
      obtain ⟨y, hy, hlt, hs⟩ := k4
      obtain ⟨g2, q1, q2⟩ := hs g0 w0 g' a' w' k1 k2
      have h' : ∃ j, ok j a' w' := ⟨_, y, g2, hy, rfl, q1, q2⟩
      refine ⟨h', ?_⟩
      have := (hms a' w' h').2 _ ⟨y, g2, hy, rfl, q1, q2⟩
      omega
    | exit id => simp only [erel] at k3; subst k3; exact ⟨g', s', .exit id, k1, k2, rfl, k4⟩
    | goto id => simp only [erel] at k3; subst k3; exact ⟨g', s', .goto id, k1, k2, rfl, k4⟩
    | ret => simp only [erel] at k3; subst k3; exact ⟨g', s', .ret, k1, k2, rfl, k4⟩
    | panic v => obtain ⟨u, rfl, k⟩ := k3; exact ⟨g', s', .panic v, k1, k2, ⟨u, rfl, k⟩, k4⟩

/-- a piece of code, and what it comes to -/
def cutV {α : Type} (cx : Cx) (I : α → St) (T : α → Prop) (Q : VE → St → Prop) : VE → St → Prop
  | .normal, s => ∃ y, T y ∧ Sub cx s (I y)
  | e, s => Q e s
theorem vw_cut {α : Type} (I : α → St) (T : α → Prop) {x y : Code} (h : VW P cx x s (cutV cx I T Q)) (k : ∀ z, T z → VW P cx y (I z) Q) : VW P cx (.seq x y) s Q := by
  refine vw_seq (h.mono fun e s' hq => ?_)
  cases e with
  | normal => obtain ⟨z, h1, h2⟩ := hq; exact vw_sub h2 (k z h1)
  | exit id => exact hq
  | goto id => exact hq
  | ret => exact hq
  | panic v => exact hq
theorem nx_loop {α : Type} {I : α → St} {T : α → Prop} {μ : α → Nat} {x : α} (y : α) (h1 : T y) (h2 : μ y < μ x) (h3 : Sub cx s (I y)) : loopV cx I T μ x Q .normal s := ⟨y, h1, h2, h3⟩
theorem nx_loopx {α : Type} {I : α → St} {T : α → Prop} {μ : α → Nat} {x : α} {i : Nat} (h : Q (.exit i) s) : loopV cx I T μ x Q (.exit i) s := h
theorem nx_loopr {α : Type} {I : α → St} {T : α → Prop} {μ : α → Nat} {x : α} (h : Q .ret s) : loopV cx I T μ x Q .ret s := h
theorem nx_loopp {α : Type} {I : α → St} {T : α → Prop} {μ : α → Nat} {x : α} {v : V} (h : Q (.panic v) s) : loopV cx I T μ x Q (.panic v) s := h
theorem nx_cut {α : Type} {I : α → St} {T : α → Prop} (y : α) (h1 : T y) (h3 : Sub cx s (I y)) : cutV cx I T Q .normal s := ⟨y, h1, h3⟩
theorem nx_cutx {α : Type} {I : α → St} {T : α → Prop} {i : Nat} (h : Q (.exit i) s) : cutV cx I T Q (.exit i) s := h
theorem nx_cutr {α : Type} {I : α → St} {T : α → Prop} (h : Q .ret s) : cutV cx I T Q .ret s := h
theorem nx_cutp {α : Type} {I : α → St} {T : α → Prop} {v : V} (h : Q (.panic v) s) : cutV cx I T Q (.panic v) s := h
end

end Go.Proofs.Ytjfaihpiohccbaa

namespace Go.Proofs.Ytjfaihpiohccbaa
open Go.RowKit

section
variable {P : Program} {cx : Cx} {s : St} {Q : VE → St → Prop} {ops rest : List Oper}

/-! ### so many rounds -/
def thenR (K : St → Prop) (Q : VE → St → Prop) : VE → St → Prop
  | .normal, s => K s
  | e, s => Q e s
def RV (P : Program) (cx : Cx) (c : Code) (Q : VE → St → Prop) : Nat → St → Prop
  | 0, _ => False
  | m + 1, s => VW P cx c s (thenR (RV P cx c Q m) Q)
theorem vw_rounds (m : Nat) {c : Code} (h : RV P cx c Q m s) : VW P cx (.loop c) s Q := fun n g0 w0 g a w hE hS => by
  refine wpIn_loop_rounds m ?_
  have key : ∀ m s g a w, RV P cx c Q m s → Ext cx.m g0 w0 g w → Sim cx g a w s → Code.roundsIn (FW cx.rd) n P c (vpost cx g0 w0 Q) m a w := by
    intro m
    induction m with
    | zero => intro s g a w h; exact h.elim
    | succ m ih =>
      intro s g a w h hE hS
      rw [roundsIn_succ]
      refine wpIn_mono (h n g0 w0 g a w hE hS) ?_
      rintro e a' w' ⟨g', s', e', k1, k2, k3, k4⟩
      cases e' with
      | normal => simp only [erel] at k3; subst k3; exact ih s' g' a' w' k4 k1 k2
      | exit id => simp only [erel] at k3; subst k3; exact ⟨g', s', .exit id, k1, k2, rfl, k4⟩
      | goto id => simp only [erel] at k3; subst k3; exact ⟨g', s', .goto id, k1, k2, rfl, k4⟩
      | ret => simp only [erel] at k3; subst k3; exact ⟨g', s', .ret, k1, k2, rfl, k4⟩
      | panic v => obtain ⟨u, rfl, k⟩ := k3; exact ⟨g', s', .panic v, k1, k2, ⟨u, rfl, k⟩, k4⟩
  exact key m s g a w h hE hS
theorem rv_id {m : Nat} {c : Code} (h : RV P cx c Q m s) : RV P cx c Q m s := h
theorem rv_succ {m : Nat} {c : Code} (h : VW P cx c s (thenR (RV P cx c Q m) Q)) : RV P cx c Q (m + 1) s := h
theorem nx_rv {K : St → Prop} (h : K s) : thenR K Q .normal s := h
theorem nx_rvx {K : St → Prop} {i : Nat} (h : Q (.exit i) s) : thenR K Q (.exit i) s := h
theorem nx_rvr {K : St → Prop} (h : Q .ret s) : thenR K Q .ret s := h
theorem nx_rvp {K : St → Prop} {v : V} (h : Q (.panic v) s) : thenR K Q (.panic v) s := h

/-! ### parts of values -/
def optV (s : St) : Option Operand → Option (Option Int)
  | none => some none
  | some x => match evalV s x with
    | some (.d (.lit (.int _ n))) => some (some n)
    | _ => none
theorem optV_rep {g : G} {a : Act} {w : World} (hS : Sim cx g a w s) {o : Option Operand} {r : Option Int} (h : optV s o = some r) : (o = none ∧ r = none) ∨ ∃ x k n, o = some x ∧ r = some n ∧ a.eval x = .int k n := by
  cases o with
  | none => simp only [optV, Option.some.injEq] at h; exact .inl ⟨rfl, h.symm⟩
  | some x =>
    simp only [optV] at h
    split at h
    · rename_i k n hx
      cases h
      have := hS.eval hx
      simp only [vrep, drep] at this
      exact .inr ⟨x, k, n, rfl, rfl, this⟩
    · cases h
theorem run_bounds {w : World} {len cap : Nat} {low high : Option Value} {lo hi : Int} (hlo : (low = none ∧ lo = 0) ∨ ∃ k, low = some (.int k lo)) (hhi : (high = none ∧ hi = len) ∨ ∃ k, high = some (.int k hi)) (h1 : 0 ≤ lo) (h2 : lo ≤ hi) (h3 : hi ≤ cap) :
    (Instr.sliceBounds true len cap low high none).run P w = .ok (lo.toNat, hi.toNat, cap) w := by
  have hh : 0 ≤ hi := by omega
  have h4 : lo ≤ hi.toNat := by omega
  rcases hlo with ⟨rfl, rfl⟩ | ⟨k, rfl⟩ <;> rcases hhi with ⟨rfl, rfl⟩ | ⟨k', rfl⟩ <;> simp_all [Instr.sliceBounds, Instr.sliceBound, asIntOf]
theorem run_bounds3 {w : World} {len cap : Nat} {low high : Option Value} {kh km : IntKind} {lo hi mx : Int} (hlo : (low = none ∧ lo = 0) ∨ ∃ k, low = some (.int k lo)) (hhi : high = some (.int kh hi)) (h1 : 0 ≤ lo) (h2 : lo ≤ hi) (h3 : hi ≤ mx) (h4 : mx ≤ cap) :
    (Instr.sliceBounds true len cap low high (some (.int km mx))).run P w = .ok (lo.toNat, hi.toNat, mx.toNat) w := by
  have hh : 0 ≤ hi := by omega
  have hm : 0 ≤ mx := by omega
  have h5 : hi ≤ mx.toNat := by omega
  have h6 : lo ≤ hi.toNat := by omega
  subst hhi
  rcases hlo with ⟨rfl, rfl⟩ | ⟨k, rfl⟩ <;> simp_all [Instr.sliceBounds, Instr.sliceBound, asIntOf]

/-- a part of a slice is one -/
theorem drep_part {B : Nat} {U : Nat → Prop} {w : World} {c f : Bool} {l : List (List D)} {a : Option Addr} {cap : Nat} (h : drep B U w (.sl c f l) (.slice a l.length cap)) {sz : Nat} (hsz : ∀ x ∈ l, x.length = sz) {lo hi m : Nat} (h1 : lo ≤ hi) (h2 : hi ≤ l.length) (h3 : hi ≤ m) (h4 : m ≤ cap) {c' : Bool} (hc : c' = true → m = hi) :
    drep B U w (.sl c' f ((l.take hi).drop lo)) (.slice (if m = lo then a else a.map (·.add (lo * sz))) (hi - lo) (m - lo)) := by
  simp only [drep] at h ⊢
  obtain ⟨a', cap', cs, e1, e2, e3, e4, e5, e6, e0, e7, e8⟩ := h
  cases e1
  have hlen : ((l.take hi).drop lo).length = hi - lo := by simp; omega
  have hmem : ∀ x ∈ (l.take hi).drop lo, x ∈ l := fun x hx => List.mem_of_mem_take (List.mem_of_mem_drop hx)
  refine ⟨_, m - lo, (cs.take (hi * sz)).drop (lo * sz), by rw [hlen], by rw [hlen]; omega, by omega, fun h => by rw [hlen, hc h], fun h => ?_, ⟨sz, fun x hx => hsz x (hmem x hx)⟩, fun u hu => e0 u (List.mem_of_mem_take (List.mem_of_mem_drop hu)), fun j u hj => ?_, ?_⟩
  · split at h
    · omega
    · cases a with
      | none => have := e5 rfl; omega
      | some _ => cases h
  · have hcs := drepss_len hsz e8
    have hj' := hj
    rw [List.getElem?_drop, List.getElem?_take] at hj
    split at hj
    · rename_i hlt
      obtain ⟨b, o, k1, k2, k3⟩ := e7 _ u hj
      have hne : ¬ m = lo := fun e => by
        have : hi = lo := by omega
        subst this
        omega
      rw [if_neg hne, k1]
      refine ⟨b, o + lo * sz, ?_, k2, by rw [Nat.add_assoc]; exact k3⟩
      simp only [Option.map_some, Option.some.injEq]
      unfold Addr.add
      split
      · rename_i h0; rw [h0]; rfl
      · rfl
    · cases hj
  · have hp1 := (drepss_part hsz e8 hi).1
    have hsz' : ∀ x ∈ l.take hi, x.length = sz := fun x hx => hsz x (List.mem_of_mem_take hx)
    exact (drepss_part hsz' hp1 lo).2
theorem drep_uni {B : Nat} {U : Nat → Prop} {w : World} {c f : Bool} {l : List (List D)} {u : Value} (h : drep B U w (.sl c f l) u) : ∃ a cap, u = .slice a l.length cap ∧ l.length ≤ cap ∧ (c = true → cap = l.length) ∧ ∃ sz, ∀ x ∈ l, x.length = sz := by
  simp only [drep] at h
  obtain ⟨a, cap, cs, e1, e2, e3, e4, e5, e6, _⟩ := h
  exact ⟨a, cap, e1, e2, e4, e6⟩
def cutL (lo hi : Option Int) (l : List (List D)) : List (List D) :=
  match lo, hi with
  | none, none => l
  | some a, none => l.drop a.toNat
  | none, some b => l.take b.toNat
  | some a, some b => (l.take b.toNat).drop a.toNat
theorem cutL_eq (lo hi : Option Int) (l : List (List D)) : cutL lo hi l = (l.take (hi.getD l.length).toNat).drop (lo.getD 0).toNat := by
  cases lo <;> cases hi <;> simp [cutL]
theorem q_slice {t ty e : TypeId} {x : Operand} {low high : Option Operand} {v : V} {c f : Bool} {l : List (List D)} {lo hi : Option Int} {sz by_ : Nat} [hE : SlI P t e sz by_] (hx : evalV s x = some v) (hv : slV s.st v = some (c, f, l)) (hlo : optV s low = some lo) (hhi : optV s high = some hi)
    (h1 : 0 ≤ lo.getD 0) (h2 : lo.getD 0 ≤ hi.getD l.length) (h3 : hi.getD l.length ≤ l.length) (hz : ∀ x ∈ l, x.length = sz) : OpQ P cx (.slice t x low high none) ty s (.d (.sl false f (cutL lo hi l))) := fun g a w hS => by
  have hd := slV_rep hS.st hv (hS.eval hx)
  obtain ⟨ad, cap, hu, hcap, _, _⟩ := drep_uni hd
  rw [hu] at hd
  have hb := run_bounds (P := P) (w := w) (len := l.length) (cap := cap) (low := low.map a.eval) (high := high.map a.eval) (lo := lo.getD 0) (hi := hi.getD l.length) (by
      rcases optV_rep hS hlo with ⟨rfl, rfl⟩ | ⟨y, k, n, rfl, rfl, e⟩
      · exact .inl ⟨rfl, rfl⟩
      · exact .inr ⟨k, by simp [e]⟩) (by
      rcases optV_rep hS hhi with ⟨rfl, rfl⟩ | ⟨y, k, n, rfl, rfl, e⟩
      · exact .inl ⟨rfl, rfl⟩
      · exact .inr ⟨k, by simp [e]⟩) h1 h2 (by omega)
  have hp := drep_part hd hz (lo := (lo.getD 0).toNat) (hi := (hi.getD l.length).toNat) (m := cap) (by omega) (by omega) (by omega) (Nat.le_refl _) (c' := false) (fun h => by cases h)
  refine ⟨_, ?_, by simp only [vrep]; rw [cutL_eq]; exact hp⟩
  simp [execOp, Instr.sliceAt, Instr.slice, hu, run_underlying hE.elem.und w, run_sizeOf_e hE.elem, hb]
theorem q_slice3 {t ty e : TypeId} {x y z : Operand} {low : Option Operand} {v : V} {c f : Bool} {l : List (List D)} {lo : Option Int} {k1 k2 : IntKind} {hi : Int} {sz by_ : Nat} [hE : SlI P t e sz by_] (hx : evalV s x = some v) (hv : slV s.st v = some (c, f, l)) (hlo : optV s low = some lo) (hhi : evalV s y = some (I k1 hi)) (hmx : evalV s z = some (I k2 hi))
    (h1 : 0 ≤ lo.getD 0) (h2 : lo.getD 0 ≤ hi) (h3 : hi ≤ l.length) (hz : ∀ x ∈ l, x.length = sz) : OpQ P cx (.slice t x low (some y) (some z)) ty s (.d (.sl true f (cutL lo (some hi) l))) := fun g a w hS => by
  have hd := slV_rep hS.st hv (hS.eval hx)
  obtain ⟨ad, cap, hu, hcap, _, _⟩ := drep_uni hd
  rw [hu] at hd
  have hy := hS.eval hhi
  have hzz := hS.eval hmx
  simp only [vrep, drep] at hy hzz
  have hb := run_bounds3 (P := P) (w := w) (len := l.length) (cap := cap) (low := low.map a.eval) (high := some (a.eval y)) (kh := k1) (km := k2) (lo := lo.getD 0) (hi := hi) (mx := hi) (by
      rcases optV_rep hS hlo with ⟨rfl, rfl⟩ | ⟨y, k, n, rfl, rfl, e⟩
      · exact .inl ⟨rfl, rfl⟩
      · exact .inr ⟨k, by simp [e]⟩) (by rw [hy]) h1 h2 (by omega) (by omega)
  have hp := drep_part hd hz (lo := (lo.getD 0).toNat) (hi := hi.toNat) (m := hi.toNat) (by omega) (by omega) (Nat.le_refl _) (by omega) (c' := true) (fun _ => rfl)
  refine ⟨_, ?_, by simp only [vrep]; rw [cutL_eq]; exact hp⟩
  rw [hy] at hb
  simp [execOp, Instr.sliceAt, Instr.slice, hu, run_underlying hE.elem.und w, run_sizeOf_e hE.elem, hy, hzz, hb]

theorem q_slicerv {t ty e e' : TypeId} {x y z : Operand} {k ver sz sz' by_ : Nat} {nw : Bool} {l : List (List D)} {k1 k2 : IntKind} {hi : Int} [hE : SlI P t e sz by_] (hx : evalV s x = some (.row k ver)) (hr : rowAt k s.st = some (true, nw, ver, e', sz', l)) (hhi : evalV s y = some (I k1 hi)) (hmx : evalV s z = some (I k2 hi))
    (h1 : 0 ≤ hi) (h3 : hi ≤ l.length) : OpQ P cx (.slice t x none (some y) (some z)) ty s (.rv k ver hi.toNat) := fun g a w hS => by
  have hu := hS.eval hx
  simp only [vrep] at hu
  obtain ⟨v, xs, r1, r2, r3, r4, r5⟩ := hS.st.row hr
  rw [hu.1] at r1; cases r1
  rcases r5 with ⟨_, r5, _⟩ | ⟨h, _⟩
  · have hy := hS.eval hhi
    have hzz := hS.eval hmx
    simp only [vrep, drep] at hy hzz
    have key : ∀ cap, l.length ≤ cap → (Instr.sliceBounds true l.length cap none (some (.int k1 hi)) (some (.int k2 hi))).run P w = .ok ((0 : Int).toNat, hi.toNat, hi.toNat) w := fun cap hcap => by
      have hb := run_bounds3 (P := P) (w := w) (len := l.length) (cap := cap) (low := none) (high := some (a.eval y)) (kh := k1) (km := k2) (lo := 0) (hi := hi) (mx := hi) (.inl ⟨rfl, rfl⟩) (by rw [hy]) (Int.le_refl _) h1 (Int.le_refl _) (by omega)
      rw [hy] at hb
      exact hb
    rcases r5.2 with ⟨hv, hl⟩ | ⟨gb, cap, cur, hv, _, _, hcap, _⟩
    · refine ⟨.slice none hi.toNat hi.toNat, ?_, by simp only [vrep]; exact ⟨none, _, _, by rw [hu.1, hv], rfl⟩⟩
      have := key 0 (by omega)
      rw [hl] at this
      simp [execOp, Instr.sliceAt, Instr.slice, hv, run_underlying hE.elem.und w, run_sizeOf_e hE.elem, hy, hzz, this]
    · refine ⟨.slice (some ⟨gb, 0, none⟩) hi.toNat hi.toNat, ?_, by simp only [vrep]; exact ⟨_, _, cap, by rw [hu.1, hv], rfl⟩⟩
      have ha : (⟨gb, 0, none⟩ : Addr).add 0 = ⟨gb, 0, none⟩ := by simp [Addr.add]
      have := key cap hcap
      simp [execOp, Instr.sliceAt, Instr.slice, hv, run_underlying hE.elem.und w, run_sizeOf_e hE.elem, hy, hzz, this, ha]
  · cases h

/-! ### elements of values -/
theorem part_leaf {w : World} {t : TypeId} {sz : Nat} {z : List Value} [hT : TyI P t false sz z] {cs : Array Value} {o : Nat} {u : Value} (h : cs[o]? = some u) : (part t cs o).run P w = .ok u w := by
  obtain ⟨d, h1, h2⟩ := hT.und
  have hagg : (isAgg t).run P w = .ok false w := by
    unfold isAgg
    rw [Sem.run_bind, run_underlying h1 w]
    cases d <;> simp_all [aggD]
  simp [part, Sem.run_bind, hagg, h]
theorem q_index {t ty e : TypeId} {x y : Operand} {k0 : IntKind} {i : Int} {n sz : Nat} {z : List Value} {v w0 : V} {vs : List V} [hA : ArrI P t n e sz] [hT : TyI P e false sz z] (hx : evalV s x = some v) (hv : cellsV v = some vs) (hagg : leafV v = false) (hy : evalV s y = some (I k0 i)) (h0 : 0 ≤ i) (h1 : i < (n : Int)) (hl : vs[i.toNat * sz]? = some w0) : OpQ P cx (.index t x y) ty s w0 := fun g a w hS => by
  have hus := cellsV_rep hv (hS.eval hx)
  have hy' := hS.eval hy
  simp only [vrep, drep] at hy'
  obtain ⟨hu, ie, hie, hsz⟩ := hA.get
  have hag : ∃ cs, a.eval x = .agg cs := by
    have hx' := hS.eval hx
    unfold cellsV at hv
    split at hv
    · simp only [vrep] at hx'; obtain ⟨cs, h, _⟩ := hx'; exact ⟨_, h⟩
    · simp only [vrep, drep] at hx'; obtain ⟨cs, h, _⟩ := hx'; exact ⟨_, h⟩
    · rw [hagg] at hv; cases hv
  obtain ⟨cs, hcs⟩ := hag
  rw [hcs] at hus
  simp only [Value.cells] at hus
  obtain ⟨u, k1, k2⟩ := vreps_get hus hl
  refine ⟨u, ?_, k2⟩
  have hs : (sizeOf e).run P w = .ok sz w := by simp [sizeOf, typeInfo, hie, hsz]
  have hpart := part_leaf (P := P) (w := w) (t := e) (sz := sz) (z := z) (cs := cs) (o := i.toNat * sz) (u := u) (by simpa using k1)
  simp [execOp, Instr.index, hcs, hy', asIntOf, run_underlying hu w, hs, h0, h1, hpart]
theorem q_field {sT ty : TypeId} {x : Operand} {f off : Nat} {v w0 : V} {vs : List V} [hF : FldI P sT f off 1 false] (hx : evalV s x = some v) (hv : cellsV v = some vs) (hagg : leafV v = false) (hl : vs[off]? = some w0) : OpQ P cx (.field sT x f) ty s w0 := fun g a w hS => by
  have hus := cellsV_rep hv (hS.eval hx)
  obtain ⟨fs, fl, i, e1, e2, e3, e4, e5, e6⟩ := hF.get
  have hag : ∃ cs, a.eval x = .agg cs := by
    have hx' := hS.eval hx
    unfold cellsV at hv
    split at hv
    · simp only [vrep] at hx'; obtain ⟨cs, h, _⟩ := hx'; exact ⟨_, h⟩
    · simp only [vrep, drep] at hx'; obtain ⟨cs, h, _⟩ := hx'; exact ⟨_, h⟩
    · rw [hagg] at hv; cases hv
  obtain ⟨cs, hcs⟩ := hag
  rw [hcs] at hus
  simp only [Value.cells] at hus
  obtain ⟨u, k1, k2⟩ := vreps_get hus hl
  refine ⟨u, ?_, k2⟩
  have hag2 : (isAgg fl.type).run P w = .ok false w := by
    obtain ⟨d, q1, q2⟩ := Option.map_eq_some_iff.1 e6
    unfold isAgg
    rw [Sem.run_bind, run_underlying q1 w]
    cases d <;> simp_all [aggD]
  have hpart : (part fl.type cs off).run P w = .ok u w := by
    have : cs[off]? = some u := by simpa using k1
    simp [part, Sem.run_bind, hag2, this]
  simp [execOp, Instr.field, hcs, asAgg, run_underlying e1 w, e2, e3, hpart]
/-- a struct or array that is a part -/
theorem q_fields {sT ty : TypeId} {x : Operand} {f off sz : Nat} {v : V} {vs : List V} [hF : FldI P sT f off sz true] (hx : evalV s x = some v) (hv : cellsV v = some vs) (hagg : leafV v = false) : OpQ P cx (.field sT x f) ty s (.agg ((vs.drop off).take sz)) := fun g a w hS => by
  have hus := cellsV_rep hv (hS.eval hx)
  obtain ⟨fs, fl, i, e1, e2, e3, e4, e5, e6⟩ := hF.get
  have hag : ∃ cs, a.eval x = .agg cs := by
    have hx' := hS.eval hx
    unfold cellsV at hv
    split at hv
    · simp only [vrep] at hx'; obtain ⟨cs, h, _⟩ := hx'; exact ⟨_, h⟩
    · simp only [vrep, drep] at hx'; obtain ⟨cs, h, _⟩ := hx'; exact ⟨_, h⟩
    · rw [hagg] at hv; cases hv
  obtain ⟨cs, hcs⟩ := hag
  rw [hcs] at hus
  simp only [Value.cells] at hus
  refine ⟨.agg (cs.extract off (off + sz)), ?_, ?_⟩
  · have hag2 : (isAgg fl.type).run P w = .ok true w := by
      obtain ⟨d, q1, q2⟩ := Option.map_eq_some_iff.1 e6
      unfold isAgg
      rw [Sem.run_bind, run_underlying q1 w]
      cases d <;> simp_all [aggD]
    have hpart : (part fl.type cs off).run P w = .ok (.agg (cs.extract off (off + sz))) w := by
      simp [part, Sem.run_bind, hag2, sizeOf, typeInfo, e4, e5]
    simp [execOp, Instr.field, hcs, asAgg, run_underlying e1 w, e2, e3, hpart]
  · simp only [vrep]
    have h1 := (vreps_part (vreps_part hus off).2 sz).1
    refine ⟨(cs.toList.drop off).take sz, ?_, h1⟩
    congr 1
    apply Array.ext'
    simp [List.extract_eq_take_drop]
end

end Go.Proofs.Ytjfaihpiohccbaa

namespace Go.Proofs.Ytjfaihpiohccbaa
open Go.RowKit

theorem range_add' (a b : Nat) : List.range (a + b) = List.range a ++ (List.range b).map (a + ·) := by
  induction b with
  | zero => simp
  | succ b ih => rw [← Nat.add_assoc, List.range_succ, ih, List.range_succ]; simp
theorem made_cells (z : Array Value) (hz : 0 < z.size) : ∀ n, (madeCells z (n * z.size)).toList = (List.replicate n z.toList).flatten
  | 0 => by simp [madeCells]
  | n + 1 => by
    have ih := made_cells z hz n
    simp only [madeCells, Array.toList_map, Array.toList_range] at ih ⊢
    rw [show (n + 1) * z.size = z.size + n * z.size by rw [Nat.add_mul]; omega, range_add', List.map_append, List.map_map, List.replicate_succ, List.flatten_cons, ← ih]
    congr 1
    · apply List.ext_getElem?
      intro j
      by_cases hj : j < z.size
      · simp [hj, Nat.mod_eq_of_lt hj]
      · simp [Nat.not_lt.1 hj]
    · apply List.map_congr_left
      intro j _
      simp [Nat.add_mod_left]
theorem drepss_replicate {B : Nat} {U : Nat → Prop} {w : World} {d : List D} {c : List Value} (h : dreps B U w d c) : ∀ n, drepss B U w (List.replicate n d) (List.replicate n c).flatten
  | 0 => by simp [drepss]
  | n + 1 => by simp only [List.replicate_succ, List.flatten_cons, drepss]; exact ⟨c, _, rfl, h, drepss_replicate h n⟩

section
variable {P : Program} {cx : Cx} {s : St} {Q : VE → St → Prop} {ops rest : List Oper}
/-- make, of so many -/
theorem r_make {t ty e : TypeId} {x y : Operand} {k1 k2 : IntKind} {n : Int} {ag : Bool} {sz by_ k : Nat} {z : List Value} {tm : List (Nat × V)} {st : List E} [hE : SlI P t e sz by_] [hT : TyI P e ag sz z] (hx : evalV ⟨tm, st, 0⟩ x = some (I k1 n)) (hy : evalV ⟨tm, st, 0⟩ y = some (I k2 n)) (h0 : 0 ≤ n) (hb : n * (by_ : Int) ≤ 140737488355328) (hp : 0 < by_) (hz : z.all (·.oneCell') = true) :
    OpR P cx (.makeSlice t x y) ty tm st (.row k 0) k (.r true true k 0 e sz (List.replicate n.toNat (z.map .lit))) := fun nb g a w hk hf hS => by
  have hx : evalV ⟨tm, st, nb⟩ x = some (I k1 n) := by cases x <;> exact hx
  have hy : evalV ⟨tm, st, nb⟩ y = some (I k2 n) := by cases y <;> exact hy
  have hx' := hS.eval hx
  have hy' := hS.eval hy
  simp only [vrep, drep] at hx' hy'
  obtain ⟨i, zv, e1, e2, e3, e4⟩ := hT.size
  obtain ⟨i', z', q1, q2, q3, q4, q5⟩ := hE.elem.info
  rw [e1] at q1; cases q1
  rw [e3] at q2; cases q2
  have hnb : n.toNat * by_ ≤ 140737488355328 := by
    have : ((n.toNat * by_ : Nat) : Int) = n * by_ := by rw [Int.natCast_mul, Int.toNat_of_nonneg h0]
    omega
  have hn1 : n.toNat ≤ 140737488355328 := Nat.le_trans (Nat.le_mul_of_pos_right _ hp) hnb
  have hrun := run_make (P := P) w t e i zv hE.elem.und e1 e3 k1 k2 n n h0 (Int.le_refl _) (by
    rw [q4]
    have : ((n.toNat * by_ : Nat) : Int) = n * by_ := by rw [Int.natCast_mul, Int.toNat_of_nonneg h0]
    rw [Int.mul_comm]; omega) (by omega)
  rw [e2] at hrun
  have hzp : 0 < zv.cells.size := by rw [q5]; exact hE.elem.pos
  have hcells : (madeCells zv.cells (n.toNat * sz)).toList = (List.replicate n.toNat z).flatten := by
    rw [← q5, made_cells _ hzp, e4]
  have hzl : z.length = sz := by rw [← e4, ← q5]; simp
  have hfl : ((List.replicate n.toNat z).flatten).length = n.toNat * sz := by simp [hzl]
  have hown : (w.alloc (.cells (madeCells zv.cells (n.toNat * sz)) e)).ownsRow w.heap.size e sz (.slice (some ⟨w.heap.size, 0, none⟩) n.toNat n.toNat) (List.replicate n.toNat (z.map D.lit)).length (List.replicate n.toNat z).flatten := by
    rw [List.length_replicate]
    refine ⟨hfl, .inr ⟨w.heap.size, n.toNat, _, rfl, Nat.le_refl _, heap_alloc_new w _, Nat.le_refl _, by unfold maxLen; omega, size_madeCells _ _, ?_⟩⟩
    rw [hcells, List.take_of_length_le (by rw [hfl]; exact Nat.le_refl _)]
  have hd : dreps cx.B (fun b => g.prot b ∧ some b ≠ (Value.slice (some ⟨w.heap.size, 0, none⟩) n.toNat n.toNat).ownBlock) (w.alloc (.cells (madeCells zv.cells (n.toNat * sz)) e)) (z.map .lit) z := dreps_lit
  obtain ⟨m1, m2, m3, m4⟩ := new_row hS.inv hf hk (w' := w.alloc (.cells (madeCells zv.cells (n.toNat * sz)) e)) ⟨rfl, rfl, rfl, by simp, fun k hk => Below.heap_alloc w _ k hk⟩ (e := e) (sz := sz) (drepss_replicate hd n.toNat)
    ⟨fun x hx => by rw [List.eq_of_mem_replicate hx]; simp [hzl], fun u hu => by
      obtain ⟨l, hl, hu⟩ := List.mem_flatten.1 hu
      rw [List.eq_of_mem_replicate hl] at hu
      exact List.all_eq_true.1 hz u hu⟩ hown
  exact ⟨_, _, _, by simp [execOp, hx', hy', hrun], m1, m2, m3, m4⟩

/-- copy onto a whole row, of cells -/
theorem v_copy {t t2 ty e : TypeId} {x y : Operand} {k ver by_ : Nat} {nw : Bool} {l l2 : List (List D)} {v2 : V} [hE : SlI P t e 1 by_] (hx : evalV s x = some (.row k ver)) (hr : rowAt k s.st = some (true, nw, ver, e, 1, l)) (hy : evalV s y = some v2) (hsrc : SrcV s.st 1 v2 l2) (hl : l2.length = l.length) :
    OpV P cx (.call { callee := .builtin .copy, args := #[x, y], argTypes := #[t, t2] }) ty s (I .i64 (l2.length : Int)) (.r true nw k ver e 1 l2 :: s.st) s.nb := fun g a w hS => by
  have hx' := hS.eval hx
  simp only [vrep] at hx'
  obtain ⟨v, xs, r1, r2, r3, r4, r5⟩ := hS.st.row hr
  rw [hx'.1] at r1; cases r1
  obtain ⟨us, ⟨ad, cap, s1, s6, s7, s8, s9⟩, s2, s3, s4, s5⟩ := hsrc.rep hS.st (hS.eval hy)
  rcases r5 with ⟨_, r5, r6⟩ | ⟨h, _⟩
  · obtain ⟨i, z, q1, q2, q3, q4, q5⟩ := hE.elem.info
    have hinfo : (P.info? e).map (·.size) = some 1 := by rw [q1]; simp [q3]
    have fin : ∀ w', (execOp a.eval (bare (.call { callee := .builtin .copy, args := #[x, y], argTypes := #[t, t2] }) ty)).run P w = .ok (.value (goInt us.length)) w' → w.grownBy w' (a.eval x).ownBlock → w'.ownsRow 0 e 1 (a.eval x) l2.length us →
        ∃ u g' w', (execOp a.eval (bare (.call { callee := .builtin .copy, args := #[x, y], argTypes := #[t, t2] }) ty)).run P w = .ok (.value u) w' ∧ Evo cx.B g w g' w' ∧ SimS cx.B g' w' (.r true nw k ver e 1 l2 :: s.st) ∧ Inv cx.B s.nb g' w' ∧ vrep cx.B g' w' (I .i64 (l2.length : Int)) u := fun w' hrun hg hown => by
      obtain ⟨m1, m2, m3, _⟩ := turn_row hS.inv hS.st hr hx'.1 r6 hg (u := a.eval x) (drepss_mono (Nat.le_refl _) (fun b _ hp => ⟨⟨hp, fun he => hp (.inr (.inr ⟨k, r6.trans he.symm⟩))⟩, hg.block b ‹_› fun he => hp (.inr (.inr ⟨k, r6.trans he.symm⟩))⟩) s2) ⟨s5, s4⟩ hown (fun b hb => .inl hb) (.inl ⟨rfl, rfl⟩)
      refine ⟨_, _, w', hrun, m1, m2, m3, ?_⟩
      simp only [vrep, drep, goInt]
      rw [s3, Nat.mul_one]
    rcases r5.2 with ⟨h5, h6⟩ | ⟨b, cp, cur, h5, _, hh, hn, hc, hs, ht⟩
    · have h0 : us = [] := List.eq_nil_of_length_eq_zero (by rw [s3, hl, h6])
      subst h0
      have h20 : l2.length = 0 := by rw [hl, h6]
      refine fin w ?_ (gb_refl _ _) (by rw [h5, h20]; exact World.ownsRow_nil w 0 e 1)
      have := run_copy_none (P := P) w t t2 ty e none ad 0 0 l2.length cap hE.elem.und hinfo (by simp)
      simp only [execOp, resolve, invoke, builtin, Sem.run_bind, Sem.run_pure, Result.andThen_ok, List.map_toArray, List.map_cons, List.map_nil, h5, s1, this]
      rfl
    · have hcs : us.length = Nat.min l2.length l.length := by rw [s3, hl]; simp
      have hfit : 0 + us.length ≤ cur.size := by rw [s3, hl, hs]; simpa using hn
      cases hne : us with
      | nil =>
        have h0 : l2.length = 0 := by rw [hne] at s3; simpa using s3.symm
        have h0' : l.length = 0 := by omega
        subst hne
        refine fin w ?_ (gb_refl _ _) ?_
        · have := run_copy_none (P := P) w t t2 ty e (some ⟨b, 0, none⟩) ad l.length cp l2.length cap hE.elem.und hinfo (by simp [h0])
          simp only [execOp, resolve, invoke, builtin, Sem.run_bind, Sem.run_pure, Result.andThen_ok, List.map_toArray, List.map_cons, List.map_nil, h5, s1, this]
          rfl
        · rw [h0]; rw [h0'] at r5; have : xs = [] := List.eq_nil_of_length_eq_zero (by rw [r5.1, Nat.zero_mul])
          rw [this] at r5; exact r5
      | cons u0 us' =>
        obtain ⟨b2, o2, e2, _⟩ := s9 0 u0 (by rw [hne]; rfl)
        subst e2
        have hsrc' : ∀ (j : Nat) v, us[j]? = some v → w.cell? ((⟨b2, o2, none⟩ : Addr).add j) = some v := fun j v hj => by
          obtain ⟨b', o', e', hc'⟩ := s9 j v hj
          cases e'
          have hadd : (⟨b2, o2, none⟩ : Addr).add j = ⟨b2, o2 + j, none⟩ := by unfold Addr.add; split <;> simp_all
          rw [hadd]; exact hc'
        have hrun := run_copy_row (P := P) w t t2 ty e b 0 l.length cp ⟨b2, o2, none⟩ l2.length cap cur e us hE.elem.und hinfo hh hcs hsrc' hfit s4
        have hg' : w.grownBy (w.setRow b (cur.toList.take 0 ++ us ++ cur.toList.drop (0 + us.length)).toArray) (a.eval x).ownBlock := by rw [h5]; exact grownBy_setRow w b _
        refine fin _ ?_ hg' ?_
        · simp only [execOp, resolve, invoke, builtin, Sem.run_bind, Sem.run_pure, Result.andThen_ok, List.map_toArray, List.map_cons, List.map_nil, h5, s1, hrun]
        · refine ⟨by rw [s3], .inr ⟨b, cp, _, by rw [h5, hl], Nat.zero_le _, setRow_heap w b cur _ e (0, 0) hh, by omega, hc, ?_, ?_⟩⟩
          · simp at hfit ⊢; omega
          · simp only [List.take_zero, List.nil_append]
            rw [← s3]; exact List.take_left
  · cases h
end

end Go.Proofs.Ytjfaihpiohccbaa

namespace Go.Proofs.Ytjfaihpiohccbaa
open Go.RowKit

/-- the places of a struct's fields -/
def plsD (P : Program) : TypeDesc → Option (List (Nat × Nat))
  | .struct fs => fs.toList.mapM fun f => (P.info? f.type).map fun i => (f.offset, i.size)
  | _ => none
class PlI (P : Program) (t : TypeId) (pl : outParam (List (Nat × Nat))) : Prop where
  at_ : (P.underlying t).bind (plsD P) = some pl

theorem fold_set : ∀ (vs : List Value) (k : Nat) (cs : Array Value) (off : Nat), off + k + vs.length ≤ cs.size →
    ((vs.zipIdx k).foldl (fun cs (p : Value × Nat) => cs.setIfInBounds (off + p.2) p.1) cs).toList = cs.toList.take (off + k) ++ vs ++ cs.toList.drop (off + k + vs.length)
  | [], k, cs, off, _ => by simp
  | v :: vs, k, cs, off, h => by
    simp only [List.length_cons] at h
    simp only [List.zipIdx_cons, List.foldl_cons]
    rw [fold_set vs (k + 1) _ off (by simp; omega)]
    have hlt : off + k < cs.toList.length := by simp; omega
    have e1 : (cs.toList.set (off + k) v).take (off + k + 1) = cs.toList.take (off + k) ++ [v] := by
      rw [List.take_succ_eq_append_getElem (by rw [List.length_set]; exact hlt), List.take_set_of_le (Nat.le_refl _)]
      simp
    have e2 : (cs.toList.set (off + k) v).drop (off + k + (vs.length + 1)) = cs.toList.drop (off + k + (vs.length + 1)) := List.drop_set_of_lt (by omega)
    rw [Array.toList_setIfInBounds, show off + (k + 1) = off + k + 1 by omega, List.length_cons, show off + k + 1 + vs.length = off + k + (vs.length + 1) by omega, e1, e2]
    simp

def setR (l : List V) (off : Nat) (vs : List V) : List V := l.take off ++ (vs ++ l.drop (off + vs.length))
def forceL : List V → Option (List V)
  | [] => some []
  | x :: xs => match forceL xs with
    | some ys => some (x :: ys)
    | none => none
theorem forceL_eq : ∀ {l m : List V}, forceL l = some m → m = l
  | [], m, h => by simp only [forceL, Option.some.injEq] at h; exact h.symm
  | x :: xs, m, h => by
    simp only [forceL] at h
    split at h
    · rename_i ys hys; cases h; rw [forceL_eq hys]
    · cases h
def fillV (place : Nat → Option (Nat × Nat)) (zs : List V) : List (Nat × List V) → Option (List V)
  | [] => forceL zs
  | (i, vs) :: rest => match place i with
    | none => none
    | some (off, size) => (match Nat.beq vs.length size with
      | true => (match Nat.ble (off + size) zs.length with
        | true => fillV place (setR zs off vs) rest
        | false => none)
      | false => none)
theorem fillV_rep {B : Nat} {g : G} {w : World} {place : Nat → Option (Nat × Nat)} : ∀ {parts : List (Nat × List V)} {rparts : List (Nat × Value)} {zs : List V} {cs : Array Value} {vs : List V}, vreps B g w zs cs.toList → parts.length = rparts.length →
    (∀ (j : Nat) i l, parts[j]? = some (i, l) → ∃ v, rparts[j]? = some (i, v) ∧ vreps B g w l v.cells.toList) → fillV place zs parts = some vs → ∃ cs', Instr.fill place cs rparts = some cs' ∧ vreps B g w vs cs'.toList
  | [], [], zs, cs, vs, hz, _, _, h => by
    simp only [fillV] at h
    rw [forceL_eq h]
    exact ⟨cs, rfl, hz⟩
  | [], _ :: _, _, _, _, _, h, _, _ => by simp at h
  | _ :: _, [], _, _, _, _, h, _, _ => by simp at h
  | (i, l) :: parts, (i', v) :: rparts, zs, cs, vs, hz, hl, hp, h => by
    obtain ⟨v', e, hv⟩ := hp 0 i l rfl
    simp only [List.getElem?_cons_zero, Option.some.injEq, Prod.mk.injEq] at e
    obtain ⟨rfl, rfl⟩ := e
    simp only [fillV] at h
    split at h
    · cases h
    · rename_i off size hpl
      split at h
      · rename_i h1
        have h1 := Nat.eq_of_beq_eq_true h1
        split at h
        · rename_i h2
          have h2 := Nat.le_of_ble_eq_true h2
          have hlv := vreps_len hv
          have hlz := vreps_len hz
          have hsz : v.cells.size = size := by rw [← h1, ← hlv]; simp
          have hcs : cs.size = zs.length := by rw [← hlz]; simp
          have hfold : (v.cells.zipIdx.foldl (fun cs (p : Value × Nat) => cs.setIfInBounds (off + p.2) p.1) cs).toList = cs.toList.take off ++ v.cells.toList ++ cs.toList.drop (off + v.cells.toList.length) := by
            have := fold_set v.cells.toList 0 cs off (by simp [hsz]; omega)
            rw [Nat.add_zero] at this
            rw [← this, ← Array.foldl_toList, Array.toList_zipIdx]
          have hz' : vreps B g w (setR zs off l) (v.cells.zipIdx.foldl (fun cs (p : Value × Nat) => cs.setIfInBounds (off + p.2) p.1) cs).toList := by
            rw [hfold, setR, List.append_assoc]
            refine vreps_app (vreps_part hz off).1 (vreps_app hv ?_)
            rw [hlv]; exact (vreps_part hz _).2
          obtain ⟨cs', k1, k2⟩ := fillV_rep hz' (by simpa using hl) (fun j i l hj => by have := hp (j + 1) i l (by simpa using hj); simpa using this) h
          refine ⟨cs', ?_, k2⟩
          simp only [Instr.fill, hpl]
          rw [if_neg (by simp [hsz, hcs]; omega)]
          exact k1
        · cases h
      · cases h
def evalPs (s : St) : List (Nat × Operand) → Option (List (Nat × List V))
  | [] => some []
  | (i, x) :: r => match evalV s x with
    | none => none
    | some v => (match cellsV v with
      | none => none
      | some vs => (match evalPs s r with
        | none => none
        | some ps => some ((i, vs) :: ps)))
section
variable {P : Program} {cx : Cx} {s : St} {Q : VE → St → Prop} {ops rest : List Oper}
theorem evalPs_rep {g : G} {a : Act} {w : World} (hS : Sim cx g a w s) : ∀ {l : List (Nat × Operand)} {ps : List (Nat × List V)}, evalPs s l = some ps → ps.length = l.length ∧ ∀ (j : Nat) i vs, ps[j]? = some (i, vs) → ∃ v, (l.map fun (i, x) => (i, a.eval x))[j]? = some (i, v) ∧ vreps cx.B g w vs v.cells.toList
  | [], ps, h => by simp only [evalPs, Option.some.injEq] at h; subst h; simp
  | (i, x) :: r, ps, h => by
    simp only [evalPs] at h
    split at h
    · cases h
    · rename_i v hv
      split at h
      · cases h
      · rename_i vs hvs
        split at h
        · cases h
        · rename_i ps' hps
          cases h
          obtain ⟨h1, h2⟩ := evalPs_rep hS hps
          refine ⟨by simp [h1], fun j i' vs' hj => ?_⟩
          cases j with
          | zero => simp at hj; obtain ⟨rfl, rfl⟩ := hj; exact ⟨a.eval x, by simp, cellsV_rep hvs (hS.eval hv)⟩
          | succ j => simpa using h2 j i' vs' (by simpa using hj)
/-- a struct, written out -/
theorem q_build {t ty : TypeId} {parts : Array (Nat × Operand)} {ps : List (Nat × List V)} {sz : Nat} {z : List Value} {pl : List (Nat × Nat)} {vs : List V} [hT : TyI P t true sz z] [hP : PlI P t pl] (hp : evalPs s parts.toList = some ps) (hf : fillV (pl[·]?) (z.map fun x => .d (.lit x)) ps = some vs) : OpQ P cx (.build t parts) ty s (.agg vs) := fun g a w hS => by
  obtain ⟨h1, h2⟩ := evalPs_rep hS hp
  obtain ⟨i, zv, e1, e2, e3, e4⟩ := hT.size
  obtain ⟨d, q1, q2⟩ := Option.bind_eq_some_iff.1 hP.at_
  unfold plsD at q2
  split at q2
  · rename_i fs
    obtain ⟨cs', k1, k2⟩ := fillV_rep (B := cx.B) (g := g) (w := w) (cs := zv.cells) (rparts := parts.toList.map fun (i, x) => (i, a.eval x)) (by rw [e4]; exact vreps_lits) (by simp [h1]) h2 hf
    refine ⟨.agg cs', ?_, by simp only [vrep]; exact ⟨cs'.toList, by simp, k2⟩⟩
    have hb : P.built t (parts.map fun (i, x) => (i, a.eval x)).toList = some cs' := by
      simp only [Program.built, e1, q1, e3, q2]
      rw [Array.toList_map]
      simpa using k1
    have := run_build (P := P) w t (parts.map fun (i, x) => (i, a.eval x)) cs' hb
    simp [execOp, this]
  · cases q2
/-- an array, written out -/
theorem q_builda {t ty e : TypeId} {parts : Array (Nat × Operand)} {ps : List (Nat × List V)} {n sz esz : Nat} {z : List Value} {vs : List V} [hT : TyI P t true sz z] [hA : ArrI P t n e esz] (hp : evalPs s parts.toList = some ps) (hf : fillV (fun i => some (i * esz, esz)) (z.map fun x => .d (.lit x)) ps = some vs) : OpQ P cx (.build t parts) ty s (.agg vs) := fun g a w hS => by
  obtain ⟨h1, h2⟩ := evalPs_rep hS hp
  obtain ⟨i, zv, e1, e2, e3, e4⟩ := hT.size
  obtain ⟨hu, ie, hie, hsz⟩ := hA.get
  obtain ⟨cs', k1, k2⟩ := fillV_rep (B := cx.B) (g := g) (w := w) (cs := zv.cells) (rparts := parts.toList.map fun (i, x) => (i, a.eval x)) (by rw [e4]; exact vreps_lits) (by simp [h1]) h2 hf
  refine ⟨.agg cs', ?_, by simp only [vrep]; exact ⟨cs'.toList, by simp, k2⟩⟩
  have hb : P.built t (parts.map fun (i, x) => (i, a.eval x)).toList = some cs' := by
    simp only [Program.built, e1, hu, e3, hie, hsz]
    rw [Array.toList_map]
    simpa using k1
  have := run_build (P := P) w t (parts.map fun (i, x) => (i, a.eval x)) cs' hb
  simp [execOp, this]

def cellsD : D → List D
  | .agg l => l
  | d => [d]
/-- the parts of a row that is written out, each in its place -/
def evalEs (s : St) (sz : Nat) : Nat → List (Nat × Operand) → Option (List (List D))
  | _, [] => some []
  | k, (i, x) :: r => match Nat.beq i k with
    | false => none
    | true => (match evalV s x with
      | none => none
      | some v => (match argD s.st v with
        | none => none
        | some d => (match cellsV (.d d) with
          | none => none
          | some vs => (match leaves vs && Nat.beq vs.length sz with
            | false => none
            | true => (match evalEs s sz (k + 1) r with
              | none => none
              | some es => some (cellsD d :: es))))))
theorem seq_fill {size : Nat} : ∀ (vs : List Value) (k : Nat) (cs : Array Value), (∀ v ∈ vs, v.cells.size = size) → cs.size = (k + vs.length) * size →
    ∃ cs', Instr.fill (fun i => some (i * size, size)) cs (vs.zipIdx k |>.map fun (v, i) => (i, v)) = some cs' ∧ cs'.toList = cs.toList.take (k * size) ++ (vs.map fun v => v.cells.toList).flatten
  | [], k, cs, _, hs => ⟨cs, rfl, by simp only [List.map_nil, List.flatten_nil, List.append_nil]; rw [List.take_of_length_le (by simp at hs ⊢; omega)]⟩
  | v :: vs, k, cs, hv, hs => by
    have h0 := hv v (by simp)
    have hsz : cs.size = k * size + size + vs.length * size := by rw [hs, List.length_cons, Nat.add_mul, Nat.add_mul]; omega
    have hfold : (v.cells.zipIdx.foldl (fun cs (p : Value × Nat) => cs.setIfInBounds (k * size + p.2) p.1) cs).toList = cs.toList.take (k * size) ++ v.cells.toList ++ cs.toList.drop (k * size + v.cells.toList.length) := by
      have := fold_set v.cells.toList 0 cs (k * size) (by simp [h0]; omega)
      rw [Nat.add_zero] at this
      rw [← this, ← Array.foldl_toList, Array.toList_zipIdx]
    have hlen : (v.cells.zipIdx.foldl (fun cs (p : Value × Nat) => cs.setIfInBounds (k * size + p.2) p.1) cs).size = cs.size := by
      rw [← Array.length_toList, hfold]; simp [h0]; omega
    obtain ⟨cs', k1, k2⟩ := seq_fill vs (k + 1) (v.cells.zipIdx.foldl (fun cs (p : Value × Nat) => cs.setIfInBounds (k * size + p.2) p.1) cs) (fun x hx => hv x (by simp [hx])) (by rw [hlen, hsz, Nat.add_mul, Nat.add_mul]; omega)
    refine ⟨cs', ?_, ?_⟩
    · simp only [List.zipIdx_cons, List.map_cons, Instr.fill]
      rw [if_neg (by simp [h0]; omega)]
      exact k1
    · rw [k2, hfold, List.map_cons, List.flatten_cons]
      rw [show (k + 1) * size = (cs.toList.take (k * size) ++ v.cells.toList).length by rw [Nat.add_mul]; simp [h0]; omega, List.take_left, List.append_assoc]
theorem evalEs_rep {g : G} {a : Act} {w : World} (hS : Sim cx g a w s) {sz : Nat} : ∀ {l : List (Nat × Operand)} {k : Nat} {es : List (List D)}, evalEs s sz k l = some es → (l.map fun (i, x) => (i, a.eval x)) = ((l.map fun p => a.eval p.2).zipIdx k |>.map fun (v, i) => (i, v)) ∧ es.length = l.length ∧
    drepss cx.B g.prot w es ((l.map fun p => a.eval p.2).map fun v => v.cells.toList).flatten ∧ (∀ x ∈ es, x.length = sz) ∧ (∀ v ∈ l.map fun p => a.eval p.2, v.cells.size = sz) ∧ ∀ u ∈ ((l.map fun p => a.eval p.2).map fun v => v.cells.toList).flatten, u.oneCell' = true
  | [], k, es, h => by simp only [evalEs, Option.some.injEq] at h; subst h; simp [drepss]
  | (i, x) :: r, k, es, h => by
    simp only [evalEs] at h
    split at h
    · cases h
    · rename_i hk
      have := Nat.eq_of_beq_eq_true hk
      subst this
      split at h
      · cases h
      · rename_i v hv
        split at h
        · cases h
        · rename_i d hd
          split at h
          · cases h
          · rename_i vs hvs
            split at h
            · cases h
            · have hb : (leaves vs && Nat.beq vs.length sz) = true := by assumption
              have hb := Bool.and_eq_true_iff.1 hb
              have hb2 := Nat.eq_of_beq_eq_true hb.2
              split at h
              · cases h
              · rename_i es' hes
                cases h
                obtain ⟨h1, h2, h3, h4, h5, h6⟩ := evalEs_rep hS hes
                have hrep := argD_rep hS.st hd (hS.eval hv)
                have hrep' : vrep cx.B g w (.d d) (a.eval x) := by simp only [vrep]; exact hrep
                have hvr := cellsV_rep hvs hrep'
                have hone := leaves_one hb.1 hvr
                have hvl := vreps_len hvr
                have hcd : dreps cx.B g.prot w (cellsD d) (a.eval x).cells.toList ∧ (cellsD d).length = vs.length := by
                  unfold cellsV at hvs
                  split at hvs
                  · rename_i heq; cases heq
                  · rename_i l heq; cases heq; cases hvs
                    simp only [drep] at hrep
                    obtain ⟨cs, e, k⟩ := hrep
                    rw [e]
                    exact ⟨by simpa [cellsD, Value.cells] using k, by simp [cellsD]⟩
                  · rename_i hne1 hne2
                    split at hvs
                    · rename_i hlf
                      cases hvs
                      have h1 := leafV_one hlf hrep'
                      have h3 : (a.eval x).cells = #[a.eval x] := by cases hq : a.eval x <;> rw [hq] at h1 <;> simp_all [Value.cells, Value.oneCell']
                      have hc : cellsD d = [d] := by
                        cases d with
                        | agg l => exact (hne2 l rfl).elim
                        | _ => rfl
                      rw [h3, hc]
                      exact ⟨by simp only [dreps]; exact ⟨_, [], rfl, hrep, rfl⟩, rfl⟩
                    · cases hvs
                refine ⟨by simp [h1], by simp [h2], ?_, fun y hy => ?_, fun y hy => ?_, fun u hu => ?_⟩
                · simp only [List.map_cons, List.flatten_cons, drepss]
                  exact ⟨_, _, rfl, hcd.1, h3⟩
                · rcases List.mem_cons.1 hy with rfl | hy
                  · rw [hcd.2, hb2]
                  · exact h4 y hy
                · simp only [List.map_cons, List.mem_cons] at hy
                  rcases hy with rfl | hy
                  · rw [← hb2, ← hvl]; simp
                  · exact h5 y hy
                · simp only [List.map_cons, List.flatten_cons, List.mem_append] at hu
                  rcases hu with hu | hu
                  · exact hone u hu
                  · exact h6 u hu
theorem evalEs_nb {tm : List (Nat × V)} {st : List E} {nb nb' : Nat} {sz : Nat} : ∀ {l : List (Nat × Operand)} {k : Nat}, evalEs ⟨tm, st, nb⟩ sz k l = evalEs ⟨tm, st, nb'⟩ sz k l
  | [], _ => rfl
  | (i, x) :: r, k => by
    have e1 : evalV ⟨tm, st, nb⟩ x = evalV ⟨tm, st, nb'⟩ x := by cases x <;> rfl
    simp only [evalEs, e1, evalEs_nb (nb := nb) (nb' := nb') (l := r)]
/-- a row, written out -/
theorem r_bs {t ty e : TypeId} {n : Nat} {parts : Array (Nat × Operand)} {sz by_ k : Nat} {es : List (List D)} {tm : List (Nat × V)} {st : List E} [hE : SlI P t e sz by_] (hp : evalEs ⟨tm, st, 0⟩ sz 0 parts.toList = some es) (hn : parts.size = n) (hn0 : Nat.ble 1 n = true) (hsm : Nat.ble (n * sz) 16777216 = true) :
    OpR P cx (.buildSlice t n parts) ty tm st (.row k 0) k (.r true true k 0 e sz es) := fun nb g a w hk hf hS => by
  have hp : evalEs ⟨tm, st, nb⟩ sz 0 parts.toList = some es := by rw [← hp]; exact evalEs_nb
  obtain ⟨h1, h2, h3, h4, h5, h6⟩ := evalEs_rep hS hp
  obtain ⟨i, z, q1, q2, q3, q4, q5⟩ := hE.elem.info
  have hpos := hE.elem.pos
  have hn0 := Nat.le_of_ble_eq_true hn0
  have hsm := Nat.le_of_ble_eq_true hsm
  have hlen : (parts.toList.map fun p => a.eval p.2).length = n := by simp [hn]
  obtain ⟨cs', k1, k2⟩ := seq_fill (parts.toList.map fun p => a.eval p.2) 0 ((Array.range (n * sz)).map (z.cells[· % z.cells.size]!)) h5 (by rw [hlen]; simp)
  have hnz : ¬ n * i.size = 0 := by rw [q3]; exact Nat.mul_ne_zero (by omega) (by omega)
  have hrun := run_buildSlice (P := P) w t e n (parts.map fun (i, x) => (i, a.eval x)) cs' i z hE.elem.und q1 q2 (by rw [q3]; omega) hnz (by
    rw [q3, Array.toList_map, h1]; exact k1)
  have hcs : cs'.toList = ((parts.toList.map fun p => a.eval p.2).map fun v => v.cells.toList).flatten := by rw [k2]; simp
  have hel : es.length = n := by rw [h2]; simpa using hn
  have hul := drepss_len h4 h3
  have hown : (w.alloc (.cells cs' e)).ownsRow w.heap.size e sz (.slice (some ⟨w.heap.size, 0, none⟩) n n) es.length ((parts.toList.map fun p => a.eval p.2).map fun v => v.cells.toList).flatten := by
    rw [hel]
    refine ⟨by rw [hul, hel], .inr ⟨w.heap.size, n, cs', rfl, Nat.le_refl _, heap_alloc_new w _, Nat.le_refl _, ?_, ?_, ?_⟩⟩
    · have := Nat.le_mul_of_pos_right n hpos
      unfold maxLen; omega
    · rw [← Array.length_toList, hcs, hul, hel]
    · rw [hcs, List.take_of_length_le (by rw [hul, hel]; exact Nat.le_refl _)]
  obtain ⟨m1, m2, m3, m4⟩ := new_row hS.inv hf hk (w' := w.alloc (.cells cs' e)) ⟨rfl, rfl, rfl, by simp, fun k hk => Below.heap_alloc w _ k hk⟩ (e := e) (sz := sz) (drepss_mono (Nat.le_refl _) (fun b hb hp => ⟨⟨hp, fun he => by simp [Value.ownBlock] at he; omega⟩, Below.heap_alloc w _ b hb⟩) h3) ⟨h4, h6⟩ hown
  exact ⟨_, _, _, by simp [execOp, hrun], m1, m2, m3, m4⟩
end

end Go.Proofs.Ytjfaihpiohccbaa

namespace Go.Proofs.Ytjfaihpiohccbaa
open Go.RowKit

def setD (cs : List D) (j : Nat) (ds : List D) : List D := cs.take j ++ (ds ++ cs.drop (j + ds.length))
theorem drepss_set {B : Nat} {U : Nat → Prop} {w : World} {sz : Nat} : ∀ {l : List (List D)} {xs : List Value}, (∀ x ∈ l, x.length = sz) → drepss B U w l xs → ∀ {i j : Nat} {cs ds : List D} {us : List Value}, l[i]? = some cs → dreps B U w ds us → j + ds.length ≤ sz →
    drepss B U w (l.set i (setD cs j ds)) (xs.take (i * sz + j) ++ us ++ xs.drop (i * sz + j + us.length))
  | [], _, _, _, i, j, cs, ds, us, hl, _, _ => by simp at hl
  | x :: l, _, hz, h, i, j, cs, ds, us, hl, hd, hj => by
    simp only [drepss] at h
    obtain ⟨c1, c2, e, k1, k2⟩ := h
    subst e
    have h1 := dreps_len k1
    have h2 := hz x (by simp)
    have h3 := dreps_len hd
    cases i with
    | zero =>
      simp only [List.getElem?_cons_zero, Option.some.injEq] at hl
      subst hl
      simp only [List.set_cons_zero, Nat.zero_mul, Nat.zero_add, drepss]
      have hsplit : ∀ m, dreps B U w (x.take m) (c1.take m) ∧ dreps B U w (x.drop m) (c1.drop m) := fun m => by
        refine ⟨dreps_mk (by simp [h1]) fun a p q hp hq => ?_, dreps_mk (by simp [h1]) fun a p q hp hq => ?_⟩
        · rw [List.getElem?_take] at hp hq
          split at hp
          · rename_i hlt; rw [if_pos hlt] at hq
            obtain ⟨y', e1, q1⟩ := dreps_get k1 hp
            rw [hq] at e1; cases e1; exact q1
          · cases hp
        · rw [List.getElem?_drop] at hp hq
          obtain ⟨y', e1, q1⟩ := dreps_get k1 hp
          rw [hq] at e1; cases e1; exact q1
      refine ⟨c1.take j ++ (us ++ c1.drop (j + us.length)), c2, ?_, ?_, k2⟩
      · rw [List.take_append_of_le_length (by omega), List.drop_append_of_le_length (by omega)]
        simp
      · rw [setD, h3]
        exact dreps_app (hsplit j).1 (dreps_app hd (hsplit _).2)
    | succ i =>
      simp only [List.getElem?_cons_succ] at hl
      have ih := drepss_set (fun y hy => hz y (by simp [hy])) k2 hl hd hj
      simp only [List.set_cons_succ, drepss]
      refine ⟨c1, _, ?_, k1, ih⟩
      have e1 : (i + 1) * sz + j = c1.length + (i * sz + j) := by rw [Nat.add_mul]; omega
      rw [e1, List.take_length_add_append, show c1.length + (i * sz + j) + us.length = c1.length + (i * sz + j + us.length) by omega, List.drop_length_add_append]
      simp
section
variable {P : Program} {cx : Cx} {s : St} {Q : VE → St → Prop} {ops rest : List Oper}
theorem u_storer {t ty e : TypeId} {x y : Operand} {k ver sz i j n : Nat} {ag nw : Bool} {z : List Value} {l : List (List D)} {cs : List D} {v : V} {vs : List V} {d : D} [hT : TyI P t ag n z] (hx : evalV s x = some (.rp k ver sz i j)) (hr : rowAt k s.st = some (true, nw, ver, e, sz, l)) (hl : l[i]? = some cs) (hy : evalV s y = some v) (hd : argD s.st v = some d) (hv : cellsV (.d d) = some vs) (h1 : (leaves vs && Nat.beq vs.length n) = true) (hj : Nat.ble (j + n) sz = true) :
    OpU P cx (.store t x y) ty s (.r true nw k ver e sz (l.set i (setD cs j (cellsD d))) :: s.st) s.nb := fun g a w hS => by
  have hx' := hS.eval hx
  simp only [vrep] at hx'
  obtain ⟨b, m, c, hb, hx'⟩ := hx'
  have h1 := Bool.and_eq_true_iff.1 h1
  have hn := Nat.eq_of_beq_eq_true h1.2
  have hj := Nat.le_of_ble_eq_true hj
  have hrep := argD_rep hS.st hd (hS.eval hy)
  have hrep' : vrep cx.B g w (.d d) (a.eval y) := by simp only [vrep]; exact hrep
  have hvr := cellsV_rep hv hrep'
  have hone := leaves_one h1.1 hvr
  have hvl := vreps_len hvr
  have hcd : dreps cx.B g.prot w (cellsD d) (a.eval y).cells.toList ∧ (cellsD d).length = n := by
    unfold cellsV at hv
    split at hv
    · rename_i heq; cases heq
    · rename_i l heq; cases heq; cases hv
      simp only [drep] at hrep
      obtain ⟨cs, e, k⟩ := hrep
      rw [e]
      exact ⟨by simpa [cellsD, Value.cells] using k, by rw [← hn]; simp [cellsD]⟩
    · rename_i hne1 hne2
      split at hv
      · rename_i hlf
        cases hv
        have h1 := leafV_one hlf hrep'
        have h3 : (a.eval y).cells = #[a.eval y] := by cases hq : a.eval y <;> rw [hq] at h1 <;> simp_all [Value.cells, Value.oneCell']
        have hc : cellsD d = [d] := by
          cases d with
          | agg l => exact (hne2 l rfl).elim
          | _ => rfl
        rw [h3, hc]
        exact ⟨by simp only [dreps]; exact ⟨_, [], rfl, hrep, rfl⟩, by rw [← hn]; rfl⟩
      · cases hv
  obtain ⟨v0, xs, r1, r2, r3, r4, r5⟩ := hS.st.row hr
  rw [hb] at r1; cases r1
  rcases r5 with ⟨_, r5, r6⟩ | ⟨h, _⟩
  · rcases r5.2 with ⟨h5, _⟩ | ⟨b', cap, cur, h5, _, hh, hnc, hcm, hcs, ht⟩
    · cases h5
    · cases h5
      have hlt := (List.getElem?_eq_some_iff.1 hl).1
      have hxl := r5.1
      have hi1 : (i + 1) * sz ≤ l.length * sz := Nat.mul_le_mul_right _ hlt
      have hi2 : l.length * sz ≤ c * sz := Nat.mul_le_mul_right _ hnc
      rw [Nat.add_mul, Nat.one_mul] at hi1
      have hul : (a.eval y).cells.toList.length = n := by rw [hvl, hn]
      have hrun := run_storeVar (P := P) (t := t) (w := w) (b := b) (o := i * sz + j) (rcs := cur) (v := a.eval y) hh hul (by omega) hone
      have hg := grownBy_setRow w b (cur.toList.take (i * sz + j) ++ (a.eval y).cells.toList ++ cur.toList.drop (i * sz + j + n)).toArray
      have hcurl : cur.toList.length = c * sz := by simpa using hcs
      have hnew := drepss_set r3.1 r2 (j := j) hl hcd.1 (by rw [hcd.2]; exact hj)
      rw [hul] at hnew
      have hxs' : (xs.take (i * sz + j) ++ (a.eval y).cells.toList ++ xs.drop (i * sz + j + n)).length = l.length * sz := by
        rw [List.length_append, List.length_append, List.length_take, List.length_drop, hxl, hul]; omega
      have htk : (cur.toList.take (i * sz + j) ++ (a.eval y).cells.toList ++ cur.toList.drop (i * sz + j + n)).take (l.length * sz) = xs.take (i * sz + j) ++ (a.eval y).cells.toList ++ xs.drop (i * sz + j + n) := by
        rw [← ht]
        rw [List.take_append, List.take_of_length_le (by rw [List.length_append, List.length_take, hul, hcurl]; omega), List.length_append, List.length_take, hul, List.take_take, List.drop_take]
        congr 2
        · rw [Nat.min_eq_left (by omega)]
        · rw [hcurl]; omega
      have hown : (w.setRow b (cur.toList.take (i * sz + j) ++ (a.eval y).cells.toList ++ cur.toList.drop (i * sz + j + n)).toArray).ownsRow 0 e sz (.slice (some ⟨b, 0, none⟩) l.length c) (l.set i (setD cs j (cellsD d))).length (xs.take (i * sz + j) ++ (a.eval y).cells.toList ++ xs.drop (i * sz + j + n)) := by
        rw [List.length_set]
        refine ⟨hxs', .inr ⟨b, c, _, rfl, Nat.zero_le _, setRow_heap w b cur _ e (0, 0) hh, hnc, hcm, ?_, ?_⟩⟩
        · simp only [List.size_toArray, List.length_append, List.length_take, List.length_drop, hul, hcurl]; omega
        · exact htk
      obtain ⟨m1, m2, m3, _⟩ := turn_row hS.inv hS.st hr hb r6 hg (u := .slice (some ⟨b, 0, none⟩) l.length c) (drepss_mono (Nat.le_refl _) (fun b2 hb2 hp => ⟨⟨hp, fun he => hp (.inr (.inr ⟨k, r6.trans he.symm⟩))⟩, hg.block b2 hb2 fun he => hp (.inr (.inr ⟨k, r6.trans he.symm⟩))⟩) hnew)
        ⟨fun x hx => by
          rcases List.mem_or_eq_of_mem_set hx with h | h
          · exact r3.1 x h
          · rw [h, setD]; have := r3.1 cs (List.mem_of_getElem? hl); simp only [List.length_append, List.length_take, List.length_drop, hcd.2]; omega, fun u hu => by
          simp only [List.mem_append] at hu
          rcases hu with (hu | hu) | hu
          · exact r3.2.1 u (List.mem_of_mem_take hu)
          · exact hone u hu
          · exact r3.2.1 u (List.mem_of_mem_drop hu)⟩ hown (fun b hb => .inl hb) (.inl ⟨rfl, rfl⟩)
      exact ⟨_, _, by simp [execOp, hx', Instr.storeAt, Instr.sureAddr, hrun], m1, m2, m3⟩
  · cases h
end

end Go.Proofs.Ytjfaihpiohccbaa

namespace Go.Proofs.Ytjfaihpiohccbaa
open Go.RowKit

/-- what an interface holds -/
def ifcV : V → Option (Option (TypeId × V))
  | .ifc t x => some (some (t, x))
  | .d (.ifc t d) => some (some (t, .d d))
  | .d (.lit .nilIface) => some none
  | .d (.lit (.iface t v)) => some (some (t, .d (.lit v)))
  | _ => none
def ifcR : Option (TypeId × V) → Bool
  | some _ => true
  | none => false
theorem ifcV_rep {B : Nat} {g : G} {w : World} {v : V} {o : Option (TypeId × V)} (h : ifcV v = some o) {u : Value} (hu : vrep B g w v u) : match o with
    | some (t, x) => ∃ y, u = .iface t y ∧ vrep B g w x y
    | none => u = .nilIface := by
  unfold ifcV at h
  split at h <;> cases h
  · simp only [vrep] at hu; exact hu
  · simp only [vrep, drep] at hu ⊢; exact hu
  · simp only [vrep, drep] at hu; exact hu
  · simp only [vrep, drep] at hu ⊢; exact ⟨_, hu, rfl⟩
theorem run_equalIn_nil {P : Program} {w : World} (d : Nat) {t : TypeId} [hT : IfcI P t] {u : Value} {b : Bool} (h : (b = true ∧ u = .nilIface) ∨ (b = false ∧ ∃ s y, u = .iface s y)) : (Op.equalIn (d + 1) t u .nilIface).run P w = .ok b w := by
  obtain ⟨d, h1, h2⟩ := Option.map_eq_some_iff.1 hT.und
  have h3 : ∃ ms, d = .interface ms := by cases d <;> simp [ifcD] at h2; exact ⟨_, rfl⟩
  obtain ⟨ms, rfl⟩ := h3
  rcases h with ⟨rfl, rfl⟩ | ⟨rfl, s, y, rfl⟩ <;> simp [Op.equalIn, run_underlying h1]
theorem run_equal_nil {P : Program} {w : World} {t : TypeId} [hT : IfcI P t] {u : Value} {b : Bool} (h : (b = true ∧ u = .nilIface) ∨ (b = false ∧ ∃ s y, u = .iface s y)) : (Op.equal t u .nilIface).run P w = .ok b w := run_equalIn_nil 9999 h
theorem run_cmp_nil {P : Program} {w : World} {t : TypeId} [hT : IfcI P t] {x : Operand} {u : Value} {b : Bool} (h : (b = true ∧ u = .nilIface) ∨ (b = false ∧ ∃ s y, u = .iface s y)) :
    (do eqGuard .eql t x (.const .nilIface) u .nilIface; binOp .eql t u .nilIface : Sem Value).run P w = .ok (.bool b) w ∧ (do eqGuard .neq t x (.const .nilIface) u .nilIface; binOp .neq t u .nilIface : Sem Value).run P w = .ok (.bool (!b)) w := by
  have h2 := run_equal_nil (P := P) (w := w) (t := t) h
  rcases h with ⟨rfl, rfl⟩ | ⟨rfl, s, y, rfl⟩ <;> simp [eqGuard, binOp, h2]

section
variable {P : Program} {cx : Cx} {s : St}
theorem q_nei {t yt ty : TypeId} {x : Operand} {v : V} {o : Option (TypeId × V)} [hT : IfcI P t] (hx : evalV s x = some v) (hv : ifcV v = some o) : OpQ P cx (.binOp .neq t x (.const .nilIface) yt) ty s (.d (.lit (.bool (ifcR o)))) := fun g a w hS => by
  have h := ifcV_rep hv (hS.eval hx)
  have hh : ((!ifcR o) = true ∧ a.eval x = .nilIface) ∨ ((!ifcR o) = false ∧ ∃ s y, a.eval x = .iface s y) := by
    cases o with
    | none => exact .inl ⟨rfl, h⟩
    | some p => obtain ⟨y, h, _⟩ := h; exact .inr ⟨rfl, _, _, h⟩
  have h2 := (run_cmp_nil (P := P) (w := w) (t := t) (x := x) hh).2
  refine ⟨.bool (ifcR o), ?_, by simp only [vrep, drep]⟩
  simp only [Sem.run_bind, Bool.not_not] at h2
  simp only [execOp, show a.eval (.const .nilIface) = .nilIface from rfl, Sem.run_bind, h2, Result.andThen_ok]
  simp
theorem q_eqi {t yt ty : TypeId} {x : Operand} {v : V} {o : Option (TypeId × V)} [hT : IfcI P t] (hx : evalV s x = some v) (hv : ifcV v = some o) : OpQ P cx (.binOp .eql t x (.const .nilIface) yt) ty s (.d (.lit (.bool (!ifcR o)))) := fun g a w hS => by
  have h := ifcV_rep hv (hS.eval hx)
  have hh : ((!ifcR o) = true ∧ a.eval x = .nilIface) ∨ ((!ifcR o) = false ∧ ∃ s y, a.eval x = .iface s y) := by
    cases o with
    | none => exact .inl ⟨rfl, h⟩
    | some p => obtain ⟨y, h, _⟩ := h; exact .inr ⟨rfl, _, _, h⟩
  have h2 := (run_cmp_nil (P := P) (w := w) (t := t) (x := x) hh).1
  refine ⟨.bool (!ifcR o), ?_, by simp only [vrep, drep]⟩
  simp only [Sem.run_bind] at h2
  simp only [execOp, show a.eval (.const .nilIface) = .nilIface from rfl, Sem.run_bind, h2, Result.andThen_ok]
  simp
theorem q_neit {t yt ty : TypeId} {x : Operand} {v : V} {o : Option (TypeId × V)} [hT : IfcI P t] (hx : evalV s x = some v) (hv : ifcV v = some o) (hb : ifcR o = true) : OpQ P cx (.binOp .neq t x (.const .nilIface) yt) ty s (.d (.lit (.bool true))) := by rw [← hb]; exact q_nei hx hv
theorem q_neif {t yt ty : TypeId} {x : Operand} {v : V} {o : Option (TypeId × V)} [hT : IfcI P t] (hx : evalV s x = some v) (hv : ifcV v = some o) (hb : ifcR o = false) : OpQ P cx (.binOp .neq t x (.const .nilIface) yt) ty s (.d (.lit (.bool false))) := by rw [← hb]; exact q_nei hx hv
theorem q_eqit {t yt ty : TypeId} {x : Operand} {v : V} {o : Option (TypeId × V)} [hT : IfcI P t] (hx : evalV s x = some v) (hv : ifcV v = some o) (hb : ifcR o = false) : OpQ P cx (.binOp .eql t x (.const .nilIface) yt) ty s (.d (.lit (.bool true))) := by have h := q_eqi (P := P) (cx := cx) (ty := ty) (t := t) (yt := yt) hx hv; rwa [hb] at h
theorem q_eqif {t yt ty : TypeId} {x : Operand} {v : V} {o : Option (TypeId × V)} [hT : IfcI P t] (hx : evalV s x = some v) (hv : ifcV v = some o) (hb : ifcR o = true) : OpQ P cx (.binOp .eql t x (.const .nilIface) yt) ty s (.d (.lit (.bool false))) := by have h := q_eqi (P := P) (cx := cx) (ty := ty) (t := t) (yt := yt) hx hv; rwa [hb] at h
theorem niface {P : Program} {t : TypeId} [hT : NIfI P t] : ∃ d, P.underlying t = some d ∧ ∀ ms, d ≠ .interface ms := by
  obtain ⟨d, h1, h2⟩ := Option.map_eq_some_iff.1 hT.und
  exact ⟨d, h1, fun ms e => by subst e; simp [ifcD] at h2⟩
theorem run_assert {P : Program} {w : World} {t xt : TypeId} {y : Value} {ok : Bool} [hT : NIfI P t] : (Instr.typeAssert (.iface t y) xt t ok).run P w = .ok (if ok then .tuple #[y, .bool true] else y) w := by
  obtain ⟨d, h1, h2⟩ := niface (P := P) (t := t)
  simp only [Instr.typeAssert, Sem.run_bind, run_underlying h1, Result.andThen_ok]
  cases d <;> first | exact absurd rfl (h2 _) | simp
theorem q_ta {xt t t' ty : TypeId} {x : Operand} {v y : V} [hT : NIfI P t] (hx : evalV s x = some v) (hv : ifcV v = some (some (t', y))) (ht : Nat.beq t' t = true) : OpQ P cx (.typeAssert x xt t true) ty s (.tup [y, .d (.lit (.bool true))]) := fun g a w hS => by
  obtain ⟨u, h1, h2⟩ := ifcV_rep hv (hS.eval hx)
  have := Nat.eq_of_beq_eq_true ht
  subst this
  refine ⟨.tuple #[u, .bool true], by simp [execOp, h1, run_assert], ?_⟩
  simp only [vrep, vreps]
  exact ⟨[u, .bool true], rfl, u, [.bool true], rfl, h2, .bool true, [], rfl, by simp only [drep], rfl⟩
theorem q_ta1 {xt t t' ty : TypeId} {x : Operand} {v y : V} [hT : NIfI P t] (hx : evalV s x = some v) (hv : ifcV v = some (some (t', y))) (ht : Nat.beq t' t = true) : OpQ P cx (.typeAssert x xt t false) ty s y := fun g a w hS => by
  obtain ⟨u, h1, h2⟩ := ifcV_rep hv (hS.eval hx)
  have := Nat.eq_of_beq_eq_true ht
  subst this
  exact ⟨u, by simp [execOp, h1, run_assert], h2⟩
end

end Go.Proofs.Ytjfaihpiohccbaa

namespace Go.Proofs.Ytjfaihpiohccbaa
open Go.RowKit

section
variable {P : Program} {cx : Cx} {s : St}
theorem run_sliceArr {w : World} {t e n sz b o : Nat} [hA : ArrI P t n e sz] : (Instr.sliceAt t (.pointer (some ⟨b, o, none⟩)) none none none).run P w = .ok (.slice (some ⟨b, o, none⟩) n n) w := by
  obtain ⟨h1, i, h2, h3⟩ := hA.get
  have hs : (sizeOf e).run P w = .ok sz w := by simp [sizeOf, typeInfo, h2, h3]
  have hb : (Instr.sliceBounds false n n none none none).run P w = .ok (0, n, n) w := by simp [Instr.sliceBounds]
  have ha : (⟨b, o, none⟩ : Addr).add 0 = ⟨b, o, none⟩ := by simp [Addr.add]
  simp [Instr.sliceAt, run_underlying h1, Instr.sureAddr, hb, hs, ha]
theorem q_slicep {t ty e : TypeId} {x : Operand} {k off n sz : Nat} [hA : ArrI P t n e sz] (hx : evalV s x = some (.ptr k off)) (hn : Nat.ble n 9223372036854775807 = true) : OpQ P cx (.slice t x none none none) ty s (.sv k off n n sz) := fun g a w hS => by
  have h := hS.eval hx
  simp only [vrep] at h
  obtain ⟨b, hb, hu⟩ := h
  refine ⟨.slice (some ⟨b, off, none⟩) n n, ?_, by simp only [vrep]; exact ⟨b, hb, rfl, Nat.le_refl _, Nat.le_of_ble_eq_true hn⟩⟩
  simp [execOp, hu, run_sliceArr (P := P) (t := t) (n := n) (e := e) (sz := sz)]
theorem q_slicee {t ty e : TypeId} {x : Operand} {n sz : Nat} {l : List D} [hA : ArrI P t n e sz] (hx : evalV s x = some (.ep l)) (hl : l.length = n * sz) (h1 : leaves (l.map .d) = true) (hn : Nat.ble n 9223372036854775807 = true) : OpQ P cx (.slice t x none none none) ty s (.d (.sl false false (chunk sz n l))) := fun g a w hS => by
  have h := hS.eval hx
  simp only [vrep] at h
  obtain ⟨b, o, cs, hu, k1, k2⟩ := h
  obtain ⟨m1, m2⟩ := drepss_chunk hl k2
  refine ⟨.slice (some ⟨b, o, none⟩) n n, ?_, ?_⟩
  · simp [execOp, hu, run_sliceArr (P := P) (t := t) (n := n) (e := e) (sz := sz)]
  · simp only [vrep, drep]
    exact ⟨_, n, cs, by rw [chunk_len], by rw [chunk_len]; exact Nat.le_refl _, Nat.le_of_ble_eq_true hn, (fun h => by cases h), (fun h => by cases h), ⟨sz, m2⟩, leaves_one h1 (vreps_d k2), k1.imp fun _ hb => ⟨hb, fun h => by cases h⟩, m1⟩
end

end Go.Proofs.Ytjfaihpiohccbaa

namespace Go.Proofs.Ytjfaihpiohccbaa
open Go.RowKit

abbrev strV (b : List UInt8) : Value := .string ⟨b.toArray⟩
/-- bytes that are told as a string -/
inductive BsV : V → List UInt8 → Prop where
  | sl {c f : Bool} {b : List UInt8} : BsV (.d (.sl c f (b.map fun x => [.lit (vb x)]))) b
  | nil : BsV (.d (.lit (.slice none 0 0))) []
section
variable {P : Program} {cx : Cx} {s : St}
theorem drepss_bytes {B : Nat} {U : Nat → Prop} {w : World} : ∀ {b : List UInt8} {cs : List Value}, drepss B U w (b.map fun x => [.lit (vb x)]) cs → cs = b.map vb
  | [], _, h => by simpa only [List.map_nil, drepss] using h
  | x :: b, _, h => by
    simp only [List.map_cons, drepss, dreps, drep] at h
    obtain ⟨c1, c2, rfl, ⟨y, ys, rfl, rfl, rfl⟩, h2⟩ := h
    rw [drepss_bytes h2]; rfl
theorem q_bstr {t1 t2 ty e : TypeId} {by_ : Nat} {x : Operand} {v : V} {b : List UInt8} [hE : SlI P t1 e 1 by_] [hI : IntI P e .u8] [hS2 : StrI P t2] (hx : evalV s x = some v) (hb : BsV v b) : OpQ P cx (.convert t1 t2 x) ty s (.d (.lit (strV b))) := fun g a w hS => by
  have h := hS.eval hx
  refine ⟨strV b, ?_, by simp only [vrep, drep]⟩
  cases hb with
  | nil =>
    simp only [vrep, drep] at h
    simp only [execOp, h, Sem.run_bind]
    have := run_convert_bytes_nil w t1 e hE.elem.und hI.und 0 0 t2 hS2.und
    rw [this]; rfl
  | sl =>
    rename_i c f
    simp only [vrep, drep] at h
    obtain ⟨ad, cap, cs, e1, e2, e3, e4, e5, _, _, e7, e8⟩ := h
    have hcs := drepss_bytes e8
    subst hcs
    simp only [execOp, e1, Sem.run_bind, List.length_map]
    cases ad with
    | none =>
      have hz : b = [] := by
        have := e5 rfl
        rw [List.length_map] at e2
        exact List.length_eq_zero_iff.1 (by omega)
      subst hz
      have := run_convert_bytes_nil w t1 e hE.elem.und hI.und 0 cap t2 hS2.und
      simp only [List.length_nil]
      rw [this]; rfl
    | some ad =>
      have := run_convert_bytes_back (P := P) w t1 t2 e ad cap b hE.elem.und hI.und hS2.und fun j hj => by
        obtain ⟨bk, o, k1, _, k3⟩ := e7 j (vb b[j]) (by simp [hj])
        cases k1
        have he : (⟨bk, o, none⟩ : Addr).add j = ⟨bk, o + j, none⟩ := by unfold Addr.add; split <;> simp_all
        rw [he]; exact k3
      rw [this]; rfl
theorem q_eqs {t yt ty : TypeId} {x y : Operand} {a b : List UInt8} (hx : evalV s x = some (.d (.lit (strV a)))) (hy : evalV s y = some (.d (.lit (strV b)))) : OpQ P cx (.binOp .eql t x y yt) ty s (.d (.lit (.bool (decide (a = b))))) := by
  refine q_bin hx hy fun w => ?_
  simp only [eqGuard, binOp, Sem.run_bind, Sem.run_pure, Op.stringOp]
  have : ((⟨a.toArray⟩ : ByteArray).toList == (⟨b.toArray⟩ : ByteArray).toList) = decide (a = b) := by
    rw [ByteArray.toList_mk, ByteArray.toList_mk, Bool.eq_iff_iff]
    simp
  simp [this]
  rw [Bool.eq_iff_iff]; simp
theorem q_nes {t yt ty : TypeId} {x y : Operand} {a b : List UInt8} (hx : evalV s x = some (.d (.lit (strV a)))) (hy : evalV s y = some (.d (.lit (strV b)))) : OpQ P cx (.binOp .neq t x y yt) ty s (.d (.lit (.bool (decide (a ≠ b))))) := by
  refine q_bin hx hy fun w => ?_
  simp only [eqGuard, binOp, Sem.run_bind, Sem.run_pure, Op.stringOp]
  have : ((⟨a.toArray⟩ : ByteArray).toList == (⟨b.toArray⟩ : ByteArray).toList) = decide (a = b) := by
    rw [ByteArray.toList_mk, ByteArray.toList_mk, Bool.eq_iff_iff]
    simp
  simp [this]
  rw [Bool.eq_iff_iff]; simp
end

end Go.Proofs.Ytjfaihpiohccbaa

namespace Go.Proofs.Ytjfaihpiohccbaa
open Go.RowKit

section
variable {P : Program} {cx : Cx} {tm : List (Nat × V)} {st : List E} {nb : Nat} {s : St} {Q : VE → St → Prop} {ops rest : List Oper}

theorem vl_id (h : VL P cx ops rest s Q) : VL P cx ops rest s Q := h

theorem vs_q {d : Tmp} {op : Op} {ty : TypeId} {pos : String} {af : Array Edge} {gd : Option (Nat × Bool)} {v : V} (k : VL P cx ops rest ⟨(d, v) :: tm, st, nb⟩ Q)
    (h : OpQ P cx op ty ⟨tm, st, nb⟩ v := by first | ((with_reducible apply q_move); rfl) | ((with_reducible apply q_assign); rfl) | ((with_reducible apply q_load) <;> rfl) | ((with_reducible apply q_fldp); rfl) | ((with_reducible apply q_loade) <;> rfl) | ((with_reducible apply q_loades) <;> (first | rfl | assumption)) | ((with_reducible apply q_loads) <;> rfl) | ((with_reducible apply q_flde); rfl) | ((with_reducible apply q_fldr); rfl) | ((with_reducible apply q_eq) <;> rfl) | ((with_reducible apply q_ne) <;> rfl) | ((with_reducible apply q_lt) <;> rfl) | ((with_reducible apply q_le) <;> rfl) | ((with_reducible apply q_gt) <;> rfl) | ((with_reducible apply q_ge) <;> rfl) | ((with_reducible apply q_nott); exact ev_of rfl (by with_reducible rfl)) | ((with_reducible apply q_notf); exact ev_of rfl (by with_reducible rfl)) | ((with_reducible apply q_not); rfl) | ((with_reducible apply q_pickt); exact ev_of rfl (by with_reducible rfl); rfl) | ((with_reducible apply q_pickf); exact ev_of rfl (by with_reducible rfl); rfl) | ((with_reducible apply q_nilp); rfl) | ((with_reducible apply q_nile); rfl) | ((with_reducible apply q_nilr); rfl) | ((with_reducible apply q_nilf); rfl) | ((with_reducible apply q_add); rfl; rfl; (simp only [inK]; omega)) | ((with_reducible apply q_sub); rfl; rfl; (simp only [inK]; omega)) | ((with_reducible apply q_mul); rfl; rfl; (simp only [inK]; omega)) | ((with_reducible apply q_len) <;> rfl) | ((with_reducible apply q_min) <;> rfl) | ((with_reducible apply q_max) <;> rfl) | ((with_reducible apply q_ext) <;> rfl) | ((with_reducible apply q_extd) <;> rfl) | ((with_reducible apply q_mkf) <;> rfl) | ((with_reducible apply q_mki); rfl) | ((with_reducible apply q_idxp); rfl; rfl; omega; omega) | ((with_reducible apply q_idx); rfl; rfl; rfl; omega; (first | rfl | assumption); (first | rfl | assumption)) | ((with_reducible apply q_idxr); rfl; rfl; rfl; omega; omega) | ((with_reducible apply q_loadr); rfl; rfl; (first | rfl | assumption); rfl) | ((with_reducible apply q_loadrs); rfl; rfl; (first | rfl | assumption); exact Nat.le_of_ble_eq_true rfl) | ((with_reducible apply q_build) <;> rfl) | ((with_reducible apply q_builda) <;> rfl) | ((with_reducible apply q_slicep) <;> rfl) | ((with_reducible apply q_slicee) <;> rfl) | ((with_reducible apply q_slice); rfl; rfl; rfl; rfl; (first | exact Int.le_refl _ | omega | (simp only [Option.getD]; omega)); (simp only [Option.getD]; omega); (first | exact Int.le_refl _ | (simp only [Option.getD]; omega)); (first | assumption | (simp; fail_if_success (focus skip)))) | ((with_reducible apply q_slicerv); rfl; rfl; rfl; rfl; (first | exact Int.le_refl _ | omega); (first | exact Int.le_refl _ | omega)) | ((with_reducible apply q_slice3); rfl; rfl; rfl; rfl; rfl; (first | exact Int.le_refl _ | (simp only [Option.getD]; omega)); (simp only [Option.getD]; omega); (first | exact Int.le_refl _ | omega); (first | assumption | (simp; fail_if_success (focus skip)))) | ((with_reducible apply q_index); rfl; rfl; rfl; rfl; omega; omega; (first | rfl | assumption)) | ((with_reducible apply q_field) <;> rfl) | ((with_reducible apply q_fields) <;> rfl) | ((with_reducible apply q_neit) <;> rfl) | ((with_reducible apply q_neif) <;> rfl) | ((with_reducible apply q_eqit) <;> rfl) | ((with_reducible apply q_eqif) <;> rfl) | ((with_reducible apply q_ta) <;> rfl) | ((with_reducible apply q_ta1) <;> rfl) | ((with_reducible apply q_eqb) <;> rfl) | ((with_reducible apply q_neb) <;> rfl) | ((with_reducible apply q_bstr); rfl; (first | exact .sl | exact .nil)) | ((with_reducible apply q_eqs) <;> rfl) | ((with_reducible apply q_nes) <;> rfl) | ((with_reducible apply q_convi); rfl; (simp only [inK]; omega)) | ((with_reducible apply q_convw); rfl) | ((with_reducible apply q_bini); rfl; rfl; exact fun _ => rfl) | ((with_reducible apply q_un); rfl; exact fun _ => rfl))
    (hw : Wd ops tm gd := by first | exact trivial | exact wd_of rfl rfl (by with_reducible rfl)) (hd : Nat.blt d cx.N = true := by rfl) (hn : noDefer op = true := by rfl) : VL P cx ops (⟨some d, op, ty, pos, af, gd⟩ :: rest) ⟨tm, st, nb⟩ Q := vl_q h hw hd hn k

theorem evalV_nb {nb' : Nat} {x : Operand} {v : V} (h : evalV ⟨tm, st, nb⟩ x = some v) : evalV ⟨tm, st, nb'⟩ x = some v := by cases x <;> exact h
theorem v_app' {t ty e : TypeId} {x y : Operand} {k ver sz by_ : Nat} {l l2 : List (List D)} {nw : Bool} {v2 : V} [hE : SlI P t e sz by_] (hx : evalV ⟨tm, st, nb⟩ x = some (.row k ver)) (hr : rowAt k st = some (true, nw, ver, e, sz, l)) (hy : evalV ⟨tm, st, nb⟩ y = some v2) (hsrc : SrcV st sz v2 l2)
    (hb : (l.length + l2.length) * by_ ≤ 140737488355328) (h0 : 0 < by_) : OpV P cx (.call { callee := .builtin .append, args := #[x, y], argTypes := #[t, t] }) ty ⟨tm, st, nb⟩ (.row k (ver + 1)) (.r true nw k (ver + 1) e sz (l ++ l2) :: st) nb := v_app hx hr hy hsrc hb h0
theorem v_copy' {t t2 ty e : TypeId} {x y : Operand} {k ver by_ : Nat} {nw : Bool} {l l2 : List (List D)} {v2 : V} [hE : SlI P t e 1 by_] (hx : evalV ⟨tm, st, nb⟩ x = some (.row k ver)) (hr : rowAt k st = some (true, nw, ver, e, 1, l)) (hy : evalV ⟨tm, st, nb⟩ y = some v2) (hsrc : SrcV st 1 v2 l2) (hl : l2.length = l.length) :
    OpV P cx (.call { callee := .builtin .copy, args := #[x, y], argTypes := #[t, t2] }) ty ⟨tm, st, nb⟩ (I .i64 (l2.length : Int)) (.r true nw k ver e 1 l2 :: st) nb := v_copy hx hr hy hsrc hl
theorem u_storer' {t ty e : TypeId} {x y : Operand} {k ver sz i j n : Nat} {ag nw : Bool} {z : List Value} {l : List (List D)} {cs : List D} {v : V} {vs : List V} {d : D} [hT : TyI P t ag n z] (hx : evalV ⟨tm, st, nb⟩ x = some (.rp k ver sz i j)) (hr : rowAt k st = some (true, nw, ver, e, sz, l)) (hl : l[i]? = some cs) (hy : evalV ⟨tm, st, nb⟩ y = some v) (hd : argD st v = some d) (hv : cellsV (.d d) = some vs) (h1 : (leaves vs && Nat.beq vs.length n) = true) (hj : Nat.ble (j + n) sz = true) :
    OpU P cx (.store t x y) ty ⟨tm, st, nb⟩ (.r true nw k ver e sz (l.set i (setD cs j (cellsD d))) :: st) nb := u_storer hx hr hl hy hd hv h1 hj
theorem u_store' {t ty : TypeId} {x y : Operand} {k off sz : Nat} {ag : Bool} {z : List Value} {v : V} {vs old : List V} [hT : TyI P t ag (sz + 1) z] (hx : evalV ⟨tm, st, nb⟩ x = some (.ptr k off)) (hy : evalV ⟨tm, st, nb⟩ y = some v) (hv : cellsV v = some vs) (hl : vs.length = sz + 1) (h1 : leaves vs = true) (hold : cellsAt k off st (sz + 1) = some old) :
    OpU P cx (.store t x y) ty ⟨tm, st, nb⟩ (.c k off vs :: st) nb := u_store hx hy hv hl h1 hold

theorem vs_r {d : Tmp} {op : Op} {ty : TypeId} {pos : String} {af : Array Edge} {gd : Option (Nat × Bool)} {v : V} {e : E} (k : VL P cx ops rest ⟨(d, v) :: tm, e :: st, nb + 1⟩ Q)
    (h : OpR P cx op ty tm st v nb e := by first | (with_reducible apply r_alloc) | ((with_reducible apply r_box) <;> rfl) | ((with_reducible apply r_bs) <;> rfl) | ((with_reducible apply r_make); rfl; rfl; omega; omega; decide; rfl) | ((with_reducible apply r_appn); rfl; rfl; (first | exact .row rfl | exact .nil | exact .sl (by first | assumption | (simp; fail_if_success (focus skip)))); (first | omega | (simp; omega)); decide) | ((with_reducible apply r_appc); rfl; (first | exact .rv rfl (Nat.le_refl _) | exact .rv rfl (by omega) | exact .sl (by first | assumption | (simp; fail_if_success (focus skip)))); rfl; (first | exact .row rfl | exact .sl (by first | assumption | (simp; fail_if_success (focus skip)))); (first | omega | simp); (first | omega | (simp; omega)); decide))
    (hw : Wd ops tm gd := by first | exact trivial | exact wd_of rfl rfl (by with_reducible rfl)) (hd : Nat.blt d cx.N = true := by rfl) (hn : noDefer op = true := by rfl) : VL P cx ops (⟨some d, op, ty, pos, af, gd⟩ :: rest) ⟨tm, st, nb⟩ Q := vl_v h.v hw hd hn k
theorem vs_v {d : Tmp} {op : Op} {ty : TypeId} {pos : String} {af : Array Edge} {gd : Option (Nat × Bool)} {v : V} {st' : List E} {nb' : Nat} (k : VL P cx ops rest ⟨(d, v) :: tm, st', nb'⟩ Q)
    (h : OpV P cx op ty ⟨tm, st, nb⟩ v st' nb' := by
      first
        | ((with_reducible apply v_copy'); rfl; rfl; rfl; (first | exact .row rfl | exact .nil | exact .sl (by first | assumption | (simp; done))); (first | rfl | (simp; done)))
        | ((with_reducible apply v_app'); rfl; rfl; rfl; (first | exact .row rfl | exact .nil | exact .sl (by first | assumption | (simp; done))); (first | omega | (simp; omega)); decide))
    (hw : Wd ops tm gd := by first | exact trivial | exact wd_of rfl rfl (by with_reducible rfl)) (hd : Nat.blt d cx.N = true := by rfl) (hn : noDefer op = true := by rfl) : VL P cx ops (⟨some d, op, ty, pos, af, gd⟩ :: rest) ⟨tm, st, nb⟩ Q := vl_v h hw hd hn k
theorem vs_u {op : Op} {ty : TypeId} {pos : String} {af : Array Edge} {gd : Option (Nat × Bool)} {st' : List E} {nb' : Nat} (k : VL P cx ops rest ⟨tm, st', nb'⟩ Q)
    (h : OpU P cx op ty ⟨tm, st, nb⟩ st' nb' := by
      first
        | ((with_reducible apply u_store') <;> rfl)
        | ((with_reducible apply u_storer'); rfl; rfl; (first | rfl | assumption); rfl; rfl; rfl; rfl; rfl))
    (hw : Wd ops tm gd := by first | exact trivial | exact wd_of rfl rfl (by with_reducible rfl)) (hn : noDefer op = true := by rfl) : VL P cx ops (⟨none, op, ty, pos, af, gd⟩ :: rest) ⟨tm, st, nb⟩ Q := vl_u h hw hn k
theorem vs_p {d : Option Tmp} {op : Op} {ty : TypeId} {pos : String} {af : Array Edge} {gd : Option (Nat × Bool)} {v : V} (k : Q (.panic v) ⟨tm, st, nb⟩)
    (h : OpP P cx op ty ⟨tm, st, nb⟩ v := by
      first
        | ((with_reducible apply p_panic); rfl) | ((with_reducible apply p_panicd); rfl))
    (hw : Wd ops tm gd := by first | exact trivial | exact wd_of rfl rfl (by with_reducible rfl)) (hn : noDefer op = true := by rfl) : VL P cx ops (⟨d, op, ty, pos, af, gd⟩ :: rest) ⟨tm, st, nb⟩ Q := vl_p h hw hn k
/-- the guard's two answers -/
theorem vs_case {d : Tmp} {op : Op} {ty : TypeId} {pos : String} {af : Array Edge} {j : Nat} {b : Bool} {t : Nat} {p : Prop} [Decidable p] (k1 : p → VL P cx ops (⟨some d, op, ty, pos, af, some (j, b)⟩ :: rest) ⟨(t, .d (.lit (.bool true))) :: tm, st, nb⟩ Q) (k2 : ¬ p → VL P cx ops (⟨some d, op, ty, pos, af, some (j, b)⟩ :: rest) ⟨(t, .d (.lit (.bool false))) :: tm, st, nb⟩ Q)
    (_h1 : (ops[j]?).bind (·.dst) = some t := by rfl) (h2 : lookT t tm = some (.d (.lit (.bool (decide p)))) := by rfl) : VL P cx ops (⟨some d, op, ty, pos, af, some (j, b)⟩ :: rest) ⟨tm, st, nb⟩ Q := vl_casep h2 k1 k2
theorem vs_caseb {d : Tmp} {op : Op} {ty : TypeId} {pos : String} {af : Array Edge} {j : Nat} {b c : Bool} {t : Nat} (k1 : c = true → VL P cx ops (⟨some d, op, ty, pos, af, some (j, b)⟩ :: rest) ⟨(t, .d (.lit (.bool true))) :: tm, st, nb⟩ Q) (k2 : c = false → VL P cx ops (⟨some d, op, ty, pos, af, some (j, b)⟩ :: rest) ⟨(t, .d (.lit (.bool false))) :: tm, st, nb⟩ Q)
    (_h1 : (ops[j]?).bind (·.dst) = some t := by rfl) (h2 : lookT t tm = some (.d (.lit (.bool c))) := by rfl) : VL P cx ops (⟨some d, op, ty, pos, af, some (j, b)⟩ :: rest) ⟨tm, st, nb⟩ Q := vl_case h2 k1 k2

/-- the guard's answer is known -/
theorem vs_lit {d : Tmp} {op : Op} {ty : TypeId} {pos : String} {af : Array Edge} {j : Nat} {b : Bool} {t : Nat} (k : VL P cx ops (⟨some d, op, ty, pos, af, some (j, b)⟩ :: rest) ⟨tm, st, nb⟩ Q)
    (_h1 : (ops[j]?).bind (·.dst) = some t := by rfl) {v : V} (_h2 : lookT t tm = some v := by rfl) (_h3 : v = .d (.lit (.bool true)) ∨ v = .d (.lit (.bool false)) := by first | (left; with_reducible rfl) | (right; with_reducible rfl)) : VL P cx ops (⟨some d, op, ty, pos, af, some (j, b)⟩ :: rest) ⟨tm, st, nb⟩ Q := k
theorem vs_ret {t : Tmp} {x : Operand} {f : FuncId} {xs : Array Operand} {tys : Array TypeId} {ty : TypeId} {pos : String} {af : Array Edge} {gd : Option (Nat × Bool)} {v : V} {vs az : List V} {ds' ds : List D} {d : D}
    (hc : VP P f ds (· = .ret d)) (k : VL P cx ops rest ⟨(t, .d d) :: tm, st, nb⟩ Q) (hx : evalV ⟨tm, st, nb⟩ x = some v := by rfl) (hv : evalVs ⟨tm, st, nb⟩ xs.toList = some vs := by rfl) (hf : fnV v vs = some (f, az) := by rfl) (ha : AD st az ds' := by first | exact ad_of rfl | ((repeat' (first | exact ad_nil | exact ad_map | ((apply ad_cons); rfl))); fail_if_success (focus skip))) (hd : DLs ds' ds := by ((repeat' (first | exact dls_nil | with_reducible apply dls_cons | with_reducible exact dl_lit _ | with_reducible exact dl_lf _ | infer_instance | with_reducible apply dl_agg | with_reducible apply dl_ifc | with_reducible apply dl_pt | with_reducible apply dl_fn | with_reducible apply dl_slr | assumption | apply dl_slr)); fail_if_success (focus skip))) (hw : Wd ops tm gd := by first | exact trivial | exact wd_of rfl rfl (by with_reducible rfl)) (ht : Nat.blt t cx.N = true := by rfl) :
    VL P cx ops (⟨some t, .call { callee := .value x, args := xs, argTypes := tys }, ty, pos, af, gd⟩ :: rest) ⟨tm, st, nb⟩ Q := vl_ret hc hx hv hf ha hd hw ht k
theorem vs_own {t : Tmp} {x : Operand} {f : FuncId} {xs : Array Operand} {tys : Array TypeId} {ty : TypeId} {pos : String} {af : Array Edge} {gd : Option (Nat × Bool)} {v : V} {vs az : List V} {ds' ds : List D} {e : TypeId} {sz : Nat} {l : List (List D)}
    (hc : VP P f ds (· = .own e sz l)) (k : VL P cx ops rest ⟨(t, .row nb 0) :: tm, .r true true nb 0 e sz l :: st, nb + 1⟩ Q) (hx : evalV ⟨tm, st, nb⟩ x = some v := by rfl) (hv : evalVs ⟨tm, st, nb⟩ xs.toList = some vs := by rfl) (hf : fnV v vs = some (f, az) := by rfl) (ha : AD st az ds' := by first | exact ad_of rfl | ((repeat' (first | exact ad_nil | exact ad_map | ((apply ad_cons); rfl))); fail_if_success (focus skip))) (hd : DLs ds' ds := by ((repeat' (first | exact dls_nil | with_reducible apply dls_cons | with_reducible exact dl_lit _ | with_reducible exact dl_lf _ | infer_instance | with_reducible apply dl_agg | with_reducible apply dl_ifc | with_reducible apply dl_pt | with_reducible apply dl_fn | with_reducible apply dl_slr | assumption | apply dl_slr)); fail_if_success (focus skip))) (hw : Wd ops tm gd := by first | exact trivial | exact wd_of rfl rfl (by with_reducible rfl)) (ht : Nat.blt t cx.N = true := by rfl) :
    VL P cx ops (⟨some t, .call { callee := .value x, args := xs, argTypes := tys }, ty, pos, af, gd⟩ :: rest) ⟨tm, st, nb⟩ Q := vl_own hc hx hv hf ha hd hw ht k
theorem vs_pan {t : Tmp} {x : Operand} {f : FuncId} {xs : Array Operand} {tys : Array TypeId} {ty : TypeId} {pos : String} {af : Array Edge} {gd : Option (Nat × Bool)} {v : V} {vs az : List V} {ds' ds : List D} {d : D}
    (hc : VP P f ds (· = .panic d)) (k : Q (.panic (.d d)) ⟨tm, st, nb⟩) (hx : evalV ⟨tm, st, nb⟩ x = some v := by rfl) (hv : evalVs ⟨tm, st, nb⟩ xs.toList = some vs := by rfl) (hf : fnV v vs = some (f, az) := by rfl) (ha : AD st az ds' := by first | exact ad_of rfl | ((repeat' (first | exact ad_nil | exact ad_map | ((apply ad_cons); rfl))); fail_if_success (focus skip))) (hd : DLs ds' ds := by ((repeat' (first | exact dls_nil | with_reducible apply dls_cons | with_reducible exact dl_lit _ | with_reducible exact dl_lf _ | infer_instance | with_reducible apply dl_agg | with_reducible apply dl_ifc | with_reducible apply dl_pt | with_reducible apply dl_fn | with_reducible apply dl_slr | assumption | apply dl_slr)); fail_if_success (focus skip))) (hw : Wd ops tm gd := by first | exact trivial | exact wd_of rfl rfl (by with_reducible rfl)) (ht : Nat.blt t cx.N = true := by rfl) :
    VL P cx ops (⟨some t, .call { callee := .value x, args := xs, argTypes := tys }, ty, pos, af, gd⟩ :: rest) ⟨tm, st, nb⟩ Q := vl_pan hc hx hv hf ha hd hw ht k

theorem vs_lent {t : Tmp} {x : Operand} {f : FuncId} {xs : Array Operand} {tys : Array TypeId} {ty : TypeId} {pos : String} {af : Array Edge} {gd : Option (Nat × Bool)} {v : V} {vs az : List V} {ds' ds : List D} {d : D}
    (hc : VP P f ds (· = .ret d)) (k : VL P cx ops rest ⟨(t, .d d) :: tm, st, nb⟩ Q) (hx : evalV ⟨tm, st, nb⟩ x = some v := by rfl) (hv : evalVs ⟨tm, st, nb⟩ xs.toList = some vs := by rfl) (hf : fnV v vs = some (f, az) := by rfl) (ha : lendDs st 64 az = some ds' := by rfl) (hd : DLs ds' ds := by ((repeat' (first | exact dls_nil | with_reducible apply dls_cons | with_reducible exact dl_lit _ | with_reducible exact dl_lf _ | infer_instance | with_reducible apply dl_agg | with_reducible apply dl_ifc | with_reducible apply dl_pt | with_reducible apply dl_fn | with_reducible apply dl_slr | assumption | apply dl_slr)); fail_if_success (focus skip))) (hfl : NewD d := by infer_instance) (hw : Wd ops tm gd := by first | exact trivial | exact wd_of rfl rfl (by with_reducible rfl)) (ht : Nat.blt t cx.N = true := by rfl) :
    VL P cx ops (⟨some t, .call { callee := .value x, args := xs, argTypes := tys }, ty, pos, af, gd⟩ :: rest) ⟨tm, st, nb⟩ Q := vl_lent hc hx hv hf ha hd hfl hw ht (fun _ e => by cases e; exact k) (fun _ _ _ e => by cases e) (fun _ e => by cases e)
theorem vs_lentp {t : Tmp} {x : Operand} {f : FuncId} {xs : Array Operand} {tys : Array TypeId} {ty : TypeId} {pos : String} {af : Array Edge} {gd : Option (Nat × Bool)} {v : V} {vs az : List V} {ds' ds : List D} {d : D}
    (hc : VP P f ds (· = .panic d)) (k : Q (.panic (.d d)) ⟨tm, st, nb⟩) (hx : evalV ⟨tm, st, nb⟩ x = some v := by rfl) (hv : evalVs ⟨tm, st, nb⟩ xs.toList = some vs := by rfl) (hf : fnV v vs = some (f, az) := by rfl) (ha : lendDs st 64 az = some ds' := by rfl) (hd : DLs ds' ds := by ((repeat' (first | exact dls_nil | with_reducible apply dls_cons | with_reducible exact dl_lit _ | with_reducible exact dl_lf _ | infer_instance | with_reducible apply dl_agg | with_reducible apply dl_ifc | with_reducible apply dl_pt | with_reducible apply dl_fn | with_reducible apply dl_slr | assumption | apply dl_slr)); fail_if_success (focus skip))) (hfl : NewD d := by infer_instance) (hw : Wd ops tm gd := by first | exact trivial | exact wd_of rfl rfl (by with_reducible rfl)) (ht : Nat.blt t cx.N = true := by rfl) :
    VL P cx ops (⟨some t, .call { callee := .value x, args := xs, argTypes := tys }, ty, pos, af, gd⟩ :: rest) ⟨tm, st, nb⟩ Q := vl_lent hc hx hv hf ha hd hfl hw ht (fun _ e => by cases e) (fun _ _ _ e => by cases e) (fun _ e => by cases e; exact k)

theorem vw_cid {c : Operand} {x y : Code} (h : VW P cx (.cond c x y) s Q) : VW P cx (.cond c x y) s Q := h
theorem vw_condt {c : Operand} {x y : Code} (ht : VW P cx x s Q) (hc : evalV s c = some (.d (.lit (.bool true))) := by exact ev_of rfl (by with_reducible rfl)) : VW P cx (.cond c x y) s Q := vw_cond hc (fun _ => ht) (fun h => by cases h)
theorem vw_condf {c : Operand} {x y : Code} (ht : VW P cx y s Q) (hc : evalV s c = some (.d (.lit (.bool false))) := by exact ev_of rfl (by with_reducible rfl)) : VW P cx (.cond c x y) s Q := vw_cond hc (fun h => by cases h) (fun _ => ht)
theorem vw_cp {c : Operand} {x y : Code} {p : Prop} [Decidable p] (ht : p → VW P cx x s Q) (hf : ¬ p → VW P cx y s Q) (hc : evalV s c = some (.d (.lit (.bool (decide p)))) := by rfl) : VW P cx (.cond c x y) s Q := vw_condp hc ht hf
theorem vw_cb {c : Operand} {x y : Code} {b : Bool} (ht : b = true → VW P cx x s Q) (hf : b = false → VW P cx y s Q) (hc : evalV s c = some (.d (.lit (.bool b))) := by rfl) : VW P cx (.cond c x y) s Q := vw_cond hc ht hf

/-! ### what comes next -/
theorem nx_then {c : Code} (h : VW P cx c s Q) : thenV P cx c Q .normal s := h
theorem nx_thenx {c : Code} {i : Nat} (h : Q (.exit i) s) : thenV P cx c Q (.exit i) s := h
theorem nx_thenr {c : Code} (h : Q .ret s) : thenV P cx c Q .ret s := h
theorem nx_thenp {c : Code} {v : V} (h : Q (.panic v) s) : thenV P cx c Q (.panic v) s := h
theorem nx_theng {c : Code} {i : Nat} (h : Q (.goto i) s) : thenV P cx c Q (.goto i) s := h
theorem nx_blk {i : Nat} (h : Q .normal s) : blockV i Q .normal s := h
theorem nx_blkr {i : Nat} (h : Q .ret s) : blockV i Q .ret s := h
theorem nx_blkp {i : Nat} {v : V} (h : Q (.panic v) s) : blockV i Q (.panic v) s := h
theorem nx_blkx {i j : Nat} (hj : Nat.beq j i = true) (h : Q .normal s) : blockV i Q (.exit j) s := by simp only [blockV, hj]; exact h
theorem nx_blky {i j : Nat} (hj : Nat.beq j i = false) (h : Q (.exit j) s) : blockV i Q (.exit j) s := by simp only [blockV, hj]; exact h
theorem rt_id {rs : List ResultVar} {post : R → Prop} (h : retQ P rs post .ret s) : retQ P rs post .ret s := h
theorem rt_idp {rs : List ResultVar} {post : R → Prop} {v : V} (h : retQ P rs post (.panic v) s) : retQ P rs post (.panic v) s := h
theorem rt_ok {rs : List ResultVar} {post : R → Prop} {vs : List V} {d : D} (h : ResV P s rs vs) (hd : retD s.st (packV vs) = some d) (k : post (.ret d)) : retQ P rs post .ret s := ⟨vs, h, .inl ⟨d, hd, k⟩⟩
theorem rt_okn {rs : List ResultVar} {post : R → Prop} {vs : List V} {d : D} (h : ResV P s rs vs) (hd : retD s.st (packV vs) = some d) (k : post (.ret d)) : retQ P rs post .normal s := ⟨vs, h, .inl ⟨d, hd, k⟩⟩
theorem rt_a {rs : List ResultVar} {post : R → Prop} {vs : List V} {d : D} (k : post (.ret d))
    (h : ResV P s rs vs := by repeat' (first | exact ResV.nil | (apply ResV.tmp; rfl) | (apply ResV.cell; infer_instance; rfl; rfl) | (apply ResV.cells; infer_instance; rfl; rfl))) (hd : retD s.st (packV vs) = some d := by rfl) : retQ P rs post .ret s := ⟨vs, h, .inl ⟨d, hd, k⟩⟩
theorem rt_o {rs : List ResultVar} {post : R → Prop} {vs : List V} {k ver : Nat} {nw : Bool} {e : TypeId} {sz : Nat} {l : List (List D)} (q : post (.own e sz l))
    (h : ResV P s rs vs := by repeat' (first | exact ResV.nil | (apply ResV.tmp; rfl) | (apply ResV.cell; infer_instance; rfl; rfl) | (apply ResV.cells; infer_instance; rfl; rfl))) (hd : packV vs = .row k ver := by rfl) (hr : rowAt k s.st = some (true, nw, ver, e, sz, l) := by rfl) : retQ P rs post .ret s := ⟨vs, h, .inr ⟨k, nw, ver, e, sz, l, hd, hr, q⟩⟩
theorem rt_n {post : R → Prop} (k : post (.ret (.tup []))) : retQ P [] post .normal s := ⟨[], .nil, .inl ⟨_, rfl, k⟩⟩
theorem rt_nr {post : R → Prop} (k : post (.ret (.tup []))) : retQ P [] post .ret s := ⟨[], .nil, .inl ⟨_, rfl, k⟩⟩
theorem rt_idn {rs : List ResultVar} {post : R → Prop} (h : retQ P rs post .normal s) : retQ P rs post .normal s := h
theorem rt_own {rs : List ResultVar} {post : R → Prop} {vs : List V} {k ver : Nat} {nw : Bool} {e : TypeId} {sz : Nat} {l : List (List D)} (h : ResV P s rs vs) (hd : packV vs = .row k ver) (hr : rowAt k s.st = some (true, nw, ver, e, sz, l)) (q : post (.own e sz l)) : retQ P rs post .ret s := ⟨vs, h, .inr ⟨k, nw, ver, e, sz, l, hd, hr, q⟩⟩
theorem rt_pan {rs : List ResultVar} {post : R → Prop} {v : V} {d : D} (hd : retD s.st v = some d) (k : post (.panic d)) : retQ P rs post (.panic v) s := ⟨d, hd, k⟩

/-- a slice is no longer than slices are -/
theorem vw_len {c : Code} {cc f : Bool} {l : List (List D)} (t : Tmp) (ht : lookT t s.tm = some (.d (.sl cc f l))) (k : l.length ≤ 9223372036854775807 → VW P cx c s Q) : VW P cx c s Q := fun n g0 w0 g a w hE hS => by
  have h := hS.tm ht
  simp only [vrep, drep] at h
  obtain ⟨_, cap, _, _, h1, h2, _⟩ := h
  exact k (by simp only [maxLen] at h2; omega) n g0 w0 g a w hE hS
/-- a slice's elements say what they say to others too -/
theorem dlss_of {l : List (List D)} (h : ∀ x ∈ l, DLs x x) : DLss l l := ⟨fun B B' U w u k => by
  induction l generalizing u with
  | nil => simpa only [drepss] using k
  | cons x xs ih =>
    simp only [drepss] at k ⊢
    obtain ⟨c1, c2, e, k1, k2⟩ := k
    exact ⟨c1, c2, e, (h x (by simp)).le _ _ _ _ _ k1, ih (fun y hy => h y (by simp [hy])) _ k2⟩, rfl, fun _ h => h⟩
instance dlss_nil : DLss [] [] := dlss_of fun _ h => by simp at h
instance dlss_cons {x : List D} {l : List (List D)} [h : DLs x x] [hs : DLss l l] : DLss (x :: l) (x :: l) := ⟨fun B B' U w u k => by
  simp only [drepss] at k ⊢
  obtain ⟨c1, c2, e, k1, k2⟩ := k
  exact ⟨c1, c2, e, h.le _ _ _ _ _ k1, hs.le _ _ _ _ _ k2⟩, rfl, fun _ h => h⟩
end

end Go.Proofs.Ytjfaihpiohccbaa

namespace Go.Proofs.Ytjfaihpiohccbaa
open Go.RowKit

section
variable {P : Program} {ops : Array Oper} {Q : Exit → Act → World → Prop} {S : World → Prop} {L : Array Bool → Act → World → Prop} {n : Nat}

/-- the head of a region: so many operations with numbers below n are still to come; S after each; then L -/
def wpHL (P : Program) (ops : Array Oper) (Q : Exit → Act → World → Prop) (S : World → Prop) (n : Nat) (L : Array Bool → Act → World → Prop) : Nat → Array Bool → Act → World → Prop
  | 0, listed, a, w => (∀ j ∈ Region.ready .any ops listed, n ≤ j) ∧ L listed a w
  | f + 1, listed, a, w => (∃ j, j ∈ Region.ready .any ops listed) ∧ ∀ i ∈ Region.ready .any ops listed, i < n → wpOp P ops Q i (fun a' w' => S w' ∧ wpHL P ops Q S n L f (listed.setIfInBounds i true) a' w') a w

theorem wpHL_first {i : Nat} {oi : Oper} {v : Value} (hi : ops[i]? = some oi) (hin : i < n) (hsel : ∀ (j : Nat) (o : Oper) cs b, ops[j]? = some o → o.op ≠ .select cs b)
    (hQ : ∀ c a d v w, Q (.panic c) (a.put d v) w → Q (.panic c) a w) :
    ∀ (f : Nat) (listed : Array Bool) (a : Act) (w : World),
      (∀ j oj, ops[j]? = some oj → j ≠ i → listed.getD j true = false → (∀ e ∈ oj.after, Region.binds .any e = true → e.on ≠ i) → oi.apart ops oj = true) →
      i ∈ Region.ready .any ops listed → YieldsIf P ops S oi v a → S w →
      wpHL P ops Q S n L f (listed.setIfInBounds i true) (a.put oi.dst v) w → wpHL P ops Q S n L (f + 1) listed a w := by
  intro f
  induction f with
  | zero =>
    intro listed a w _ hr hy hS H
    refine ⟨⟨i, hr⟩, fun j hj hjn => ?_⟩
    by_cases e : j = i
    · subst e; exact hy.wpOp hi hS ⟨hS, H⟩
    · have := H.1 j (ready_mono hj e)
      omega
  | succ f ih =>
    intro listed a w hfree hr hy hS H
    refine ⟨⟨i, hr⟩, fun j hj hjn => ?_⟩
    by_cases e : j = i
    · subst e; exact hy.wpOp hi hS ⟨hS, H⟩
    · obtain ⟨hjun, oj, hoj, hall⟩ := mem_ready.1 hj
      have hun := (mem_ready.1 hr).1
      have hnot : ∀ x ∈ oj.after, Region.binds .any x = true → x.on ≠ i := fun x hx hb heq => by
        have h1 := hall x hx hb
        rw [heq, getD_both hun] at h1
        cases h1
      have hput := wpOp_putIf hoj (hfree j oj hoj e hjun hnot) (fun cs b => hsel i oi cs b hi) (fun cs b => hsel j oj cs b hoj) (fun c a w => hQ c a _ _ w) hy (H.2 j (ready_mono hj e) hjn)
      refine wpOp_mono (fun a' w' h3 => ⟨h3.2.1, ?_⟩) hput
      refine ih (listed.setIfInBounds j true) a' w' (fun k ok hk hki hku hno => hfree k ok hk hki ?_ hno) (ready_mono hr (fun h => e h.symm)) h3.1 h3.2.1 ?_
      · by_cases hjk : j = k
        · subst hjk; exact hjun
        · rwa [getD_set_ne true hjk] at hku
      · rw [Array.setIfInBounds_comm _ _ e]
        exact h3.2.2

/-- how many of the first k are still to come -/
def un (listed : Array Bool) : Nat → Nat
  | 0 => 0
  | k + 1 => (if listed.getD k true = true then 0 else 1) + un listed k
theorem un_congr {l l' : Array Bool} : ∀ k, (∀ i, i < k → l.getD i true = l'.getD i true) → un l k = un l' k
  | 0, _ => rfl
  | k + 1, h => by rw [un, un, h k (by omega), un_congr k (fun i hi => h i (by omega))]
theorem un_set {l : Array Bool} {i : Nat} (hi : l.getD i true = false) : ∀ k, i < k → un (l.setIfInBounds i true) k + 1 = un l k
  | 0, h => by omega
  | k + 1, h => by
    have hlt : i < l.size := by
      rcases Nat.lt_or_ge i l.size with h' | h'
      · exact h'
      · simp [Array.getElem?_eq_none h'] at hi
    by_cases e : i = k
    · subst e
      have h1 : (l.setIfInBounds i true).getD i true = true := by simp [hlt]
      rw [un, un, h1, hi, un_congr (l := l.setIfInBounds i true) (l' := l) i (fun j hj => getD_set_ne true (by omega))]
      simp; omega
    · rw [un, un, getD_set_ne true e]
      have := un_set hi k (by omega)
      omega
theorem un_pos {l : Array Bool} : ∀ {k}, 0 < un l k → ∃ i, i < k ∧ l.getD i true = false
  | 0, h => by simp [un] at h
  | k + 1, h => by
    cases e : l.getD k true with
    | false => exact ⟨k, by omega, e⟩
    | true =>
      rw [un, e] at h
      obtain ⟨i, hi, he⟩ := un_pos (k := k) (by simpa using h)
      exact ⟨i, by omega, he⟩
theorem un_none (m : Nat) : ∀ k, k ≤ m → un (Array.replicate m false) k = k
  | 0, _ => rfl
  | k + 1, h => by
    rw [un, un_none m k (by omega)]
    simp [show k < m from by omega]; omega

/-- the head, and then the tail, come to the region -/
theorem wpAny_of_HL {g : Nat} (hs : n = ops.size ∨ (Region.sinkB .any ops n = true ∧ Region.chainB .any ops n = true ∧ n < ops.size)) (hL : ∀ listed a w, HeadInv .any ops n listed → un listed n = 0 → (∀ j ∈ Region.ready .any ops listed, n ≤ j) → L listed a w → wpAny P .any ops Q g listed a w) :
    ∀ (f : Nat) (listed : Array Bool) (a : Act) (w : World), HeadInv .any ops n listed → un listed n = f → wpHL P ops Q S n L f listed a w → wpAny P .any ops Q (f + g) listed a w := by
  intro f
  induction f with
  | zero => intro listed a w inv hu h; rw [Nat.zero_add]; exact hL _ _ _ inv hu h.1 h.2
  | succ f ih =>
    intro listed a w inv hu h
    obtain ⟨⟨j, hj⟩, h⟩ := h
    obtain ⟨i0, hi0, hun⟩ := un_pos (l := listed) (k := n) (by omega)
    rw [show f + 1 + g = (f + g) + 1 from by omega]
    refine ⟨fun h0 => (by rw [h0] at hj; cases hj), fun i hi => ?_⟩
    have hin : i < n := by
      rcases hs with rfl | ⟨hs, hc, hn⟩
      · obtain ⟨_, o, ho, _⟩ := mem_ready.1 hi
        exact (Array.getElem?_eq_some_iff.1 ho).1
      · rcases Nat.lt_or_ge i n with h' | h'
        · exact h'
        · exact absurd hi (tail_waits hs hc hn inv _ i0 rfl hi0 hun i h')
    refine wpOp_mono (fun a' w' h3 => ?_) (h i hi hin)
    refine ih _ a' w' (inv.set hi hin) ?_ h3.2
    have := un_set (mem_ready.1 hi).1 n hin
    omega

/-! ### the order that is named -/
inductive Seg where
  | q (l : List Nat)
  | e (i : Nat)

/-- the walk in segments: quiet ones by 'wpQuiet' at the class S, the others one by one -/
def wpSegs (P : Program) (ops : Array Oper) (Q : Exit → Act → World → Prop) (S : World → Prop) (L : Act → World → Prop) : List Seg → Act → World → Prop
  | [], a, w => L a w
  | .q l :: r, a, w => S w ∧ wpQuiet P ops S (fun a' => wpSegs P ops Q S L r a' w) (l.filterMap (ops[·]?)) a
  | .e i :: r, a, w => wpList P ops (Exit.then (fun a' w' => S w' ∧ wpSegs P ops Q S L r a' w') Q) ([i].filterMap (ops[·]?)) a w

/-- operations that yield a value, and never a call of Go code -/
def heldOp (o : Oper) : Bool :=
  match o.op with
  | .move _ | .assign _ | .pick .. | .load .. | .binOp .. | .unOp .. | .convert .. | .fieldAddr .. | .field .. | .indexAddr .. | .index .. | .extract .. | .slice .. | .build .. | .makeInterface .. | .makeFunc .. => true
  | .nilCheck _ => true
  | .call { callee := .builtin .len, .. } | .call { callee := .builtin .min, .. } | .call { callee := .builtin .max, .. } | .call { callee := .builtin .cap, .. } => true
  | _ => false

theorem andThen_val {s : Sem Value} {x : Next} {w w' : World} (h : ((do pure (Next.value (← s))) : Sem Next).run P w = .ok x w') : ∃ v, x = .value v := by
  rw [Sem.run_bind] at h
  cases hs : s.run P w with
  | ok v w1 => rw [hs] at h; simp [Result.andThen] at h; exact ⟨v, h.1.symm⟩
  | halt y w1 => rw [hs] at h; simp [Result.andThen] at h

theorem bind_val {α : Type} {s : Sem α} {k : α → Sem Next} {x : Next} {w w' : World} (hk : ∀ a w1, (k a).run P w1 = .ok x w' → ∃ v, x = .value v) (h : (s >>= k).run P w = .ok x w') : ∃ v, x = .value v := by
  rw [Sem.run_bind] at h
  cases hs : s.run P w with
  | ok v w1 => rw [hs] at h; exact hk v w1 h
  | halt y w1 => rw [hs] at h; simp [Result.andThen] at h
theorem pure_val {u : Value} {x : Next} {w w' : World} (h : (pure (Next.value u) : Sem Next).run P w = .ok x w') : ∃ v, x = .value v := by
  simp at h; exact ⟨u, h.1.symm⟩
theorem panic_val {x : Next} {w w' : World} (h : (runtimePanic .nilDeref : Sem Next).run P w = .ok x w') : ∃ v, x = .value v := by
  simp [runtimePanic, goPanic, Sem.run] at h

theorem held_value {o : Oper} (hh : heldOp o = true) {ev : Operand → Value} {x : Next} {w w' : World} (h : (execOp ev o).run P w = .ok x w') : ∃ v, x = .value v := by
  unfold heldOp at hh
  unfold execOp at h
  split at hh <;> rename_i ho <;> simp only [ho] at h
  all_goals first
    | exact andThen_val h
    | (simp at h; exact ⟨_, h.1.symm⟩)
    | cases hh
    | exact bind_val (fun _ _ h => pure_val h) h
    | skip
  · refine bind_val (fun b w1 hb => ?_) h
    exact pure_val hb
  · split at h
    · exact panic_val h
    · exact panic_val h
    · exact panic_val h
    · split at h
      · exact panic_val h
      · refine bind_val (fun _ _ h => ?_) h
        refine bind_val (fun _ _ h => ?_) h
        split at h
        · refine bind_val (fun _ _ h => pure_val h) h
        · exact pure_val h
      · exact pure_val h
    · exact pure_val h

theorem yieldsIf_of_quiet {o : Oper} {a : Act} {K : Act → Prop} (hc : heldOp o = true) (hw : Region.wanted o (yielded ops a.tmps) = true) (h : o.quiet P a S K) : ∃ v, YieldsIf P ops S o v a ∧ K (a.put o.dst v) := by
  obtain ⟨v, hv, hk⟩ := h
  refine ⟨v, .inl ⟨hw, fun w hw' => ?_⟩, hk⟩
  have h1 := hv w hw'
  unfold Oper.quietAt at h1
  cases hr : (execOp a.eval o).run P w with
  | halt y w1 => rw [hr] at h1; cases h1
  | ok x w1 =>
    obtain ⟨u, rfl⟩ := held_value hc hr
    rw [hr] at h1
    obtain ⟨rfl, rfl⟩ := h1
    rfl

def flat : List Seg → List (Nat × Bool)
  | [] => []
  | .q l :: r => l.map (fun i => (i, true)) ++ flat r
  | .e i :: r => (i, false) :: flat r

/-- is this an order that serves all? (n: the head's length) -/
def flatB (ops : Array Oper) (n : Nat) : List (Nat × Bool) → Array Bool → Bool
  | [], listed => (Region.ready .any ops listed).all (fun j => decide (n ≤ j))
  | (i, true) :: r, listed => decide (i < n) && (Region.ready .any ops listed).contains i && Region.free .any ops listed i && ((ops[i]?).map heldOp).getD false && flatB ops n r (listed.setIfInBounds i true)
  | (i, false) :: r, listed => decide (i < n) && decide ((Region.ready .any ops listed) = [i]) && flatB ops n r (listed.setIfInBounds i true)

theorem oper_wp_then {o : Oper} {a : Act} {w : World} {next : Act → World → Prop} {K : Act → World → Prop} (h : o.wp P a w next (Exit.then K Q)) : o.wp P a w next Q := by
  unfold Oper.wp Oper.upon at *
  split at h <;> first
    | exact h
    | (refine Calls.mono h fun e w' he => ?_
       cases e <;> exact he)

theorem oper_then_wp {o : Oper} {a : Act} {w : World} {next : Act → World → Prop} {K : Act → World → Prop} (h : o.wp P a w next Q) : o.wp P a w next (Exit.then K Q) := by
  unfold Oper.wp Oper.upon at *
  split at h <;> first
    | exact h
    | (refine Calls.mono h fun e w' he => ?_
       cases e <;> exact he)

theorem wpOp_of_list {i : Nat} {o : Oper} {a : Act} {w : World} {K : Act → World → Prop} (hi : ops[i]? = some o) (h : wpList P ops (Exit.then K Q) [o] a w) : wpOp P ops Q i K a w := by
  unfold wpOp
  simp only [hi]
  unfold wpList at h
  split
  · rename_i hw
    rw [if_pos hw] at h
    rcases h with h | h
    · exact .inl (oper_wp_then (K := K) h)
    · exact .inr h
  · rename_i hw
    rw [if_neg hw] at h
    exact h

theorem wpHL_quiet {i : Nat} {o : Oper} {rest : List Oper} {f : Nat} {listed : Array Bool} {a : Act} {w : World} {Q' : Act → Prop} (hi : ops[i]? = some o) (hin : i < n) (hsel : ∀ (j : Nat) (o : Oper) cs b, ops[j]? = some o → o.op ≠ .select cs b)
    (hQ : ∀ c a d v w, Q (.panic c) (a.put d v) w → Q (.panic c) a w) (hr : i ∈ Region.ready .any ops listed) (hf : Region.free .any ops listed i = true) (hh : heldOp o = true) (hS : S w)
    (h : wpQuiet P ops S Q' (o :: rest) a) (hk : ∀ a', wpQuiet P ops S Q' rest a' → wpHL P ops Q S n L f (listed.setIfInBounds i true) a' w) : wpHL P ops Q S n L (f + 1) listed a w := by
  unfold wpQuiet at h
  by_cases hw : Region.wanted o (yielded ops a.tmps) = true
  · rw [if_pos hw] at h
    obtain ⟨v, hy, hv⟩ := yieldsIf_of_quiet hh hw h
    exact wpHL_first hi hin hsel hQ f listed a w (Region.free_spec hi hf) hr hy hS (hk _ hv)
  · rw [if_neg hw] at h
    exact wpHL_first hi hin hsel hQ f listed a w (Region.free_spec hi hf) hr (.inr ⟨by simpa using hw, rfl⟩) hS (hk _ h)

theorem wpHL_of_segs {L' : Act → World → Prop} (hsel : ∀ (j : Nat) (o : Oper) cs b, ops[j]? = some o → o.op ≠ .select cs b) (hQ : ∀ c a d v w, Q (.panic c) (a.put d v) w → Q (.panic c) a w) :
    ∀ (l : List Seg) (listed : Array Bool) (a : Act) (w : World), flatB ops n (flat l) listed = true → wpSegs P ops Q S L' l a w → wpHL P ops Q S n (fun _ => L') (flat l).length listed a w
  | [], listed, a, w, hB, h => ⟨fun j hj => by
      have := List.all_eq_true.1 hB j hj
      simpa using this, h⟩
  | .e i :: r, listed, a, w, hB, h => by
    simp only [flat, flatB, Bool.and_eq_true, decide_eq_true_eq] at hB
    obtain ⟨⟨hin, hr⟩, hB'⟩ := hB
    have hmem : i ∈ Region.ready .any ops listed := by rw [hr]; simp
    obtain ⟨_, o, ho, _⟩ := mem_ready.1 hmem
    refine ⟨⟨i, hmem⟩, fun j hj _ => ?_⟩
    rw [hr] at hj
    obtain rfl : j = i := by simpa using hj
    have h' : wpList P ops (Exit.then (fun a' w' => S w' ∧ wpSegs P ops Q S L' r a' w') Q) [o] a w := by
      have : [j].filterMap (ops[·]?) = [o] := by simp [ho]
      rw [← this]; exact h
    refine wpOp_mono (fun a' w' h3 => ⟨h3.1, ?_⟩) (wpOp_of_list ho h')
    exact wpHL_of_segs hsel hQ r _ a' w' hB' h3.2
  | .q [] :: r, listed, a, w, hB, h => wpHL_of_segs hsel hQ r listed a w hB h.2
  | .q (i :: l) :: r, listed, a, w, hB, h => by
    simp only [flat, List.map_cons, List.cons_append, flatB, Bool.and_eq_true, decide_eq_true_eq] at hB
    obtain ⟨⟨⟨⟨hin, hr⟩, hf⟩, hh⟩, hB'⟩ := hB
    have hmem : i ∈ Region.ready .any ops listed := by simpa using hr
    obtain ⟨_, o, ho, _⟩ := mem_ready.1 hmem
    have hh' : heldOp o = true := by simpa [ho] using hh
    have h2 : wpQuiet P ops S (fun a' => wpSegs P ops Q S L' r a' w) (o :: l.filterMap (ops[·]?)) a := by
      have := h.2
      rw [List.filterMap_cons, ho] at this
      exact this
    exact wpHL_quiet ho hin hsel hQ hmem hf hh' h.1 h2 fun a' h3 => wpHL_of_segs hsel hQ (.q l :: r) _ a' w hB' ⟨h.1, h3⟩

def headDone (m n : Nat) : Array Bool := ((List.range m).map fun i => decide (i < n)).toArray

theorem un_zero {l : Array Bool} : ∀ {k}, un l k = 0 → ∀ i, i < k → l.getD i true = true
  | 0, _, i, hi => by omega
  | k + 1, h, i, hi => by
    rw [un] at h
    by_cases e : i = k
    · subst e
      cases e2 : l.getD i true with
      | true => rfl
      | false => rw [e2] at h; simp at h
    · exact un_zero (k := k) (by omega) i (by omega)

theorem listed_eq {listed : Array Bool} (inv : HeadInv .any ops n listed) (hu : un listed n = 0) : listed = headDone ops.size n := by
  apply Array.ext
  · simp [headDone, inv.size]
  · intro i h1 h2
    have hs := inv.size
    rw [show (headDone ops.size n)[i] = decide (i < n) from by simp [headDone]]
    by_cases e : i < n
    · have := un_zero hu i e
      simp [h1] at this
      simp [this, e]
    · have := inv.tail i (by omega) (by omega)
      simp [h1] at this
      simp [this, e]

/-- the checks of an order that is named: the head has n operations, the tail (if there is one) waits for all of them -/
def segsOk (ops : Array Oper) (n : Nat) (l : List Seg) : Bool :=
  Region.noSelect ops && (decide (n = ops.size) || (Region.sinkB .any ops n && Region.chainB .any ops n && decide (n < ops.size))) && decide ((flat l).length = n) && flatB ops n (flat l) (Array.replicate ops.size false) &&
    Region.seqB .any ops (ops.size - n) n (headDone ops.size n)

/-- ONE WALK FOR EVERY ORDER of a region: the segments that are named, and then the tail -/
theorem wp_region_segs {id : Nat} {a : Act} {w : World} {l : List Oper} (n : Nat) (segs : List Seg) (S : World → Prop) (hm : P.follows .mixedOrders = true) (hB : segsOk l.toArray n segs = true) (hQ : ∀ c a d v w, Q (.panic c) (a.put d v) w → Q (.panic c) a w)
    (h : wpSegs P l.toArray Q S (fun a' w' => wpList P l.toArray Q (l.drop n) a' w') segs a w.drew) : (Code.region id l.toArray true).wp P Q a w := by
  simp only [segsOk, Bool.and_eq_true, Bool.or_eq_true, decide_eq_true_eq] at hB
  obtain ⟨⟨⟨⟨hsel, hn⟩, hlen⟩, hfl⟩, hseq⟩ := hB
  have hle : n ≤ l.toArray.size := by rcases hn with h | h <;> omega
  have inv0 : HeadInv .any l.toArray n (Array.replicate l.toArray.size false) :=
    ⟨by simp, fun j oj _ hl => (by rw [getD_replicate_false] at hl; cases hl), fun t _ ht => getD_in (by simpa using ht) (getD_replicate_false _ _)⟩
  refine wp_region_any hm ?_
  have H := wpHL_of_segs (n := n) (Region.noSelect_spec hsel) hQ segs (Array.replicate l.toArray.size false) a w.drew hfl h
  rw [hlen] at H
  have := wpAny_of_HL (g := l.toArray.size - n) (by rcases hn with h | ⟨⟨h1, h2⟩, h3⟩; exact .inl h; exact .inr ⟨h1, h2, h3⟩) (fun listed a' w' inv hu _ hL => by
    rw [listed_eq inv hu]
    have hl : (l.drop n).length = l.toArray.size - n := by simp
    have := wpAny_of_seq (md := .any) (Q' := Q) (l.drop n) n (headDone l.toArray.size n) a' w' (fun j => by simp [List.getElem?_drop]) (by rw [hl]; exact hseq) hL
    rwa [hl] at this) n _ a w.drew inv0 (un_none _ _ hle) H
  rw [show n + (l.toArray.size - n) = l.toArray.size from by omega] at this
  exact this
end

/-! ### loads of one cell -/
theorem below_cell {W w' : World} {p : Addr} {v : Value} (hS : Below W.heap.size W w') (h : W.cell? p = some v) : w'.cell? p = some v := (hS.cell (World.block_lt_of_cell? W _ h)).trans h

/-- a type whose values have one cell -/
def scalarTy (P : Program) (ty : TypeId) : Bool :=
  match P.underlying ty with
  | some (.struct _) | some (.array _ _) => false
  | some _ => true
  | none => false

theorem run_load1 {P : Program} {w : World} {ty : TypeId} {a : Addr} {v : Value} (hty : scalarTy P ty = true) (h : w.cell? a = some v) : (loadVar ty a).run P w = .ok v w := by
  unfold scalarTy at hty
  cases hu : P.underlying ty with
  | none => rw [hu] at hty; cases hty
  | some d =>
    have hagg : (isAgg ty).run P w = .ok false w := by
      unfold isAgg
      rw [Sem.run_bind, run_underlying hu w]
      cases d <;> first | rfl | (rw [hu] at hty; cases hty)
    simp only [loadVar, Sem.run_bind, hagg, Result.andThen_ok]
    simp [load, Sem.run, h]

section
variable {P : Program} {ops : Array Oper} {C : World → Prop} {Q : Act → Prop} {rest : List Oper} {a : Act} {dst : Option Tmp} {p : Operand} {lt ty : TypeId} {pos : String} {af : Array Edge} {g : Option (Nat × Bool)} {b o : Nat} {v : Value}

theorem op_load1 (ev : Operand → Value) {w : World} (hp : ev p = .pointer (some ⟨b, o, none⟩)) (hty : scalarTy P lt = true) (h : w.cell? ⟨b, o, none⟩ = some v) :
    (execOp ev ⟨dst, .load lt p, ty, pos, af, g⟩).run P w = .ok (.value v) w := by
  simp only [execOp, hp, Instr.loadAt, Instr.sureAddr, Sem.run_bind, Sem.run_pure, Result.andThen_ok, run_load1 hty h]

theorem wq_load1 (hw : Region.wanted ⟨dst, .load lt p, ty, pos, af, g⟩ (yielded ops a.tmps) = true) (hp : a.eval p = .pointer (some ⟨b, o, none⟩)) (hty : scalarTy P lt = true)
    (h : ∀ w, C w → w.cell? ⟨b, o, none⟩ = some v) (hk : wpQuiet P ops C Q rest (a.put dst v)) : wpQuiet P ops C Q (⟨dst, .load lt p, ty, pos, af, g⟩ :: rest) a :=
  wq_of hw (fun w hC => op_load1 _ hp hty (h w hC)) hk
theorem wq_loadB {W : World} (hw : Region.wanted ⟨dst, .load lt p, ty, pos, af, g⟩ (yielded ops a.tmps) = true) (hp : a.eval p = .pointer (some ⟨b, o, none⟩)) (hty : scalarTy P lt = true)
    (h : W.cell? ⟨b, o, none⟩ = some v) (hk : wpQuiet P ops (fun w' => Below W.heap.size W w') Q rest (a.put dst v)) : wpQuiet P ops (fun w' => Below W.heap.size W w') Q (⟨dst, .load lt p, ty, pos, af, g⟩ :: rest) a :=
  wq_load1 hw hp hty (fun _ hC => below_cell hC h) hk
end

/-! ### the same order, its operations written out -/
inductive SegO where
  | q (l : List Oper)
  | e (o : Oper)
def cat : List SegO → List Oper
  | [] => []
  | .q l :: r => l ++ cat r
  | .e o :: r => o :: cat r
def idx : Nat → List SegO → List Seg
  | _, [] => []
  | k, .q l :: r => .q (List.range' k l.length) :: idx (k + l.length) r
  | k, .e _ :: r => .e k :: idx (k + 1) r
section
variable {P : Program} {Q : Exit → Act → World → Prop} {S : World → Prop}
def wpCuts (P : Program) (ops : Array Oper) (Q : Exit → Act → World → Prop) (S : World → Prop) (L : Act → World → Prop) : List SegO → Act → World → Prop
  | [], a, w => L a w
  | .q l :: r, a, w => S w ∧ wpQuiet P ops S (fun a' => wpCuts P ops Q S L r a' w) l a
  | .e o :: r, a, w => wpList P ops (Exit.then (fun a' w' => S w' ∧ wpCuts P ops Q S L r a' w') Q) [o] a w

theorem fm_range (pre mid post : List Oper) : (List.range' pre.length mid.length).filterMap ((pre ++ (mid ++ post)).toArray[·]?) = mid := by
  induction mid generalizing pre with
  | nil => rfl
  | cons o mid ih =>
    have h := ih (pre ++ [o])
    rw [List.length_append, List.length_singleton, List.append_assoc, List.singleton_append] at h
    rw [List.length_cons, List.range'_succ, List.filterMap_cons]
    have e : ((pre ++ (o :: mid ++ post)).toArray[pre.length]?) = some o := by simp
    rw [e]
    exact congrArg (o :: ·) h

theorem wpQuiet_mono {ops : Array Oper} {C : World → Prop} {Q Q' : Act → Prop} (hQ : ∀ a, Q a → Q' a) : ∀ (l : List Oper) (a : Act), wpQuiet P ops C Q l a → wpQuiet P ops C Q' l a
  | [], a, h => hQ a h
  | o :: r, a, h => by
    unfold wpQuiet at h ⊢
    split
    · rename_i hw
      rw [if_pos hw] at h
      obtain ⟨v, hv, hk⟩ := h
      exact ⟨v, hv, wpQuiet_mono hQ r _ hk⟩
    · rename_i hw
      rw [if_neg hw] at h
      exact wpQuiet_mono hQ r _ h

theorem wpList_one {ops : Array Oper} {K K' : Act → World → Prop} (hK : ∀ a w, K a w → K' a w) {o : Oper} {a : Act} {w : World} (h : wpList P ops (Exit.then K Q) [o] a w) : wpList P ops (Exit.then K' Q) [o] a w := by
  unfold wpList at h ⊢
  split
  · rename_i hw
    rw [if_pos hw] at h
    rcases h with h | h
    · refine .inl ?_
      have h1 : o.wp P a w K' (Exit.then K Q) := Oper.wp_mono (K := K) hK h
      have h2 : o.wp P a w K' Q := oper_wp_then (K := K) h1
      exact oper_then_wp h2
    · exact .inr h
  · rename_i hw
    rw [if_neg hw] at h
    exact hK _ _ h

theorem wpSegs_of_cuts {L : Act → World → Prop} (l tail : List Oper) : ∀ (segs : List SegO) (pre : List Oper) (a : Act) (w : World), pre ++ (cat segs ++ tail) = l → wpCuts P l.toArray Q S L segs a w → wpSegs P l.toArray Q S L (idx pre.length segs) a w
  | [], _, _, _, _, h => h
  | .e o :: r, pre, a, w, hl, h => by
    have e : [pre.length].filterMap (l.toArray[·]?) = [o] := by rw [← hl]; simp [cat]
    unfold wpSegs idx
    simp only [e]
    unfold wpCuts at h
    refine wpList_one (fun a' w' h' => ⟨h'.1, ?_⟩) h
    have := wpSegs_of_cuts l tail r (pre ++ [o]) a' w' (by rw [← hl]; simp [cat]) h'.2
    simpa using this
  | .q m :: r, pre, a, w, hl, h => by
    have e : (List.range' pre.length m.length).filterMap (l.toArray[·]?) = m := by
      have := fm_range pre m (cat r ++ tail)
      rw [← hl]
      simpa [cat] using this
    unfold wpSegs idx
    simp only [e]
    unfold wpCuts at h
    refine ⟨h.1, wpQuiet_mono (fun a' h' => ?_) _ _ h.2⟩
    have := wpSegs_of_cuts l tail r (pre ++ m) a' w (by rw [← hl]; simp [cat]) h'
    simpa using this

/-- ONE WALK FOR EVERY ORDER of a region: the segments' operations, and then the tail's -/
theorem wp_region_cuts {id : Nat} {a : Act} {w : World} {l : List Oper} (segs : List SegO) (tail : List Oper) (hl : cat segs ++ tail = l) (S : World → Prop) (hm : P.follows .mixedOrders = true) (hB : segsOk l.toArray (cat segs).length (idx 0 segs) = true)
    (hQ : ∀ c a d v w, Q (.panic c) (a.put d v) w → Q (.panic c) a w) (h : wpCuts P l.toArray Q S (fun a' w' => wpList P l.toArray Q tail a' w') segs a w.drew) : (Code.region id l.toArray true).wp P Q a w := by
  refine wp_region_segs (cat segs).length (idx 0 segs) S hm hB hQ ?_
  have e : l.drop (cat segs).length = tail := by rw [← hl]; simp
  rw [e]
  exact wpSegs_of_cuts l tail segs [] a w.drew (by simpa using hl) h
theorem cut_q {ops : Array Oper} {L : Act → World → Prop} {l : List Oper} {r : List SegO} {a : Act} {w : World} (hS : S w) (h : wpQuiet P ops S (fun a' => wpCuts P ops Q S L r a' w) l a) : wpCuts P ops Q S L (.q l :: r) a w := ⟨hS, h⟩
theorem cut_e {ops : Array Oper} {L : Act → World → Prop} {o : Oper} {r : List SegO} {a : Act} {w : World} (h : wpList P ops (Exit.then (fun a' w' => S w' ∧ wpCuts P ops Q S L r a' w') Q) [o] a w) : wpCuts P ops Q S L (.e o :: r) a w := h
theorem cut_end {ops : Array Oper} {L : Act → World → Prop} {a : Act} {w : World} (h : L a w) : wpCuts P ops Q S L [] a w := h
end

end Go.Proofs.Ytjfaihpiohccbaa
