/- Walks by data and names, part 11: Contracts for functions that turn the caller's own: told of a state of their own names, and called with any. Contracts for functions that turn the caller's own, 2: the caller's state behind the call. -/
import Derived.Test.YtjfaihpiohccbaaPk10
namespace Go.Proofs.Ytjfaihpiohccbaa
open Go.RowKit

/-- called with these values, while this log is true, function f ends so; names below m stay what they are -/
def VMB (P : Program) (f : FuncId) (B m : Nat) (vs : List V) (st : List E) (nb : Nat) (K : RC → List E → Nat → Prop) : Prop :=
  (∀ args w, (callFunc f args).run P w = .ok (.enter f args) w) ∧ ∀ (g : G) (w : World) (us : List Value), SimS B g w st → Inv B nb g w → vreps B g w vs us →
    Calls P f us.toArray w fun e w' => ∃ g' st' nb' r, Ext False m g w g' w' ∧ SimS B g' w' st' ∧ Inv B nb' g' w' ∧ vcrel B g' w' r e ∧ K r st' nb' ∧ m ≤ nb'
def VM (P : Program) (f : FuncId) (m : Nat) (vs : List V) (st : List E) (nb : Nat) (K : RC → List E → Nat → Prop) : Prop := ∀ B, VMB P f B m vs st nb K
theorem VMB.mono {P : Program} {f : FuncId} {B m : Nat} {vs : List V} {st : List E} {nb : Nat} {K K' : RC → List E → Nat → Prop} (h : VMB P f B m vs st nb K) (hq : ∀ r s n, K r s n → K' r s n) : VMB P f B m vs st nb K' :=
  ⟨h.1, fun g w us h1 h2 h3 => (h.2 g w us h1 h2 h3).mono fun _ _ ⟨g', s', n', r, k1, k2, k3, k4, k5, k6⟩ => ⟨g', s', n', r, k1, k2, k3, k4, hq _ _ _ k5, k6⟩⟩
theorem VM.mono {P : Program} {f : FuncId} {m : Nat} {vs : List V} {st : List E} {nb : Nat} {K K' : RC → List E → Nat → Prop} (h : VM P f m vs st nb K) (hq : ∀ r s n, K r s n → K' r s n) : VM P f m vs st nb K' := fun B => (h B).mono hq

/-! ### names -/
abbrev Rho := List (Nat × Option Nat)
/-- the caller's own, as the function sees it -/
def G.loc (g : G) (m : Nat) (ρ : Rho) : G :=
  ⟨fun b => g.own b ∧ ∀ i p, ρ[i]? = some p → (i < m → g.bx p.1 ≠ some b) ∧ g.rb p.1 ≠ some b,
   fun i => if i < m then (match ρ[i]? with | some p => g.bx p.1 | none => none) else none,
   fun i => match ρ[i]? with | some p => g.rb p.1 | none => none,
   fun i v => match ρ[i]? with | some (k, some v0) => if v = 0 then g.rw k v0 else none | _ => none, fun _ => False, fun _ h => h.elim⟩
theorem loc_own {g : G} {m : Nat} {ρ : Rho} {b : Nat} : (g.loc m ρ).own b ↔ g.own b := by
  constructor
  · rintro (h | ⟨i, h⟩ | ⟨i, h⟩)
    · exact h.1
    · simp only [G.loc] at h
      split at h
      · split at h
        · exact .inr (.inl ⟨_, h⟩)
        · cases h
      · cases h
    · simp only [G.loc] at h
      split at h
      · exact .inr (.inr ⟨_, h⟩)
      · cases h
  · intro h
    by_cases hx : ∀ i p, ρ[i]? = some p → (i < m → g.bx p.1 ≠ some b) ∧ g.rb p.1 ≠ some b
    · exact .inl ⟨h, hx⟩
    · obtain ⟨i, hx⟩ := Classical.not_forall.1 hx
      obtain ⟨p, hx⟩ := Classical.not_forall.1 hx
      have hp : ρ[i]? = some p := Classical.byContradiction fun hn => hx fun h => (hn h).elim
      by_cases h1 : g.rb p.1 = some b
      · exact .inr (.inr ⟨i, by simp only [G.loc, hp]; exact h1⟩)
      · have : i < m ∧ g.bx p.1 = some b := Classical.byContradiction fun hn => hx fun _ => ⟨fun hi e => hn ⟨hi, e⟩, h1⟩
        exact .inr (.inl ⟨i, by simp only [G.loc, hp, this.1, if_true]; exact this.2⟩)
theorem loc_prot {g : G} {m : Nat} {ρ : Rho} : (g.loc m ρ).prot = g.prot := by
  funext b
  simp only [G.prot, loc_own]

/-- what the function is told of a value -/
def VLe (m : Nat) (ρ : Rho) (st : List E) (vl vc : V) : Prop := ∀ B g w u, SimS B g w st → vrep B g w vc u → vrep B (g.loc m ρ) w vl u
def VLes (m : Nat) (ρ : Rho) (st : List E) (vl vc : List V) : Prop := ∀ B g w u, SimS B g w st → vreps B g w vc u → vreps B (g.loc m ρ) w vl u
section
variable {m : Nat} {ρ : Rho} {st : List E}
theorem vle_nil : VLes m ρ st [] [] := fun _ _ _ _ _ h => by simpa only [vreps] using h
theorem vle_cons {x y : V} {xs ys : List V} (h : VLe m ρ st x y) (hs : VLes m ρ st xs ys) : VLes m ρ st (x :: xs) (y :: ys) := fun B g w u k h2 => by
  simp only [vreps] at h2 ⊢
  obtain ⟨z, zs, e, k1, k2⟩ := h2
  exact ⟨z, zs, e, h _ _ _ _ k k1, hs _ _ _ _ k k2⟩
theorem vle_d {x y : D} {v : V} (h : argD st v = some y) (hd : DL y x) : VLe m ρ st (.d x) v := fun B g w u k hu => by
  have := argD_rep k h hu
  simp only [vrep, loc_prot]
  exact hd.le _ _ _ _ _ this
theorem vle_any {v : V} : VLe m ρ st (.d .any) v := fun B g w u _ _ => by simp only [vrep, drep]
theorem vle_dd {x : D} : VLe m ρ st (.d x) (.d x) := fun B g w u _ hu => by simp only [vrep, loc_prot] at hu ⊢; exact hu
theorem vle_ptr {i k off : Nat} (hi : Nat.blt i m = true) (h : (ρ[i]?).map (·.1) = some k) : VLe m ρ st (.ptr i off) (.ptr k off) := fun B g w u _ hu => by
  obtain ⟨p, hp, rfl⟩ := Option.map_eq_some_iff.1 h
  simp only [vrep] at hu ⊢
  obtain ⟨b, hb, e⟩ := hu
  exact ⟨b, by simp only [G.loc, hp]; rw [if_pos (blt_lt hi)]; exact hb, e⟩
theorem vle_row {i k v : Nat} (h : ρ[i]? = some (k, some v)) : VLe m ρ st (.row i 0) (.row k v) := fun B g w u _ hu => by
  simp only [vrep] at hu ⊢
  exact ⟨by simp only [G.loc, h]; exact hu.1, hu.2⟩
theorem vle_agg {xs ys : List V} (h : VLes m ρ st xs ys) : VLe m ρ st (.agg xs) (.agg ys) := fun B g w u k hu => by
  simp only [vrep] at hu ⊢
  obtain ⟨cs, e, hu⟩ := hu
  exact ⟨cs, e, h _ _ _ _ k hu⟩
theorem vle_ifc {t : TypeId} {x y : V} (h : VLe m ρ st x y) : VLe m ρ st (.ifc t x) (.ifc t y) := fun B g w u k hu => by
  simp only [vrep] at hu ⊢
  obtain ⟨cs, e, hu⟩ := hu
  exact ⟨cs, e, h _ _ _ _ k hu⟩
theorem vle_fn {f : Fn} {xs ys xs' ys' : List V} (h : VLes m ρ st xs ys) (h' : VLes m ρ st xs' ys') : VLe m ρ st (.fn f xs xs') (.fn f ys ys') := fun B g w u k hu => by
  simp only [vrep] at hu ⊢
  obtain ⟨a, b, e, k1, k2⟩ := hu
  exact ⟨a, b, e, h _ _ _ _ k k1, h' _ _ _ _ k k2⟩
theorem VLes.get {xs ys : List V} (h : VLes m ρ st xs ys) {B : Nat} {g : G} {w : World} (k : SimS B g w st) {us : List Value} (hu : vreps B g w ys us) : vreps B (g.loc m ρ) w xs us := h _ _ _ _ k hu
end

/-- the log that the function is told of is true of the caller's -/
def EntOk (m : Nat) (ρ : Rho) (st : List E) : List E → Prop
  | [] => True
  | .c i off vs :: r => (∃ k vs', Nat.blt i m = true ∧ (ρ[i]?).map (·.1) = some k ∧ cellsAt k off st vs.length = some vs' ∧ VLes m ρ st vs vs') ∧ EntOk m ρ st r
  | .r o nw i ver e sz l :: r => (ver = 0 ∧ ∃ k v, ρ[i]? = some (k, some v) ∧ rowAt k st = some (o, nw, v, e, sz, l)) ∧ EntOk m ρ st r
  | .y _ _ _ _ :: _ => False

section
variable {m B nb : Nat} {ρ : Rho} {st : List E} {g : G} {w : World}
theorem entOk_cell (hs : SimS B g w st) : ∀ {st0 : List E}, EntOk m ρ st st0 → ∀ {i off : Nat} {v : V}, cellAt i off st0 = some v → ∃ b rcs ty u, (g.loc m ρ).bx i = some b ∧ w.heap[b]? = some (.cells rcs ty (0, 0)) ∧ rcs[off]? = some u ∧ vrep B (g.loc m ρ) w v u
  | [], _, i, off, v, h => by simp [cellAt] at h
  | .c i' o' vs :: r, he, i, off, v, h => by
    simp only [cellAt] at h
    split at h
    · rename_i hi
      have := Nat.eq_of_beq_eq_true hi
      subst this
      split at h
      · rename_i ho
        have ho := Nat.le_of_ble_eq_true ho
        split at h
        · rename_i v' hv
          cases h
          obtain ⟨⟨k, vs', hm, hk, hc, hle⟩, _⟩ := he
          obtain ⟨p, hp, rfl⟩ := Option.map_eq_some_iff.1 hk
          have hlen := (List.getElem?_eq_some_iff.1 hv).1
          have hlen2 := cellsAt_len hc
          obtain ⟨y, hy⟩ : ∃ y, vs'[off - o']? = some y := ⟨_, List.getElem?_eq_getElem (by omega)⟩
          have h1 := cellsAt_get hc hy
          rw [show o' + (off - o') = off by omega] at h1
          obtain ⟨b, rcs, ty, u, m1, m2, m3, m4⟩ := hs.cell h1
          have hb : ∃ us, vreps B g w vs' us ∧ us[off - o']? = some u := by
            obtain ⟨us, q1, q2⟩ := cellsAt_rep hs m1 hc
            obtain ⟨z, hz, hz2⟩ := vreps_get q1 hy
            refine ⟨us, q1, ?_⟩
            obtain ⟨b', o2, e, _, e3⟩ := q2 _ _ hz
            cases e
            have : w.cell? ⟨b, o' + (off - o'), none⟩ = some u := by
              rw [show o' + (off - o') = off by omega, cell_of_row w b off rcs ty (0, 0) m2]; exact m3
            rw [this] at e3; cases e3
            exact hz
          obtain ⟨us, q1, q2⟩ := hb
          obtain ⟨z, hz, hz2⟩ := vreps_get (hle.get hs q1) hv
          rw [q2] at hz; cases hz
          exact ⟨b, rcs, ty, u, by simp only [G.loc, hp]; rw [if_pos (blt_lt hm)]; exact m1, m2, m3, hz2⟩
        · exact entOk_cell hs he.2 h
      · exact entOk_cell hs he.2 h
    · exact entOk_cell hs he.2 h
  | .r .. :: r, he, i, off, v, h => by
    simp only [cellAt] at h
    exact entOk_cell hs he.2 h
theorem entOk_loop : ∀ {st0 : List E}, EntOk m ρ st st0 → ∀ {i : Nat} {r}, loopAt i st0 = some r → False
  | [], _, i, r, h => by simp [loopAt] at h
  | .c .. :: _, he, i, r, h => by simp only [loopAt] at h; exact entOk_loop he.2 h
  | .r .. :: _, he, i, r, h => by simp only [loopAt] at h; exact entOk_loop he.2 h
theorem entOk_row : ∀ {st0 : List E}, EntOk m ρ st st0 → ∀ {i : Nat} {o nw ver e sz l}, rowAt i st0 = some (o, nw, ver, e, sz, l) → ver = 0 ∧ ∃ k v, ρ[i]? = some (k, some v) ∧ rowAt k st = some (o, nw, v, e, sz, l)
  | [], _, i, o, nw, ver, e, sz, l, h => by simp [rowAt] at h
  | .c .. :: r, he, i, o, nw, ver, e, sz, l, h => by
    simp only [rowAt] at h
    exact entOk_row he.2 h
  | .r .. :: r, he, i, o, nw, ver, e, sz, l, h => by
    simp only [rowAt] at h
    split at h
    · rename_i hb
      have := Nat.eq_of_beq_eq_true hb
      subst this
      cases h
      exact he.1
    · exact entOk_row he.2 h

def rhoOk (ρ : Rho) : Bool := decide (ρ.map (·.1)).Nodup
theorem rho_inj (h : rhoOk ρ = true) {i j : Nat} {p q : Nat × Option Nat} (hi : ρ[i]? = some p) (hj : ρ[j]? = some q) (e : p.1 = q.1) : i = j := by
  have hn : (ρ.map (·.1)).Nodup := by simpa [rhoOk] using h
  have h1 : (ρ.map (·.1))[i]? = some p.1 := by simp [hi]
  have h2 : (ρ.map (·.1))[j]? = some q.1 := by simp [hj]
  exact (List.getElem?_inj (List.getElem?_eq_some_iff.1 h1).1 hn).1 (by rw [h1, h2, e])

theorem loc_inv (h : Inv B nb g w) (hρ : rhoOk ρ = true) (_ : m ≤ ρ.length) : Inv B ρ.length (g.loc m ρ) w := by
  have bxd : ∀ {i b}, (g.loc m ρ).bx i = some b → ∃ p, ρ[i]? = some p ∧ i < m ∧ g.bx p.1 = some b := fun {i b} h => by
    simp only [G.loc] at h
    split at h
    · rename_i hi
      split at h
      · rename_i p hp; exact ⟨p, hp, hi, h⟩
      · cases h
    · cases h
  have rbd : ∀ {i b}, (g.loc m ρ).rb i = some b → ∃ p, ρ[i]? = some p ∧ g.rb p.1 = some b := fun {i b} h => by
    simp only [G.loc] at h
    split at h
    · rename_i p hp; exact ⟨p, hp, h⟩
    · cases h
  refine ⟨fun {i b} hb => ?_, fun {i b} hb => ?_, fun {i j v} hb => ?_, fun {i j b} h1 h2 => ?_, fun {i j b} h1 h2 => ?_, fun {i j b} h1 h2 => ?_, fun {b} hb => ?_, fun {i b} hb he => ?_, fun {i b} hb he => ?_, fun h => h.elim, h.base⟩
  · obtain ⟨p, hp, hi, k⟩ := bxd hb; exact ⟨(h.bxlt k).1, (List.getElem?_eq_some_iff.1 hp).1⟩
  · obtain ⟨p, hp, k⟩ := rbd hb; exact ⟨(h.rblt k).1, (List.getElem?_eq_some_iff.1 hp).1⟩
  · simp only [G.loc] at hb
    split at hb
    · rename_i hp; exact (List.getElem?_eq_some_iff.1 hp).1
    · cases hb
  · obtain ⟨p, hp, _, k⟩ := bxd h1; obtain ⟨q, hq, _, k'⟩ := bxd h2; exact rho_inj hρ hp hq (h.bxinj k k')
  · obtain ⟨p, hp, k⟩ := rbd h1; obtain ⟨q, hq, k'⟩ := rbd h2; exact rho_inj hρ hp hq (h.rbinj k k')
  · obtain ⟨p, hp, _, k⟩ := bxd h1; obtain ⟨q, hq, k'⟩ := rbd h2; exact h.apart k k'
  · rcases hb.1 with k | ⟨_, k⟩ | ⟨_, k⟩
    · exact h.exlt k
    · exact (h.bxlt k).1
    · exact (h.rblt k).1
  · obtain ⟨p, hp, hi, k⟩ := bxd hb; exact (he.2 i p hp).1 hi k
  · obtain ⟨p, hp, k⟩ := rbd hb; exact (he.2 i p hp).2 k
theorem loc_sim (hs : SimS B g w st) {st0 : List E} (he : EntOk m ρ st st0) : SimS B (g.loc m ρ) w st0 := by
  refine ⟨fun {i off v} hc => entOk_cell hs he hc, fun {i o nw ver e sz l} hr => ?_, fun hl => (entOk_loop he hl).elim⟩
  obtain ⟨rfl, k, v, hp, hr⟩ := entOk_row he hr
  obtain ⟨u, xs, r1, r2, r3, r4, r5⟩ := hs.row hr
  refine ⟨u, xs, by simp only [G.loc, hp]; exact r1, by rw [loc_prot]; exact r2, ⟨r3.1, r3.2.1, fun j x hx => ?_⟩, r4, ?_⟩
  · simp only [G.loc, hp] at hx
    split at hx
    · omega
    · cases hx
  · rcases r5 with ⟨e1, e2, e3⟩ | ⟨e1, e2, e3⟩
    · exact .inl ⟨e1, e2, by simp only [G.loc, hp]; exact e3⟩
    · exact .inr ⟨e1, by simp only [G.loc, hp]; exact e2, by rw [loc_prot]; exact e3⟩
end

/-! ### and back -/
def mapN (m nb : Nat) (ρ : Rho) (i : Nat) : Option Nat := match Nat.blt i m with
  | true => (match ρ[i]? with | some p => some p.1 | none => none)
  | false => some (nb + (i - m))
def mapR (m nb : Nat) (ρ : Rho) (i ver : Nat) : Option (Nat × Nat) := match Nat.blt i m with
  | true => (match ρ[i]? with | some (k, some v) => some (k, v + ver) | _ => none)
  | false => some (nb + (i - m), ver)
mutual
def mapV (m nb : Nat) (ρ : Rho) : V → Option V
  | .d x => some (.d x)
  | .po _ _ => none
  | .ep l => some (.ep l)
  | .agg l => match mapVs m nb ρ l with
    | some r => some (.agg r)
    | none => none
  | .tup l => match mapVs m nb ρ l with
    | some r => some (.tup r)
    | none => none
  | .ptr i off => match mapN m nb ρ i with
    | some k => some (.ptr k off)
    | none => none
  | .sv i off n cap sz => match mapN m nb ρ i with
    | some k => some (.sv k off n cap sz)
    | none => none
  | .yl i => match mapN m nb ρ i with
    | some k => some (.yl k)
    | none => none
  | .rv i ver n => match mapR m nb ρ i ver with
    | some p => some (.rv p.1 p.2 n)
    | none => none
  | .row i ver => match mapR m nb ρ i ver with
    | some p => some (.row p.1 p.2)
    | none => none
  | .rp i ver sz a b => match mapR m nb ρ i ver with
    | some p => some (.rp p.1 p.2 sz a b)
    | none => none
  | .fn f fi ca => match mapVs m nb ρ fi with
    | some r => (match mapVs m nb ρ ca with
      | some q => some (.fn f r q)
      | none => none)
    | none => none
  | .ifc t x => match mapV m nb ρ x with
    | some r => some (.ifc t r)
    | none => none
def mapVs (m nb : Nat) (ρ : Rho) : List V → Option (List V)
  | [] => some []
  | x :: xs => match mapV m nb ρ x with
    | some y => (match mapVs m nb ρ xs with
      | some ys => some (y :: ys)
      | none => none)
    | none => none
end
/-- the function's log in the caller's names, ahead of what of the caller's log it was not told -/
def purgeE (ks : List Nat) : List E → Option (List E)
  | [] => some []
  | .y k lp T tm :: r => (match purgeE ks r with
    | some q => (match memB k ks with
      | true => some q
      | false => some (.y k lp T tm :: q))
    | none => none)
  | .c k off vs :: r => (match purgeE ks r with
    | some q => (match memB k ks with
      | true => some q
      | false => some (.c k off vs :: q))
    | none => none)
  | .r o nw k ver e sz l :: r => (match purgeE ks r with
    | some q => (match memB k ks with
      | true => some q
      | false => some (.r o nw k ver e sz l :: q))
    | none => none)
def mapEs (m nb : Nat) (ρ : Rho) (tail : List E) : List E → Option (List E)
  | [] => some tail
  | .y _ _ _ _ :: r => mapEs m nb ρ tail r
  | .c i off vs :: r => (match mapEs m nb ρ tail r with
    | some q => (match mapN m nb ρ i with
      | some k => (match mapVs m nb ρ vs with
        | some us => some (.c k off us :: q)
        | none => none)
      | none => none)
    | none => none)
  | .r o nw i ver e sz l :: r => (match mapEs m nb ρ tail r with
    | some q => (match mapR m nb ρ i ver with
      | some p => some (.r o nw p.1 p.2 e sz l :: q)
      | none => none)
    | none => none)

section
variable {m B nb nb1 : Nat} {ρ : Rho} {st : List E} {g g1 : G} {w w' : World}
theorem purge_cell {ks : List Nat} : ∀ {st r : List E}, purgeE ks st = some r → ∀ {k off : Nat} {v : V}, cellAt k off r = some v → k ∉ ks ∧ cellAt k off st = some v
  | [], r, h, k, off, v, hc => by simp only [purgeE, Option.some.injEq] at h; subst h; simp [cellAt] at hc
  | .c k' o' vs :: st, r, h, k, off, v, hc => by
    simp only [purgeE] at h
    split at h
    · rename_i q hq
      split at h
      · rename_i hm
        cases h
        obtain ⟨h1, h2⟩ := purge_cell hq hc
        refine ⟨h1, ?_⟩
        simp only [cellAt]
        split
        · rename_i hb
          have := Nat.eq_of_beq_eq_true hb
          subst this
          exact (h1 (memB_iff.1 hm)).elim
        · exact h2
      · rename_i hm
        cases h
        simp only [cellAt] at hc ⊢
        split at hc
        · rename_i hb
          have := Nat.eq_of_beq_eq_true hb
          subst this
          have hk : k ∉ ks := fun hk => by rw [memB_iff.2 hk] at hm; cases hm
          refine ⟨hk, ?_⟩
          split at hc
          · split at hc
            · exact hc
            · exact (purge_cell hq hc).2
          · exact (purge_cell hq hc).2
        · exact purge_cell hq hc
    · cases h
  | .r o nw k' ver e sz l :: st, r, h, k, off, v, hc => by
    simp only [purgeE] at h
    simp only [cellAt]
    split at h
    · rename_i q hq
      split at h
      · cases h; exact purge_cell hq hc
      · cases h; simp only [cellAt] at hc; exact purge_cell hq hc
    · cases h
  | .y k' lp T tm :: st, r, h, k, off, v, hc => by
    simp only [purgeE] at h
    simp only [cellAt]
    split at h
    · rename_i q hq
      split at h
      · cases h; exact purge_cell hq hc
      · cases h; simp only [cellAt] at hc; exact purge_cell hq hc
    · cases h
theorem purge_loop {ks : List Nat} : ∀ {st r : List E}, purgeE ks st = some r → ∀ {k : Nat} {lp}, loopAt k r = some lp → k ∉ ks ∧ loopAt k st = some lp
  | [], r, h, k, lp, hc => by simp only [purgeE, Option.some.injEq] at h; subst h; simp [loopAt] at hc
  | .r .. :: st, r, h, k, lp, hc => by
    simp only [purgeE] at h
    simp only [loopAt]
    split at h
    · rename_i q hq
      split at h
      · cases h; exact purge_loop hq hc
      · cases h; simp only [loopAt] at hc; exact purge_loop hq hc
    · cases h
  | .c .. :: st, r, h, k, lp, hc => by
    simp only [purgeE] at h
    simp only [loopAt]
    split at h
    · rename_i q hq
      split at h
      · cases h; exact purge_loop hq hc
      · cases h; simp only [loopAt] at hc; exact purge_loop hq hc
    · cases h
  | .y k' lp' T' tm' :: st, r, h, k, lp, hc => by
    simp only [purgeE] at h
    split at h
    · rename_i q hq
      split at h
      · rename_i hm
        cases h
        obtain ⟨h1, h2⟩ := purge_loop hq hc
        refine ⟨h1, ?_⟩
        simp only [loopAt]
        split
        · rename_i hb
          have := Nat.eq_of_beq_eq_true hb
          subst this
          exact (h1 (memB_iff.1 hm)).elim
        · exact h2
      · rename_i hm
        cases h
        simp only [loopAt] at hc ⊢
        split at hc
        · rename_i hb
          have := Nat.eq_of_beq_eq_true hb
          subst this
          have hk : k ∉ ks := fun hk => by rw [memB_iff.2 hk] at hm; cases hm
          exact ⟨hk, hc⟩
        · exact purge_loop hq hc
    · cases h
theorem purge_row {ks : List Nat} : ∀ {st r : List E}, purgeE ks st = some r → ∀ {k : Nat} {x}, rowAt k r = some x → k ∉ ks ∧ rowAt k st = some x
  | [], r, h, k, x, hc => by simp only [purgeE, Option.some.injEq] at h; subst h; simp [rowAt] at hc
  | .r o nw k' ver e sz l :: st, r, h, k, x, hc => by
    simp only [purgeE] at h
    split at h
    · rename_i q hq
      split at h
      · rename_i hm
        cases h
        obtain ⟨h1, h2⟩ := purge_row hq hc
        refine ⟨h1, ?_⟩
        simp only [rowAt]
        split
        · rename_i hb
          have := Nat.eq_of_beq_eq_true hb
          subst this
          exact (h1 (memB_iff.1 hm)).elim
        · exact h2
      · rename_i hm
        cases h
        simp only [rowAt] at hc ⊢
        split at hc
        · rename_i hb
          have := Nat.eq_of_beq_eq_true hb
          subst this
          have hk : k ∉ ks := fun hk => by rw [memB_iff.2 hk] at hm; cases hm
          exact ⟨hk, hc⟩
        · exact purge_row hq hc
    · cases h
  | .c k' o' vs :: st, r, h, k, x, hc => by
    simp only [purgeE] at h
    simp only [rowAt]
    split at h
    · rename_i q hq
      split at h
      · cases h; exact purge_row hq hc
      · cases h; simp only [rowAt] at hc; exact purge_row hq hc
    · cases h
  | .y k' lp T tm :: st, r, h, k, x, hc => by
    simp only [purgeE] at h
    simp only [rowAt]
    split at h
    · rename_i q hq
      split at h
      · cases h; exact purge_row hq hc
      · cases h; simp only [rowAt] at hc; exact purge_row hq hc
    · cases h
theorem mapVs_get : ∀ {l r : List V}, mapVs m nb ρ l = some r → r.length = l.length ∧ ∀ {i : Nat} {y : V}, r[i]? = some y → ∃ x, l[i]? = some x ∧ mapV m nb ρ x = some y
  | [], r, h => by simp only [mapVs, Option.some.injEq] at h; subst h; simp
  | x :: xs, r, h => by
    simp only [mapVs] at h
    split at h
    · rename_i y hy
      split at h
      · rename_i ys hys
        cases h
        obtain ⟨h1, h2⟩ := mapVs_get hys
        refine ⟨by simp [h1], fun {i z} hz => ?_⟩
        cases i with
        | zero => simp only [List.getElem?_cons_zero, Option.some.injEq] at hz ⊢; subst hz; exact ⟨x, rfl, hy⟩
        | succ i => simp only [List.getElem?_cons_succ] at hz ⊢; exact h2 hz
      · cases h
    · cases h
/-- the names of the image, and whence they come -/
theorem mapN_inj (hρ : rhoOk ρ = true) (hlt : ∀ (i : Nat) (p : Nat × Option Nat), ρ[i]? = some p → p.1 < nb) {i j k : Nat} (hi : mapN m nb ρ i = some k) (hj : mapN m nb ρ j = some k) : i = j := by
  unfold mapN at hi hj
  split at hi <;> split at hj
  · split at hi
    · rename_i p hp
      split at hj
      · rename_i q hq; simp only [Option.some.injEq] at hi hj; exact rho_inj hρ hp hq (by rw [hi, hj])
      · cases hj
    · cases hi
  · split at hi
    · rename_i p hp; cases hi; have := hlt _ _ hp; simp only [Option.some.injEq] at hj; omega
    · cases hi
  · split at hj
    · rename_i p hp; cases hj; have := hlt _ _ hp; simp only [Option.some.injEq] at hi; omega
    · cases hj
  · rename_i h1 _ h2
    have g1 : ¬ i < m := fun h => by rw [show Nat.blt i m = true from Nat.ble_eq_true_of_le h] at h1; cases h1
    have g2 : ¬ j < m := fun h => by rw [show Nat.blt j m = true from Nat.ble_eq_true_of_le h] at h2; cases h2
    simp only [Option.some.injEq] at hi hj; omega
theorem mapR_N {i ver : Nat} {p : Nat × Nat} (h : mapR m nb ρ i ver = some p) : mapN m nb ρ i = some p.1 := by
  unfold mapR at h
  unfold mapN
  split at h
  · split at h
    · rename_i hp; cases h; simp [hp]
    · cases h
  · cases h; rfl
theorem mapEs_cell (hρ : rhoOk ρ = true) (hlt : ∀ (i : Nat) (p : Nat × Option Nat), ρ[i]? = some p → p.1 < nb) {tail : List E} : ∀ {st1 r : List E}, mapEs m nb ρ tail st1 = some r → ∀ {k off : Nat} {v : V}, cellAt k off r = some v →
    (∃ i v1, mapN m nb ρ i = some k ∧ cellAt i off st1 = some v1 ∧ mapV m nb ρ v1 = some v) ∨ cellAt k off tail = some v
  | [], r, h, k, off, v, hc => by simp only [mapEs, Option.some.injEq] at h; subst h; exact .inr hc
  | .c i o' vs :: st1, r, h, k, off, v, hc => by
    simp only [mapEs] at h
    split at h
    · rename_i q hq
      split at h
      · rename_i k' hk'
        split at h
        · rename_i us hus
          cases h
          have hrec : cellAt k off q = some v → (∀ v1, cellAt i off (.c i o' vs :: st1) = some v1 → k = k' → cellAt i off st1 = some v1) → (∃ i' v1, mapN m nb ρ i' = some k ∧ cellAt i' off (.c i o' vs :: st1) = some v1 ∧ mapV m nb ρ v1 = some v) ∨ cellAt k off tail = some v := fun hc hsk => by
            rcases mapEs_cell hρ hlt hq hc with ⟨i', v1, e1, e2, e3⟩ | h
            · refine .inl ⟨i', v1, e1, ?_, e3⟩
              simp only [cellAt]
              split
              · rename_i hb
                have := Nat.eq_of_beq_eq_true hb
                subst this
                rw [hk'] at e1; cases e1
                split
                · split
                  · rename_i x hx
                    have hz := hsk x (by simp only [cellAt, Nat.beq_refl]; rename_i ho hx; simp [ho, hx]) rfl
                    rw [hz] at e2; exact e2
                  · exact e2
                · exact e2
              · exact e2
            · exact .inr h
          simp only [cellAt] at hc
          split at hc
          · rename_i hb
            have := Nat.eq_of_beq_eq_true hb
            subst this
            split at hc
            · rename_i ho
              split at hc
              · rename_i y hy
                cases hc
                obtain ⟨x, hx, hm⟩ := (mapVs_get hus).2 hy
                exact .inl ⟨i, x, hk', by simp only [cellAt, Nat.beq_refl, ho, hx], hm⟩
              · rename_i hy
                refine hrec hc fun v1 h1 _ => ?_
                have : vs[off - o']? = none := by
                  rw [List.getElem?_eq_none_iff] at hy ⊢
                  rw [(mapVs_get hus).1] at hy; exact hy
                simp only [cellAt, Nat.beq_refl, ho, this] at h1; exact h1
            · rename_i ho
              exact hrec hc fun v1 h1 _ => by simp only [cellAt, Nat.beq_refl, ho] at h1; exact h1
          · rename_i hb
            exact hrec hc fun v1 _ e => by subst e; rw [Nat.beq_refl] at hb; cases hb
        · cases h
      · cases h
    · cases h
  | .r .. :: st1, r, h, k, off, v, hc => by
    simp only [mapEs] at h
    split at h
    · rename_i q hq
      split at h
      · cases h
        simp only [cellAt] at hc ⊢
        exact mapEs_cell hρ hlt hq hc
      · cases h
    · cases h
  | .y .. :: st1, r, h, k, off, v, hc => by
    simp only [mapEs] at h
    simp only [cellAt]
    exact mapEs_cell hρ hlt h hc
theorem mapEs_loop {tail : List E} : ∀ {st1 r : List E}, mapEs m nb ρ tail st1 = some r → ∀ {k : Nat} {lp}, loopAt k r = some lp → loopAt k tail = some lp
  | [], r, h, k, lp, hc => by simp only [mapEs, Option.some.injEq] at h; subst h; exact hc
  | .r .. :: st1, r, h, k, lp, hc => by
    simp only [mapEs] at h
    split at h
    · rename_i q hq
      split at h
      · cases h; simp only [loopAt] at hc; exact mapEs_loop hq hc
      · cases h
    · cases h
  | .c .. :: st1, r, h, k, lp, hc => by
    simp only [mapEs] at h
    split at h
    · rename_i q hq
      split at h
      · split at h
        · cases h; simp only [loopAt] at hc; exact mapEs_loop hq hc
        · cases h
      · cases h
    · cases h
  | .y .. :: st1, r, h, k, lp, hc => by
    simp only [mapEs] at h
    exact mapEs_loop h hc
theorem mapEs_row (hρ : rhoOk ρ = true) (hlt : ∀ (i : Nat) (p : Nat × Option Nat), ρ[i]? = some p → p.1 < nb) {tail : List E} : ∀ {st1 r : List E}, mapEs m nb ρ tail st1 = some r → ∀ {k : Nat} {o nw ver e sz l}, rowAt k r = some (o, nw, ver, e, sz, l) →
    (∃ i v1, mapR m nb ρ i v1 = some (k, ver) ∧ rowAt i st1 = some (o, nw, v1, e, sz, l)) ∨ rowAt k tail = some (o, nw, ver, e, sz, l)
  | [], r, h, k, o, nw, ver, e, sz, l, hc => by simp only [mapEs, Option.some.injEq] at h; subst h; exact .inr hc
  | .r o' nw' i ver' e' sz' l' :: st1, r, h, k, o, nw, ver, e, sz, l, hc => by
    simp only [mapEs] at h
    split at h
    · rename_i q hq
      split at h
      · rename_i p hp
        cases h
        simp only [rowAt] at hc
        split at hc
        · rename_i hb
          have := Nat.eq_of_beq_eq_true hb
          subst this
          cases hc
          exact .inl ⟨i, ver', hp, by simp only [rowAt, Nat.beq_refl]⟩
        · rename_i hb
          rcases mapEs_row hρ hlt hq hc with ⟨i', v1, e1, e2⟩ | h
          · refine .inl ⟨i', v1, e1, ?_⟩
            simp only [rowAt]
            split
            · rename_i hb2
              have := Nat.eq_of_beq_eq_true hb2
              subst this
              have h1 := mapR_N hp
              have h2 := mapR_N e1
              rw [h1] at h2
              simp only [Option.some.injEq] at h2
              rw [← h2, Nat.beq_refl] at hb; cases hb
            · exact e2
          · exact .inr h
      · cases h
    · cases h
  | .y .. :: st1, r, h, k, o, nw, ver, e, sz, l, hc => by
    simp only [mapEs] at h
    simp only [rowAt]
    exact mapEs_row hρ hlt h hc
  | .c .. :: st1, r, h, k, o, nw, ver, e, sz, l, hc => by
    simp only [mapEs] at h
    split at h
    · rename_i q hq
      split at h
      · split at h
        · cases h
          simp only [rowAt] at hc ⊢
          exact mapEs_row hρ hlt hq hc
        · cases h
      · cases h
    · cases h
end

end Go.Proofs.Ytjfaihpiohccbaa

namespace Go.Proofs.Ytjfaihpiohccbaa
open Go.RowKit

open Classical in
/-- the function's name for the caller's k, if that stays -/
noncomputable def pickN (m : Nat) (ρ : Rho) (k : Nat) : Option (Nat × Option Nat) := if h : ∃ q : Nat × Option Nat, q.1 < m ∧ ρ[q.1]? = some (k, q.2) then some h.choose else none
theorem pickN_of {m : Nat} {ρ : Rho} (hρ : rhoOk ρ = true) {i k : Nat} {v : Option Nat} (hi : i < m) (h : ρ[i]? = some (k, v)) : pickN m ρ k = some (i, v) := by
  have hx : ∃ q : Nat × Option Nat, q.1 < m ∧ ρ[q.1]? = some (k, q.2) := ⟨(i, v), hi, h⟩
  unfold pickN
  rw [dif_pos hx]
  have hc := hx.choose_spec
  have e : hx.choose.1 = i := rho_inj hρ hc.2 h rfl
  have h2 := hc.2
  rw [e, h] at h2
  simp only [Option.some.injEq, Prod.mk.injEq, true_and] at h2
  exact congrArg some (Prod.ext e h2.symm)
theorem pickN_spec {m : Nat} {ρ : Rho} {k : Nat} {q : Nat × Option Nat} (h : pickN m ρ k = some q) : q.1 < m ∧ ρ[q.1]? = some (k, q.2) := by
  unfold pickN at h
  split at h
  · rename_i hx; cases h; exact hx.choose_spec
  · cases h
def namesR (ρ : Rho) : List Nat := ρ.map (·.1)
open Classical in
/-- the caller's own behind the call -/
noncomputable def G.back (g g1 : G) (m nb : Nat) (ρ : Rho) : G :=
  ⟨g.ex,
   fun k => if k < nb then (match g.bx k with | some b => some b | none => match pickN m ρ k with | some q => g1.bx q.1 | none => none) else g1.bx (k - nb + m),
   fun k => if k < nb then (match pickN m ρ k with | some q => g1.rb q.1 | none => if k ∈ namesR ρ then none else g.rb k) else g1.rb (k - nb + m),
   fun k ver => if k < nb then (match g.rw k ver with | some u => some u | none => match pickN m ρ k with | some (i, some v) => if v ≤ ver then g1.rw i (ver - v) else none | _ => none) else g1.rw (k - nb + m) ver,
   g.pl, g.plex⟩

/-- what is known at the call, and behind it -/
structure VmC (B m nb nb1 : Nat) (ρ : Rho) (st : List E) (g g1 : G) (w w' : World) : Prop where
  rho : rhoOk ρ = true
  lt : ∀ (i : Nat) (p : Nat × Option Nat), ρ[i]? = some p → p.1 < nb
  sim : SimS B g w st
  inv : Inv B nb g w
  ver : ∀ (i k v : Nat), ρ[i]? = some (k, some v) → ∀ j u, g.rw k j = some u → j ≤ v
  ext : Ext False m (g.loc m ρ) w g1 w'
  inv1 : Inv B nb1 g1 w'
  le : m ≤ nb1

section
variable {B m nb nb1 : Nat} {ρ : Rho} {st : List E} {g g1 : G} {w w' : World}
theorem blt_iff {i m : Nat} : Nat.blt i m = true ↔ i < m := ⟨fun h => blt_lt h, fun h => Nat.ble_eq_true_of_le h⟩
theorem mapN_cases {i k : Nat} (h : mapN m nb ρ i = some k) : (i < m ∧ ∃ v, ρ[i]? = some (k, v)) ∨ (m ≤ i ∧ k = nb + (i - m)) := by
  unfold mapN at h
  split at h
  · rename_i hb
    split at h
    · rename_i p hp; simp only [Option.some.injEq] at h; subst h; exact .inl ⟨blt_iff.1 hb, p.2, hp⟩
    · cases h
  · rename_i hb
    simp only [Option.some.injEq] at h
    exact .inr ⟨Nat.le_of_not_lt fun hlt => (by rw [blt_iff.2 hlt] at hb; cases hb), h.symm⟩
theorem mapN_ge {i : Nat} (h : m ≤ i) : mapN m nb ρ i = some (nb + (i - m)) := by
  unfold mapN
  rw [show Nat.blt i m = false from by
    cases hb : Nat.blt i m
    · rfl
    · have := blt_iff.1 hb; omega]
theorem mapN_lt {i k : Nat} {v : Option Nat} (h : i < m) (hp : ρ[i]? = some (k, v)) : mapN m nb ρ i = some k := by
  unfold mapN
  rw [blt_iff.2 h]
  simp only [hp]

namespace VmC
variable (h : VmC B m nb nb1 ρ st g g1 w w')
include h
theorem bx1 {i k b : Nat} (hk : mapN m nb ρ i = some k) (hb : g1.bx i = some b) : (g.back g1 m nb ρ).bx k = some b := by
  rcases mapN_cases hk with ⟨hi, v, hp⟩ | ⟨hi, rfl⟩
  · have hlt := h.lt _ _ hp
    simp only at hlt
    simp only [G.back, if_pos hlt]
    split
    · rename_i b0 hb0
      have : (g.loc m ρ).bx i = some b0 := by simp only [G.loc, hp]; rw [if_pos hi]; exact hb0
      rw [h.ext.bx hi this] at hb
      exact hb
    · rw [pickN_of h.rho hi hp]; exact hb
  · simp only [G.back]
    rw [if_neg (by omega), show nb + (i - m) - nb + m = i by omega]; exact hb
theorem rb1 {i k : Nat} (hk : mapN m nb ρ i = some k) : (g.back g1 m nb ρ).rb k = g1.rb i := by
  rcases mapN_cases hk with ⟨hi, v, hp⟩ | ⟨hi, rfl⟩
  · have hlt := h.lt _ _ hp
    simp only at hlt
    simp only [G.back, if_pos hlt]
    rw [pickN_of h.rho hi hp]
  · simp only [G.back]
    rw [if_neg (by omega), show nb + (i - m) - nb + m = i by omega]
theorem rw1 {i ver : Nat} {p : Nat × Nat} {u : Value} (hk : mapR m nb ρ i ver = some p) (hb : g1.rw i ver = some u) : (g.back g1 m nb ρ).rw p.1 p.2 = some u := by
  unfold mapR at hk
  split at hk
  · rename_i hi
    have hi := blt_iff.1 hi
    split at hk
    · rename_i k v hp
      cases hk
      have hlt := h.lt _ _ hp
      simp only at hlt
      simp only [G.back, if_pos hlt]
      split
      · rename_i u0 hu0
        have hv := h.ver _ _ _ hp _ _ hu0
        have : ver = 0 := by omega
        subst this
        have : (g.loc m ρ).rw i 0 = some u0 := by simp only [G.loc, hp]; exact hu0
        rw [h.ext.rw hi this] at hb
        exact hb
      · rw [pickN_of h.rho hi hp]
        simp only
        rw [if_pos (by omega), show v + ver - v = ver by omega]; exact hb
    · cases hk
  · rename_i hi
    have hi : m ≤ i := Nat.le_of_not_lt fun hlt => by rw [blt_iff.2 hlt] at hi; cases hi
    cases hk
    simp only [G.back]
    rw [if_neg (by omega), show nb + (i - m) - nb + m = i by omega]; exact hb
/-- blocks of the caller's that the function was not told of -/
theorem exo {b : Nat} (ho : g.own b) (hx : ∀ i p, ρ[i]? = some p → (i < m → g.bx p.1 ≠ some b) ∧ g.rb p.1 ≠ some b) : g1.ex b := by
  exact h.ext.ex _ ⟨ho, hx⟩
theorem exe {b : Nat} (he : g.ex b) : g1.ex b := h.exo (.inl he) fun _ _ _ => ⟨fun _ hb => h.inv.exbx hb he, fun hb => h.inv.exrb hb he⟩
theorem bxc {k b : Nat} (hb : (g.back g1 m nb ρ).bx k = some b) : (k < nb ∧ g.bx k = some b ∧ g1.ex b) ∨ ∃ i, mapN m nb ρ i = some k ∧ g1.bx i = some b := by
  simp only [G.back] at hb
  split at hb
  · rename_i hk
    split at hb
    · rename_i b0 hb0
      cases hb
      by_cases hx : ∃ i v, i < m ∧ ρ[i]? = some (k, v)
      · obtain ⟨i, v, hi, hp⟩ := hx
        have : (g.loc m ρ).bx i = some b := by simp only [G.loc, hp]; rw [if_pos hi]; exact hb0
        exact .inr ⟨i, mapN_lt hi hp, h.ext.bx hi this⟩
      · refine .inl ⟨hk, hb0, h.exo (.inr (.inl ⟨k, hb0⟩)) fun i p hp => ⟨fun hi e => hx ⟨i, p.2, hi, ?_⟩, fun e => h.inv.apart hb0 e⟩⟩
        have := h.inv.bxinj hb0 e
        subst this; exact hp
    · split at hb
      · rename_i q hq
        obtain ⟨h1, h2⟩ := pickN_spec hq
        exact .inr ⟨q.1, mapN_lt h1 h2, hb⟩
      · cases hb
  · rename_i hk
    exact .inr ⟨k - nb + m, by rw [mapN_ge (by omega)]; congr 1; omega, hb⟩
theorem rbc {k b : Nat} (hb : (g.back g1 m nb ρ).rb k = some b) : (k < nb ∧ g.rb k = some b ∧ g1.ex b) ∨ ∃ i, mapN m nb ρ i = some k ∧ g1.rb i = some b := by
  simp only [G.back] at hb
  split at hb
  · rename_i hk
    split at hb
    · rename_i q hq
      obtain ⟨h1, h2⟩ := pickN_spec hq
      exact .inr ⟨q.1, mapN_lt h1 h2, hb⟩
    · split at hb
      · cases hb
      · rename_i hn
        refine .inl ⟨hk, hb, h.exo (.inr (.inr ⟨k, hb⟩)) fun i p hp => ⟨fun _ e => h.inv.apart e hb, fun e => hn ?_⟩⟩
        have := h.inv.rbinj hb e
        subst this
        exact List.mem_map.2 ⟨p, List.mem_of_getElem? hp, rfl⟩
  · rename_i hk
    exact .inr ⟨k - nb + m, by rw [mapN_ge (by omega)]; congr 1; omega, hb⟩
theorem own {b : Nat} (ho : (g.back g1 m nb ρ).own b) : g1.own b := by
  rcases ho with ho | ⟨k, ho⟩ | ⟨k, ho⟩
  · exact .inl (h.exe ho)
  · rcases h.bxc ho with ⟨_, _, k⟩ | ⟨i, _, k⟩
    · exact .inl k
    · exact .inr (.inl ⟨i, k⟩)
  · rcases h.rbc ho with ⟨_, _, k⟩ | ⟨i, _, k⟩
    · exact .inl k
    · exact .inr (.inr ⟨i, k⟩)
theorem prot {b : Nat} (hp : g1.prot b) : (g.back g1 m nb ρ).prot b := fun ho => hp (h.own ho)
theorem evo : Evo B g w (g.back g1 m nb ρ) w' := by
  refine ⟨h.ext.os, h.ext.tape, h.ext.output, h.ext.size, fun {k b} hb => ?_, fun {k i v} hv => ?_, fun b hb hp => ?_, fun _ h => h, fun b hb => ?_, .refl⟩
  · simp only [G.back]
    rw [if_pos (h.inv.bxlt hb).2, hb]
  · simp only [G.back]
    rw [if_pos (h.inv.rwlt hv), hv]
  · have := h.ext.blk b hb (by rw [loc_prot]; exact hp)
    exact ⟨h.prot this.1, this.2⟩
  · exact h.ext.exb b ⟨.inl hb, fun _ _ _ => ⟨fun _ e => h.inv.exbx e hb, fun e => h.inv.exrb e hb⟩⟩
theorem inv2 : Inv B (nb + (nb1 - m)) (g.back g1 m nb ρ) w' := by
  have hle := h.le
  have hsz := h.ext.size
  have nlt : ∀ {i k}, mapN m nb ρ i = some k → i < nb1 → k < nb + (nb1 - m) := fun {i k} hk hi => by
    rcases mapN_cases hk with ⟨_, v, hp⟩ | ⟨_, rfl⟩
    · have := h.lt _ _ hp; simp only at this; omega
    · omega
  refine ⟨fun {k b} hb => ?_, fun {k b} hb => ?_, fun {k i v} hv => ?_, fun {k k' b} h1 h2 => ?_, fun {k k' b} h1 h2 => ?_, fun {k k' b} h1 h2 => ?_, fun {b} hb => by have := h.inv.exlt hb; omega, fun {k b} hb he => ?_, fun {k b} hb he => ?_, h.inv.plB, h.inv1.base⟩
  · rcases h.bxc hb with ⟨hk, hb, _⟩ | ⟨i, hk, hb⟩
    · have := (h.inv.bxlt hb).1; exact ⟨by omega, by omega⟩
    · have := h.inv1.bxlt hb; exact ⟨this.1, nlt hk this.2⟩
  · rcases h.rbc hb with ⟨hk, hb, _⟩ | ⟨i, hk, hb⟩
    · have := (h.inv.rblt hb).1; exact ⟨by omega, by omega⟩
    · have := h.inv1.rblt hb; exact ⟨this.1, nlt hk this.2⟩
  · simp only [G.back] at hv
    split at hv
    · omega
    · have := h.inv1.rwlt hv; omega
  · rcases h.bxc h1 with ⟨_, a1, a2⟩ | ⟨i, a1, a2⟩ <;> rcases h.bxc h2 with ⟨_, c1, c2⟩ | ⟨j, c1, c2⟩
    · exact h.inv.bxinj a1 c1
    · exact (h.inv1.exbx c2 a2).elim
    · exact (h.inv1.exbx a2 c2).elim
    · have := h.inv1.bxinj a2 c2; subst this; rw [a1] at c1; cases c1; rfl
  · rcases h.rbc h1 with ⟨_, a1, a2⟩ | ⟨i, a1, a2⟩ <;> rcases h.rbc h2 with ⟨_, c1, c2⟩ | ⟨j, c1, c2⟩
    · exact h.inv.rbinj a1 c1
    · exact (h.inv1.exrb c2 a2).elim
    · exact (h.inv1.exrb a2 c2).elim
    · have := h.inv1.rbinj a2 c2; subst this; rw [a1] at c1; cases c1; rfl
  · rcases h.bxc h1 with ⟨_, a1, a2⟩ | ⟨i, a1, a2⟩ <;> rcases h.rbc h2 with ⟨_, c1, c2⟩ | ⟨j, c1, c2⟩
    · exact h.inv.apart a1 c1
    · exact h.inv1.exrb c2 a2
    · exact h.inv1.exbx a2 c2
    · exact h.inv1.apart a2 c2
  · rcases h.bxc hb with ⟨_, a1, _⟩ | ⟨i, a1, a2⟩
    · exact h.inv.exbx a1 he
    · exact h.inv1.exbx a2 (h.exe he)
  · rcases h.rbc hb with ⟨_, a1, _⟩ | ⟨i, a1, a2⟩
    · exact h.inv.exrb a1 he
    · exact h.inv1.exrb a2 (h.exe he)
theorem ddp {x : D} {u : Value} (hu : drep B g1.prot w' x u) : drep B (g.back g1 m nb ρ).prot w' x u := drep_mono (Nat.le_refl _) (fun _ _ hb => ⟨h.prot hb, rfl⟩) hu
omit h
mutual
theorem vrepm (h : VmC B m nb nb1 ρ st g g1 w w') : ∀ {v1 v : V}, mapV m nb ρ v1 = some v → ∀ {u : Value}, vrep B g1 w' v1 u → vrep B (g.back g1 m nb ρ) w' v u
  | .d x, v, hv, u, hu => by simp only [mapV, Option.some.injEq] at hv; subst hv; simp only [vrep] at hu ⊢; exact h.ddp hu
  | .ep l, v, hv, u, hu => by
    simp only [mapV, Option.some.injEq] at hv; subst hv; simp only [vrep] at hu ⊢
    obtain ⟨b, o, cs, e, k1, k2⟩ := hu
    exact ⟨b, o, cs, e, k1.imp fun b hb => h.prot hb, dreps_mono (Nat.le_refl _) (fun _ _ hb => ⟨h.prot hb, rfl⟩) k2⟩
  | .agg l, v, hv, u, hu => by
    simp only [mapV] at hv
    split at hv
    · rename_i r hr; cases hv; simp only [vrep] at hu ⊢; obtain ⟨cs, e, k⟩ := hu; exact ⟨cs, e, vrepms h hr k⟩
    · cases hv
  | .tup l, v, hv, u, hu => by
    simp only [mapV] at hv
    split at hv
    · rename_i r hr; cases hv; simp only [vrep] at hu ⊢; obtain ⟨cs, e, k⟩ := hu; exact ⟨cs, e, vrepms h hr k⟩
    · cases hv
  | .ptr i off, v, hv, u, hu => by
    simp only [mapV] at hv
    split at hv
    · rename_i k hk; cases hv; simp only [vrep] at hu ⊢; obtain ⟨b, hb, e⟩ := hu; exact ⟨b, h.bx1 hk hb, e⟩
    · cases hv
  | .sv i off n cap sz, v, hv, u, hu => by
    simp only [mapV] at hv
    split at hv
    · rename_i k hk; cases hv; simp only [vrep] at hu ⊢; obtain ⟨b, hb, e⟩ := hu; exact ⟨b, h.bx1 hk hb, e⟩
    · cases hv
  | .yl i, v, hv, u, hu => by
    simp only [mapV] at hv
    split at hv
    · rename_i k hk; cases hv; simp only [vrep] at hu ⊢; obtain ⟨b, hb, e⟩ := hu; exact ⟨b, h.bx1 hk hb, e⟩
    · cases hv
  | .rv i ver n, v, hv, u, hu => by
    simp only [mapV] at hv
    split at hv
    · rename_i p hp; cases hv; simp only [vrep] at hu ⊢; obtain ⟨a, m, c, e, k⟩ := hu; exact ⟨a, m, c, h.rw1 hp e, k⟩
    · cases hv
  | .row i ver, v, hv, u, hu => by
    simp only [mapV] at hv
    split at hv
    · rename_i p hp; cases hv; simp only [vrep] at hu ⊢; exact ⟨h.rw1 hp hu.1, hu.2⟩
    · cases hv
  | .rp i ver sz x y, v, hv, u, hu => by
    simp only [mapV] at hv
    split at hv
    · rename_i p hp; cases hv; simp only [vrep] at hu ⊢; obtain ⟨b, n, c, e, k⟩ := hu; exact ⟨b, n, c, h.rw1 hp e, k⟩
    · cases hv
  | .fn f fi ca, v, hv, u, hu => by
    simp only [mapV] at hv
    split at hv
    · rename_i r hr
      split at hv
      · rename_i q hq; cases hv; simp only [vrep] at hu ⊢; obtain ⟨xs, ys, e, k1, k2⟩ := hu; exact ⟨xs, ys, e, vrepms h hr k1, vrepms h hq k2⟩
      · cases hv
    · cases hv
  | .ifc t x, v, hv, u, hu => by
    simp only [mapV] at hv
    split at hv
    · rename_i r hr; cases hv; simp only [vrep] at hu ⊢; obtain ⟨y, e, k⟩ := hu; exact ⟨y, e, vrepm h hr k⟩
    · cases hv
theorem vrepms (h : VmC B m nb nb1 ρ st g g1 w w') : ∀ {v1 v : List V}, mapVs m nb ρ v1 = some v → ∀ {u : List Value}, vreps B g1 w' v1 u → vreps B (g.back g1 m nb ρ) w' v u
  | [], v, hv, u, hu => by simp only [mapVs, Option.some.injEq] at hv; subst hv; simp only [vreps] at hu ⊢; exact hu
  | x :: xs, v, hv, u, hu => by
    simp only [mapVs] at hv
    split at hv
    · rename_i y hy
      split at hv
      · rename_i ys hys
        cases hv
        simp only [vreps] at hu ⊢
        obtain ⟨z, zs, e, k1, k2⟩ := hu
        exact ⟨z, zs, e, vrepm h hy k1, vrepms h hys k2⟩
      · cases hv
    · cases hv
end
include h
omit h in
theorem _root_.Go.Proofs.Ytjfaihpiohccbaa.notinR {k : Nat} (hk : k ∉ namesR ρ) : ∀ (i : Nat) (v : Option Nat), ρ[i]? ≠ some (k, v) := fun _ _ hp => hk (List.mem_map.2 ⟨_, List.mem_of_getElem? hp, rfl⟩)
theorem sim2 {st1 tail r : List E} (hs1 : SimS B g1 w' st1) (ht : purgeE (namesR ρ) st = some tail) (hr : mapEs m nb ρ tail st1 = some r) : SimS B (g.back g1 m nb ρ) w' r := by
  refine ⟨fun {k off v} hc => ?_, fun {k o nw ver e sz l} hc => ?_, fun {k lp T tm0} hc => ?_⟩
  · rcases mapEs_cell h.rho h.lt hr hc with ⟨i, v1, e1, e2, e3⟩ | hc
    · obtain ⟨b, rcs, ty, u, m1, m2, m3, m4⟩ := hs1.cell e2
      exact ⟨b, rcs, ty, u, h.bx1 e1 m1, m2, m3, h.vrepm e3 m4⟩
    · obtain ⟨hk, hc⟩ := purge_cell ht hc
      obtain ⟨b, rcs, ty, u, m1, m2, m3, m4⟩ := h.sim.cell hc
      refine ⟨b, rcs, ty, u, h.evo.bx m1, ?_, m3, h.evo.vrep m4⟩
      rw [h.ext.exb b ⟨.inr (.inl ⟨k, m1⟩), fun i p hp => ⟨fun _ e => notinR hk i p.2 (by have := h.inv.bxinj m1 e; subst this; exact hp), fun e => h.inv.apart m1 e⟩⟩]; exact m2
  · rcases mapEs_row h.rho h.lt hr hc with ⟨i, v1, e1, e2⟩ | hc
    · obtain ⟨v, xs, r1, r2, r3, r4, r5⟩ := hs1.row e2
      have hN := mapR_N e1
      have hrb := h.rb1 hN
      have d2 : drepss B (g.back g1 m nb ρ).prot w' l xs := drepss_mono (Nat.le_refl _) (fun _ _ hb => ⟨h.prot hb, rfl⟩) r2
      refine ⟨v, xs, h.rw1 e1 r1, d2, ⟨r3.1, r3.2.1, fun j x hx => ?_⟩, r4, ?_⟩
      · simp only [G.back] at hx
        unfold mapR at e1
        split at e1
        · rename_i hi
          have hi := blt_iff.1 hi
          split at e1
          · rename_i k' v' hp
            cases e1
            rw [if_pos (h.lt _ _ hp)] at hx
            split at hx
            · rename_i hu; have := h.ver _ _ _ hp _ _ hu; omega
            · rw [pickN_of h.rho hi hp] at hx
              simp only at hx
              split at hx
              · have := r3.2.2 _ _ hx; omega
              · cases hx
          · cases e1
        · rename_i hi
          have hi : m ≤ i := Nat.le_of_not_lt fun hlt => by rw [blt_iff.2 hlt] at hi; cases hi
          cases e1
          rw [if_neg (by omega), show nb + (i - m) - nb + m = i by omega] at hx
          exact r3.2.2 _ _ hx
      · rcases r5 with ⟨a1, a2, a3⟩ | ⟨a1, a2, a3⟩
        · exact .inl ⟨a1, a2, hrb.trans a3⟩
        · exact .inr ⟨a1, hrb.trans a2, h.ddp a3⟩
    · obtain ⟨hk, hc⟩ := purge_row ht hc
      obtain ⟨v, xs, r1, r2, r3, r4, r5⟩ := h.sim.row hc
      have hkn : k < nb := h.inv.rwlt r1
      have hpk : pickN m ρ k = none := by
        cases hq : pickN m ρ k with
        | none => rfl
        | some q => exact (notinR hk _ _ (pickN_spec hq).2).elim
      have hrb : (g.back g1 m nb ρ).rb k = g.rb k := by simp only [G.back, if_pos hkn, hpk, if_neg hk]
      refine ⟨v, xs, h.evo.rw r1, h.evo.drepss r2, ⟨r3.1, r3.2.1, fun j x hx => ?_⟩, r4, ?_⟩
      · simp only [G.back, if_pos hkn, hpk] at hx
        split at hx
        · rename_i hu; exact r3.2.2 _ _ hu
        · cases hx
      · rcases r5 with ⟨a1, a2, a3⟩ | ⟨a1, a2, a3⟩
        · refine .inl ⟨a1, ⟨a2.1, ?_⟩, hrb.trans a3⟩
          rcases a2.2 with q | ⟨gb, cap, cur, hv, hb, hh, rest⟩
          · exact .inl q
          · refine .inr ⟨gb, cap, cur, hv, hb, ?_, rest⟩
            have hgb : g.rb k = some gb := by rw [a3, hv]; rfl
            rw [h.ext.exb gb ⟨.inr (.inr ⟨k, hgb⟩), fun i p hp => ⟨fun _ e => h.inv.apart e hgb, fun e => notinR hk i p.2 (by have := h.inv.rbinj hgb e; subst this; exact hp)⟩⟩]; exact hh
        · exact .inr ⟨a1, hrb.trans a2, h.evo.drep a3⟩
  · obtain ⟨hk, hc⟩ := purge_loop ht (mapEs_loop hr hc)
    obtain ⟨h1, h2⟩ := h.sim.loop hc
    refine ⟨fun r e => let ⟨b, m1, m2⟩ := h1 r e; ⟨b, h.evo.bx m1, ?_⟩, fun ht => h.evo.vrep (h2 ht)⟩
    rw [h.ext.exb b ⟨.inr (.inl ⟨k, m1⟩), fun i p hp => ⟨fun _ e => notinR hk i p.2 (by have := h.inv.bxinj m1 e; subst this; exact hp), fun e => h.inv.apart m1 e⟩⟩]; exact m2
end VmC

/-! ### the call -/
def mapRC (m nb : Nat) (ρ : Rho) : RC → Option RC
  | .ret v => match mapV m nb ρ v with
    | some x => some (.ret x)
    | none => none
  | .panic v => match mapV m nb ρ v with
    | some x => some (.panic x)
    | none => none
def rhoIn (nb : Nat) (st : List E) : Rho → Bool
  | [] => true
  | (k, none) :: r => (match Nat.blt k nb with
    | true => rhoIn nb st r
    | false => false)
  | (k, some v) :: r => (match Nat.blt k nb with
    | true => (match rowAt k st with
      | some (_, _, v', _, _, _) => (match Nat.beq v v' with
        | true => rhoIn nb st r
        | false => false)
      | none => false)
    | false => false)
theorem rhoIn_spec (hs : SimS B g w st) : ∀ {ρ : Rho}, rhoIn nb st ρ = true → (∀ (i : Nat) (p : Nat × Option Nat), ρ[i]? = some p → p.1 < nb) ∧ (∀ (i k v : Nat), ρ[i]? = some (k, some v) → ∀ j u, g.rw k j = some u → j ≤ v)
  | [], _ => ⟨fun _ _ h => by simp at h, fun _ _ _ h => by simp at h⟩
  | (k, none) :: r, h => by
    simp only [rhoIn] at h
    split at h
    · rename_i hb
      obtain ⟨h1, h2⟩ := rhoIn_spec hs h
      refine ⟨fun i p hp => ?_, fun i k' v hp => ?_⟩
      · cases i with
        | zero => simp only [List.getElem?_cons_zero, Option.some.injEq] at hp; subst hp; exact blt_iff.1 hb
        | succ i => exact h1 i p (by simpa using hp)
      · cases i with
        | zero => simp at hp
        | succ i => exact h2 i k' v (by simpa using hp)
    · cases h
  | (k, some v0) :: r, h => by
    simp only [rhoIn] at h
    split at h
    · rename_i hb
      split at h
      · rename_i hr
        split at h
        · rename_i hv
          have hv := Nat.eq_of_beq_eq_true hv
          subst hv
          obtain ⟨h1, h2⟩ := rhoIn_spec hs h
          refine ⟨fun i p hp => ?_, fun i k' v hp => ?_⟩
          · cases i with
            | zero => simp only [List.getElem?_cons_zero, Option.some.injEq] at hp; subst hp; exact blt_iff.1 hb
            | succ i => exact h1 i p (by simpa using hp)
          · cases i with
            | zero =>
              simp only [List.getElem?_cons_zero, Option.some.injEq, Prod.mk.injEq] at hp
              obtain ⟨rfl, rfl⟩ := hp
              obtain ⟨_, _, _, _, r3, _⟩ := hs.row hr
              exact fun j u hu => r3.2.2 j u hu
            | succ i => exact h2 i k' v (by simpa using hp)
        · cases h
      · cases h
    · cases h

theorem vl_vm {P : Program} {cx : Cx} {s : St} {Q : VE → St → Prop} {ops rest : List Oper} {t : Tmp} {x : Operand} {xs : Array Operand} {tys : Array TypeId} {ty : TypeId} {pos : String} {af : Array Edge} {gd : Option (Nat × Bool)} {v : V} {f : FuncId} {vs az vs0 : List V} {m : Nat} {st0 : List E} {K : RC → List E → Nat → Prop} (ρ : Rho)
    (hc : VM P f m vs0 st0 ρ.length K) (hx : evalV s x = some v) (hv : evalVs s xs.toList = some vs) (hf : fnV v vs = some (f, az)) (ha : VLes m ρ s.st vs0 az) (he : EntOk m ρ s.st st0) (hρ : rhoOk ρ = true) (hin : rhoIn s.nb s.st ρ = true) (hm : Nat.ble m ρ.length = true) (hw : Wd ops s.tm gd) (ht : Nat.blt t cx.N = true)
    {tail : List E} (htl : purgeE (namesR ρ) s.st = some tail)
    (k : ∀ r st1 nb1, K r st1 nb1 → ∃ st2 r2, mapEs m s.nb ρ tail st1 = some st2 ∧ mapRC m s.nb ρ r = some r2 ∧ contV P cx ops rest t s.tm Q r2 st2 (s.nb + (nb1 - m))) :
    VL P cx ops (⟨some t, .call { callee := .value x, args := xs, argTypes := tys }, ty, pos, af, gd⟩ :: rest) s Q := fun n g0 w0 g a w hE hS => by
  simp only [wplIn]
  rw [if_pos (Wd.wanted (o := ⟨some t, _, ty, pos, af, gd⟩) hS hw)]
  refine ⟨fun _ _ => trivial, ?_⟩
  rw [Oper.semAt_plain (FW cx.rd) _ _ (by intro c e; cases e)]
  obtain ⟨zs, hrun, hzs⟩ := call_run (P := P) (w := w) (dst := some t) (tys := tys) (ty := ty) (pos := pos) (af := af) (gd := gd) (hc 0).1 hS hx hv hf
  rw [hrun, Oper.uponIn_enter]
  refine ⟨(fun h => by cases h), ?_⟩
  obtain ⟨hlt, hver⟩ := rhoIn_spec hS.st hin
  have hcall := (hc cx.B).2 (g.loc m ρ) w zs (loc_sim hS.st he) (loc_inv hS.inv hρ (Nat.le_of_ble_eq_true hm)) (ha.get hS.st hzs)
  have hmem : ∀ (r : Ending → World → Prop), Calls P f zs.toArray w r → CallsIn (FW cx.rd) (n - 1) P f zs.toArray w r := fun r h =>
    ⟨trivial, fun cs _ => by
      obtain ⟨e, w', fr, hr, hcm, hx⟩ := h cs
      refine ⟨e, w', fr, hr, ?_, hx⟩
      have := comesIn_wide.2 hcm
      cases e with
      | returned v => exact StepsIn.mono (fun m _ => fenced_FW P cx.rd m) this
      | panicked ch => exact StepsIn.mono (fun m _ => fenced_FW P cx.rd m) this
      | outgrown => exact this⟩
  refine (hmem _ hcall).mono ?_
  rintro e w' ⟨g1, st1, nb1, r, k1, k2, k3, k4, k5, k6⟩
  have hV : VmC cx.B m s.nb nb1 ρ s.st g g1 w w' := ⟨hρ, hlt, hS.st, hS.inv, hver, k1, k3, k6⟩
  obtain ⟨st2, r2, q1, q2, q3⟩ := k r st1 nb1 k5
  cases r with
  | ret v =>
    obtain ⟨u, rfl, hu⟩ := k4
    simp only [mapRC] at q2
    split at q2
    · rename_i x hx
      cases q2
      exact q3 n g0 w0 _ _ w' (hE.trans hV.evo) (hS.put hV.evo (Nat.le_of_ble_eq_true ht) (hV.sim2 k2 htl q1) hV.inv2 (hV.vrepm hx hu))
    · cases q2
  | panic v =>
    obtain ⟨u, rfl, hu⟩ := k4
    simp only [mapRC] at q2
    split at q2
    · rename_i x hx
      cases q2
      exact ⟨_, _, .panic x, hE.trans hV.evo, hS.same hV.evo (hV.sim2 k2 htl q1) hV.inv2, ⟨u, rfl, hV.vrepm hx hu⟩, q3⟩
    · cases q2

/-- one answer -/
def VM1 (P : Program) (f : FuncId) (m : Nat) (vs : List V) (st : List E) (nb : Nat) (r1 : RC) (st1 : List E) (nb1 : Nat) : Prop := VM P f m vs st nb fun r s n => r = r1 ∧ s = st1 ∧ n = nb1
theorem vs_vm {P : Program} {cx : Cx} {Q : VE → St → Prop} {ops rest : List Oper} {tm : List (Nat × V)} {t : Tmp} {x : Operand} {xs : Array Operand} {tys : Array TypeId} {ty : TypeId} {pos : String} {af : Array Edge} {gd : Option (Nat × Bool)} {v : V} {f : FuncId} {vs az vs0 : List V} {m nb0 nb1 : Nat} {st0 st1 st2 : List E} {r r2 : RC} (ρ : Rho)
    (hc : VM1 P f m vs0 st0 nb0 r st1 nb1) {tail : List E} (k : contV P cx ops rest t tm Q r2 st2 (nb + (nb1 - m)))
    (hn : nb0 = ρ.length := by rfl) (hx : evalV ⟨tm, st, nb⟩ x = some v := by rfl) (hv : evalVs ⟨tm, st, nb⟩ xs.toList = some vs := by rfl) (hf : fnV v vs = some (f, az) := by rfl)
    (ha : VLes m ρ st vs0 az := by repeat' (first | exact vle_nil | refine vle_cons ?_ ?_ | exact vle_any | exact vle_dd | exact vle_ptr rfl rfl | exact vle_row rfl | refine vle_agg ?_ | refine vle_ifc ?_ | refine vle_fn ?_ ?_ | exact vle_d rfl (by infer_instance)))
    (he : EntOk m ρ st st0 := by repeat' (first | exact trivial | refine ⟨⟨rfl, _, _, rfl, rfl⟩, ?_⟩ | refine ⟨⟨_, _, rfl, rfl, rfl, ?_⟩, ?_⟩ | exact vle_nil | refine vle_cons ?_ ?_ | exact vle_any | exact vle_dd | exact vle_ptr rfl rfl | exact vle_row rfl | refine vle_agg ?_ | refine vle_ifc ?_ | refine vle_fn ?_ ?_ | exact vle_d rfl (by infer_instance)))
    (hρ : rhoOk ρ = true := by decide) (hin : rhoIn nb st ρ = true := by rfl) (hm : Nat.ble m ρ.length = true := by rfl) (hw : Wd ops tm gd := by first | exact trivial | exact wd_of rfl rfl (by with_reducible rfl)) (ht : Nat.blt t cx.N = true := by rfl)
    (htl : purgeE (namesR ρ) st = some tail := by rfl) (h2 : mapEs m nb ρ tail st1 = some st2 := by rfl) (h3 : mapRC m nb ρ r = some r2 := by rfl) :
    VL P cx ops (⟨some t, .call { callee := .value x, args := xs, argTypes := tys }, ty, pos, af, gd⟩ :: rest) ⟨tm, st, nb⟩ Q := by
  subst hn
  exact vl_vm ρ hc hx hv hf ha he hρ hin hm hw ht htl fun r' s n ⟨e1, e2, e3⟩ => by subst e1; subst e2; subst e3; exact ⟨st2, r2, h2, h3, k⟩
end

/-! ### from the walk -/
/-- what the walk of a function's body owes -/
def mK (m : Nat) (K : RC → List E → Nat → Prop) : RC → List E → Nat → Prop := fun r s n => K r s n ∧ m ≤ n
theorem vmb_of {P : Program} {f : FuncId} {fn : Func} {c : Code} {B m : Nat} {vs : List V} {st : List E} {nb : Nat} {K : RC → List E → Nat → Prop} (hf : P.funcs[f]? = some fn) (hb : fn.body = some c) {N : Nat} (hN : fn.ntmps = N) {rs : List ResultVar} (hrs0 : fn.results = rs.toArray)
    (h : ∀ M, VW P ⟨N, none, B, m, some M, []⟩ c ⟨argsT 0 vs, st, nb⟩ (retC P rs (mK m K))) (hle : Nat.ble vs.length N = true := by rfl) (hname : (fn.name == "runtime.NumGoroutine") = false := by kernel_rfl) : VMB P f B m vs st nb K := by
  refine ⟨callFunc_run hf hname (by rw [hb]; rfl), ?_⟩
  have hrs : fn.results.toList = rs := by rw [hrs0]
  intro g w us hs hi hus
  rw [← callsIn_wide (n := 0)]
  refine callsIn_of_wp_marks hf hb trivial ?_
  have hS : Sim ⟨N, none, B, m, some w.heap.size, []⟩ g { tmps := us.toArray ++ Array.replicate (fn.ntmps - us.toArray.size) undef, defers := [] } w ⟨argsT 0 vs, st, nb⟩ := by
    rw [hN]
    have := act_args (N := N) (nb := nb) (M := some w.heap.size) (df := []) hus hle hs hi ⟨(fun _ h => by first | (cases h; fail_if_success (focus skip)) | (cases h; exact Nat.le_refl _)), [], [], rfl, by simp, by simp, rfl⟩
    exact ⟨this.size, this.tm, this.st, this.inv, this.defers⟩
  refine wpIn_mono (h w.heap.size 0 g w g _ w (Ext.refl _ _ _ _) hS) ?_
  rintro e a' w' ⟨g', s', e', hE, hS', he, hq⟩
  have hE := hE.strict hi fun h => by cases h; exact Nat.le_refl _
  obtain ⟨_, bs, rr, hds, hnd, hbs0, hrr⟩ := hS'.defers
  have hbs : ∀ b ∈ bs, g'.prot b ∧ w.heap.size ≤ b ∧ w'.heap[b]? = some (.deferred (some [])) := fun b hb => by
    obtain ⟨h1, ⟨m, h2, h3⟩, h4⟩ := hbs0 b hb
    cases h2; exact ⟨h1, h3, h4⟩
  simp only [DfL] at hrr
  rw [hrr, List.append_nil] at hds
  have hown : ∀ {w2}, Left bs w' w2 → ∀ b, g'.own b → w2.heap[b]? = w'.heap[b]? := fun hl b hb => hl.block b fun hm => (hbs b hm).1 hb
  have hleft : ∀ {w2}, Left bs w' w2 → Ext False m g w g' w2 := fun {w2} hl =>
    ⟨hl.os.trans hE.os, hl.tape.trans hE.tape, hl.output.trans hE.output, by rw [hl.size]; exact hE.size, hE.bx, hE.rw, fun b hlt hp => ⟨(hE.blk b hlt hp).1, (hl.block b fun hm => by have := (hbs b hm).2.1; omega).trans (hE.blk b hlt hp).2⟩, hE.ex,
      fun b he _ => (hl.block b fun hm => by have := (hbs b hm).2.1; have := hi.exlt he; omega).trans (hE.exb b he), hE.pl, fun b hp hlt => by rw [hl.block b fun hm => by have := (hbs b hm).2.1; omega]; exact hE.blur b hp hlt⟩
  have hret : (∃ vs, ResV P s' rs vs ∧ (K (.ret (packV vs)) s'.st s'.nb ∧ m ≤ s'.nb)) →
      LeavesInM Fence.wide 0 P fn a'.tmps (fun e w' => ∃ g' st' nb' r, Ext False m g w g' w' ∧ SimS B g' w' st' ∧ Inv B nb' g' w' ∧ vcrel B g' w' r e ∧ K r st' nb' ∧ m ≤ nb') a'.defers .returning w' := by
    rintro ⟨vs, hv, hq, hmn⟩
    rw [hds]
    refine leaves_marks (by simp) bs w' hnd (fun b hb => (hbs b hb).2.2) fun w2 hl => ?_
    have C := left_cells hl fun b hb => (hbs b hb).2.2
    obtain ⟨u, h1, h2⟩ := ResV.all (fn := fn) hS' (hown hl) (by rw [hrs]; exact hv)
    simp only [LeavesIn]
    exact ⟨u, h1, g', s'.st, s'.nb, .ret (packV vs), hleft hl, cells_simS C hS'.st, hS'.inv.evo (by rw [hl.size]; exact Nat.le_refl _), ⟨u, rfl, cells_vrep C h2⟩, hq, hmn⟩
  cases e' with
  | normal => simp only [erel] at he; subst he; exact hret hq
  | ret => simp only [erel] at he; subst he; exact hret hq
  | panic v =>
    obtain ⟨u, rfl, hu⟩ := he
    simp only [bodyPostM]
    rw [hds]
    refine leaves_marks (by simp) bs w' hnd (fun b hb => (hbs b hb).2.2) fun w2 hl => ?_
    have C := left_cells hl fun b hb => (hbs b hb).2.2
    simp only [LeavesIn]
    exact ⟨g', s'.st, s'.nb, .panic v, hleft hl, cells_simS C hS'.st, hS'.inv.evo (by rw [hl.size]; exact Nat.le_refl _), ⟨u, rfl, cells_vrep C hu⟩, hq.1, hq.2⟩
  | exit id => exact hq.elim
  | goto l => exact hq.elim
theorem vm_of {P : Program} {f : FuncId} {fn : Func} {c : Code} {m : Nat} {vs : List V} {st : List E} {nb : Nat} {K : RC → List E → Nat → Prop} (hf : P.funcs[f]? = some fn) (hb : fn.body = some c) {N : Nat} (hN : fn.ntmps = N) {rs : List ResultVar} (hrs0 : fn.results = rs.toArray)
    (h : ∀ B M, VW P ⟨N, none, B, m, some M, []⟩ c ⟨argsT 0 vs, st, nb⟩ (retC P rs (mK m K))) (hle : Nat.ble vs.length N = true := by rfl) (hname : (fn.name == "runtime.NumGoroutine") = false := by kernel_rfl) : VM P f m vs st nb K := fun B => vmb_of hf hb hN hrs0 (h B) hle hname

end Go.Proofs.Ytjfaihpiohccbaa
