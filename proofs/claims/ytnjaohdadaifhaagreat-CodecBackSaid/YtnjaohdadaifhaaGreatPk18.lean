/- Walks by data and names, part 18: Contracts for functions that turn the caller's own: told of a state of their own names, and called with any. -/
import Derived.Test.YtnjaohdadaifhaaGreatPk17
namespace Go.Proofs.YtnjaohdadaifhaaGreat
set_option maxRecDepth 20000
open Go.RowKit
def VMB (P : Program) (f : FuncId) (B m : Nat) (vs : List V) (st : List E) (nb : Nat) (K : RC → List E → Nat → Prop) : Prop :=
  (∀ args w, (callFunc f args).run P w = .ok (.enter f args) w) ∧ ∀ (g : G) (w : World) (us : List Value), SimS B g w st → Inv B nb g w → vreps B g w vs us →
    Calls P f us.toArray w fun e w' => ∃ g' st' nb' r, Ext False m g w g' w' ∧ SimS B g' w' st' ∧ Inv B nb' g' w' ∧ vcrel B g' w' r e ∧ K r st' nb' ∧ m ≤ nb'
def VM (P : Program) (f : FuncId) (m : Nat) (vs : List V) (st : List E) (nb : Nat) (K : RC → List E → Nat → Prop) : Prop := ∀ B, VMB P f B m vs st nb K
theorem VMB.mono {P : Program} {f : FuncId} {B m : Nat} {vs : List V} {st : List E} {nb : Nat} {K K' : RC → List E → Nat → Prop} (h : VMB P f B m vs st nb K) (hq : ∀ r s n, K r s n → K' r s n) : VMB P f B m vs st nb K' :=
  ⟨h.1, fun g w us h1 h2 h3 => (h.2 g w us h1 h2 h3).mono fun _ _ ⟨g', s', n', r, k1, k2, k3, k4, k5, k6⟩ => ⟨g', s', n', r, k1, k2, k3, k4, hq _ _ _ k5, k6⟩⟩
theorem VM.mono {P : Program} {f : FuncId} {m : Nat} {vs : List V} {st : List E} {nb : Nat} {K K' : RC → List E → Nat → Prop} (h : VM P f m vs st nb K) (hq : ∀ r s n, K r s n → K' r s n) : VM P f m vs st nb K' := fun B => (h B).mono hq
abbrev Rho := List (Nat × Option Nat)
def G.loc (g : G) (m : Nat) (ρ : Rho) : G :=
  ⟨fun b => g.own b ∧ ∀ i p, ρ[i]? = some p → (i < m → g.bx p.1 ≠ some b) ∧ g.rb p.1 ≠ some b,
   fun i => if i < m then (match ρ[i]? with | some p => g.bx p.1 | none => none) else none,
   fun i => match ρ[i]? with | some p => g.rb p.1 | none => none,
   fun i v => match ρ[i]? with | some (k, some v0) => if v = 0 then g.rw k v0 else none | _ => none, fun _ => False, fun _ h => h.elim⟩
theorem loc_own {g : G} {m : Nat} {ρ : Rho} {b : Nat} : (g.loc m ρ).own b ↔ g.own b := by
  constructor
  · rintro (h | ⟨i, h⟩ | ⟨i, h⟩)
    · exact h.1
    · simp only [G.loc] at h
      split at h
      · split at h
        · exact .inr (.inl ⟨_, h⟩)
        · cases h
      · cases h
    · simp only [G.loc] at h
      split at h
      · exact .inr (.inr ⟨_, h⟩)
      · cases h
  · intro h
    by_cases hx : ∀ i p, ρ[i]? = some p → (i < m → g.bx p.1 ≠ some b) ∧ g.rb p.1 ≠ some b
    · exact .inl ⟨h, hx⟩
    · obtain ⟨i, hx⟩ := Classical.not_forall.1 hx
      obtain ⟨p, hx⟩ := Classical.not_forall.1 hx
      have hp : ρ[i]? = some p := Classical.byContradiction fun hn => hx fun h => (hn h).elim
      by_cases h1 : g.rb p.1 = some b
      · exact .inr (.inr ⟨i, by simp only [G.loc, hp]; exact h1⟩)
      · have : i < m ∧ g.bx p.1 = some b := Classical.byContradiction fun hn => hx fun _ => ⟨fun hi e => hn ⟨hi, e⟩, h1⟩
        exact .inr (.inl ⟨i, by simp only [G.loc, hp, this.1, if_true]; exact this.2⟩)
theorem loc_prot {g : G} {m : Nat} {ρ : Rho} : (g.loc m ρ).prot = g.prot := by
  funext b
  simp only [G.prot, loc_own]
def VLe (m : Nat) (ρ : Rho) (st : List E) (vl vc : V) : Prop := ∀ B g w u, SimS B g w st → vrep B g w vc u → vrep B (g.loc m ρ) w vl u
def VLes (m : Nat) (ρ : Rho) (st : List E) (vl vc : List V) : Prop := ∀ B g w u, SimS B g w st → vreps B g w vc u → vreps B (g.loc m ρ) w vl u
section
variable {m : Nat} {ρ : Rho} {st : List E}
theorem vle_nil : VLes m ρ st [] [] := fun _ _ _ _ _ h => by simpa only [vreps] using h
theorem vle_cons {x y : V} {xs ys : List V} (h : VLe m ρ st x y) (hs : VLes m ρ st xs ys) : VLes m ρ st (x :: xs) (y :: ys) := fun B g w u k h2 => by
  simp only [vreps] at h2 ⊢
  obtain ⟨z, zs, e, k1, k2⟩ := h2
  exact ⟨z, zs, e, h _ _ _ _ k k1, hs _ _ _ _ k k2⟩
theorem vle_d {x y : D} {v : V} (h : argD st v = some y) (hd : DL y x) : VLe m ρ st (.d x) v := fun B g w u k hu => by
  have := argD_rep k h hu
  simp only [vrep, loc_prot]
  exact hd.le _ _ _ _ _ this
theorem vle_any {v : V} : VLe m ρ st (.d .any) v := fun B g w u _ _ => by simp only [vrep, drep]
theorem vle_dd {x : D} : VLe m ρ st (.d x) (.d x) := fun B g w u _ hu => by simp only [vrep, loc_prot] at hu ⊢; exact hu
theorem vle_ptr {i k off : Nat} (hi : Nat.blt i m = true) (h : (ρ[i]?).map (·.1) = some k) : VLe m ρ st (.ptr i off) (.ptr k off) := fun B g w u _ hu => by
  obtain ⟨p, hp, rfl⟩ := Option.map_eq_some_iff.1 h
  simp only [vrep] at hu ⊢
  obtain ⟨b, hb, e⟩ := hu
  exact ⟨b, by simp only [G.loc, hp]; rw [if_pos (blt_lt hi)]; exact hb, e⟩
theorem vle_row {i k v : Nat} (h : ρ[i]? = some (k, some v)) : VLe m ρ st (.row i 0) (.row k v) := fun B g w u _ hu => by
  simp only [vrep] at hu ⊢
  exact ⟨by simp only [G.loc, h]; exact hu.1, hu.2⟩
theorem vle_agg {xs ys : List V} (h : VLes m ρ st xs ys) : VLe m ρ st (.agg xs) (.agg ys) := fun B g w u k hu => by
  simp only [vrep] at hu ⊢
  obtain ⟨cs, e, hu⟩ := hu
  exact ⟨cs, e, h _ _ _ _ k hu⟩
theorem vle_ifc {t : TypeId} {x y : V} (h : VLe m ρ st x y) : VLe m ρ st (.ifc t x) (.ifc t y) := fun B g w u k hu => by
  simp only [vrep] at hu ⊢
  obtain ⟨cs, e, hu⟩ := hu
  exact ⟨cs, e, h _ _ _ _ k hu⟩
theorem vle_fn {f : Fn} {xs ys xs' ys' : List V} (h : VLes m ρ st xs ys) (h' : VLes m ρ st xs' ys') : VLe m ρ st (.fn f xs xs') (.fn f ys ys') := fun B g w u k hu => by
  simp only [vrep] at hu ⊢
  obtain ⟨a, b, e, k1, k2⟩ := hu
  exact ⟨a, b, e, h _ _ _ _ k k1, h' _ _ _ _ k k2⟩
theorem VLes.get {xs ys : List V} (h : VLes m ρ st xs ys) {B : Nat} {g : G} {w : World} (k : SimS B g w st) {us : List Value} (hu : vreps B g w ys us) : vreps B (g.loc m ρ) w xs us := h _ _ _ _ k hu
end
def EntOk (m : Nat) (ρ : Rho) (st : List E) : List E → Prop
  | [] => True
  | .c i off vs :: r => (∃ k vs', Nat.blt i m = true ∧ (ρ[i]?).map (·.1) = some k ∧ cellsAt k off st vs.length = some vs' ∧ VLes m ρ st vs vs') ∧ EntOk m ρ st r
  | .r o nw i ver e sz l :: r => (ver = 0 ∧ ∃ k v, ρ[i]? = some (k, some v) ∧ rowAt k st = some (o, nw, v, e, sz, l)) ∧ EntOk m ρ st r
  | .y _ _ _ _ :: _ => False
section
variable {m B nb : Nat} {ρ : Rho} {st : List E} {g : G} {w : World}
theorem entOk_cell (hs : SimS B g w st) : ∀ {st0 : List E}, EntOk m ρ st st0 → ∀ {i off : Nat} {v : V}, cellAt i off st0 = some v → ∃ b rcs ty u, (g.loc m ρ).bx i = some b ∧ w.heap[b]? = some (.cells rcs ty (0, 0)) ∧ rcs[off]? = some u ∧ vrep B (g.loc m ρ) w v u
  | [], _, i, off, v, h => by simp [cellAt] at h
  | .c i' o' vs :: r, he, i, off, v, h => by
    simp only [cellAt] at h
    split at h
    · rename_i hi
      have := Nat.eq_of_beq_eq_true hi
      subst this
      split at h
      · rename_i ho
        have ho := Nat.le_of_ble_eq_true ho
        split at h
        · rename_i v' hv
          cases h
          obtain ⟨⟨k, vs', hm, hk, hc, hle⟩, _⟩ := he
          obtain ⟨p, hp, rfl⟩ := Option.map_eq_some_iff.1 hk
          have hlen := (List.getElem?_eq_some_iff.1 hv).1
          have hlen2 := cellsAt_len hc
          obtain ⟨y, hy⟩ : ∃ y, vs'[off - o']? = some y := ⟨_, List.getElem?_eq_getElem (by omega)⟩
          have h1 := cellsAt_get hc hy
          rw [show o' + (off - o') = off by omega] at h1
          obtain ⟨b, rcs, ty, u, m1, m2, m3, m4⟩ := hs.cell h1
          have hb : ∃ us, vreps B g w vs' us ∧ us[off - o']? = some u := by
            obtain ⟨us, q1, q2⟩ := cellsAt_rep hs m1 hc
            obtain ⟨z, hz, hz2⟩ := vreps_get q1 hy
            refine ⟨us, q1, ?_⟩
            obtain ⟨b', o2, e, _, e3⟩ := q2 _ _ hz
            cases e
            have : w.cell? ⟨b, o' + (off - o'), none⟩ = some u := by
              rw [show o' + (off - o') = off by omega, cell_of_row w b off rcs ty (0, 0) m2]; exact m3
            rw [this] at e3; cases e3
            exact hz
          obtain ⟨us, q1, q2⟩ := hb
          obtain ⟨z, hz, hz2⟩ := vreps_get (hle.get hs q1) hv
          rw [q2] at hz; cases hz
          exact ⟨b, rcs, ty, u, by simp only [G.loc, hp]; rw [if_pos (blt_lt hm)]; exact m1, m2, m3, hz2⟩
        · exact entOk_cell hs he.2 h
      · exact entOk_cell hs he.2 h
    · exact entOk_cell hs he.2 h
  | .r .. :: r, he, i, off, v, h => by
    simp only [cellAt] at h
    exact entOk_cell hs he.2 h
theorem entOk_loop : ∀ {st0 : List E}, EntOk m ρ st st0 → ∀ {i : Nat} {r}, loopAt i st0 = some r → False
  | [], _, i, r, h => by simp [loopAt] at h
  | .c .. :: _, he, i, r, h => by simp only [loopAt] at h; exact entOk_loop he.2 h
  | .r .. :: _, he, i, r, h => by simp only [loopAt] at h; exact entOk_loop he.2 h
theorem entOk_row : ∀ {st0 : List E}, EntOk m ρ st st0 → ∀ {i : Nat} {o nw ver e sz l}, rowAt i st0 = some (o, nw, ver, e, sz, l) → ver = 0 ∧ ∃ k v, ρ[i]? = some (k, some v) ∧ rowAt k st = some (o, nw, v, e, sz, l)
  | [], _, i, o, nw, ver, e, sz, l, h => by simp [rowAt] at h
  | .c .. :: r, he, i, o, nw, ver, e, sz, l, h => by
    simp only [rowAt] at h
    exact entOk_row he.2 h
  | .r .. :: r, he, i, o, nw, ver, e, sz, l, h => by
    simp only [rowAt] at h
    split at h
    · rename_i hb
      have := Nat.eq_of_beq_eq_true hb
      subst this
      cases h
      exact he.1
    · exact entOk_row he.2 h
def rhoOk (ρ : Rho) : Bool := decide (ρ.map (·.1)).Nodup
theorem rho_inj (h : rhoOk ρ = true) {i j : Nat} {p q : Nat × Option Nat} (hi : ρ[i]? = some p) (hj : ρ[j]? = some q) (e : p.1 = q.1) : i = j := by
  have hn : (ρ.map (·.1)).Nodup := by simpa [rhoOk] using h
  have h1 : (ρ.map (·.1))[i]? = some p.1 := by simp [hi]
  have h2 : (ρ.map (·.1))[j]? = some q.1 := by simp [hj]
  exact (List.getElem?_inj (List.getElem?_eq_some_iff.1 h1).1 hn).1 (by rw [h1, h2, e])
theorem loc_inv (h : Inv B nb g w) (hρ : rhoOk ρ = true) (_ : m ≤ ρ.length) : Inv B ρ.length (g.loc m ρ) w := by
  have bxd : ∀ {i b}, (g.loc m ρ).bx i = some b → ∃ p, ρ[i]? = some p ∧ i < m ∧ g.bx p.1 = some b := fun {i b} h => by
    simp only [G.loc] at h
    split at h
    · rename_i hi
      split at h
      · rename_i p hp; exact ⟨p, hp, hi, h⟩
      · cases h
    · cases h
  have rbd : ∀ {i b}, (g.loc m ρ).rb i = some b → ∃ p, ρ[i]? = some p ∧ g.rb p.1 = some b := fun {i b} h => by
    simp only [G.loc] at h
    split at h
    · rename_i p hp; exact ⟨p, hp, h⟩
    · cases h
  refine ⟨fun {i b} hb => ?_, fun {i b} hb => ?_, fun {i j v} hb => ?_, fun {i j b} h1 h2 => ?_, fun {i j b} h1 h2 => ?_, fun {i j b} h1 h2 => ?_, fun {b} hb => ?_, fun {i b} hb he => ?_, fun {i b} hb he => ?_, fun h => h.elim, h.base⟩
  · obtain ⟨p, hp, hi, k⟩ := bxd hb; exact ⟨(h.bxlt k).1, (List.getElem?_eq_some_iff.1 hp).1⟩
  · obtain ⟨p, hp, k⟩ := rbd hb; exact ⟨(h.rblt k).1, (List.getElem?_eq_some_iff.1 hp).1⟩
  · simp only [G.loc] at hb
    split at hb
    · rename_i hp; exact (List.getElem?_eq_some_iff.1 hp).1
    · cases hb
  · obtain ⟨p, hp, _, k⟩ := bxd h1; obtain ⟨q, hq, _, k'⟩ := bxd h2; exact rho_inj hρ hp hq (h.bxinj k k')
  · obtain ⟨p, hp, k⟩ := rbd h1; obtain ⟨q, hq, k'⟩ := rbd h2; exact rho_inj hρ hp hq (h.rbinj k k')
  · obtain ⟨p, hp, _, k⟩ := bxd h1; obtain ⟨q, hq, k'⟩ := rbd h2; exact h.apart k k'
  · rcases hb.1 with k | ⟨_, k⟩ | ⟨_, k⟩
    · exact h.exlt k
    · exact (h.bxlt k).1
    · exact (h.rblt k).1
  · obtain ⟨p, hp, hi, k⟩ := bxd hb; exact (he.2 i p hp).1 hi k
  · obtain ⟨p, hp, k⟩ := rbd hb; exact (he.2 i p hp).2 k
theorem loc_sim (hs : SimS B g w st) {st0 : List E} (he : EntOk m ρ st st0) : SimS B (g.loc m ρ) w st0 := by
  refine ⟨fun {i off v} hc => entOk_cell hs he hc, fun {i o nw ver e sz l} hr => ?_, fun hl => (entOk_loop he hl).elim⟩
  obtain ⟨rfl, k, v, hp, hr⟩ := entOk_row he hr
  obtain ⟨u, xs, r1, r2, r3, r4, r5⟩ := hs.row hr
  refine ⟨u, xs, by simp only [G.loc, hp]; exact r1, by rw [loc_prot]; exact r2, ⟨r3.1, r3.2.1, fun j x hx => ?_⟩, r4, ?_⟩
  · simp only [G.loc, hp] at hx
    split at hx
    · omega
    · cases hx
  · rcases r5 with ⟨e1, e2, e3⟩ | ⟨e1, e2, e3⟩
    · exact .inl ⟨e1, e2, by simp only [G.loc, hp]; exact e3⟩
    · exact .inr ⟨e1, by simp only [G.loc, hp]; exact e2, by rw [loc_prot]; exact e3⟩
end
def mapN (m nb : Nat) (ρ : Rho) (i : Nat) : Option Nat := match Nat.blt i m with
  | true => (match ρ[i]? with | some p => some p.1 | none => none)
  | false => some (nb + (i - m))
def mapR (m nb : Nat) (ρ : Rho) (i ver : Nat) : Option (Nat × Nat) := match Nat.blt i m with
  | true => (match ρ[i]? with | some (k, some v) => some (k, v + ver) | _ => none)
  | false => some (nb + (i - m), ver)
mutual
def mapV (m nb : Nat) (ρ : Rho) : V → Option V
  | .d x => some (.d x)
  | .po _ _ => none
  | .ep l => some (.ep l)
  | .agg l => match mapVs m nb ρ l with
    | some r => some (.agg r)
    | none => none
  | .tup l => match mapVs m nb ρ l with
    | some r => some (.tup r)
    | none => none
  | .ptr i off => match mapN m nb ρ i with
    | some k => some (.ptr k off)
    | none => none
  | .sv i off n cap sz => match mapN m nb ρ i with
    | some k => some (.sv k off n cap sz)
    | none => none
  | .yl i => match mapN m nb ρ i with
    | some k => some (.yl k)
    | none => none
  | .rv i ver n => match mapR m nb ρ i ver with
    | some p => some (.rv p.1 p.2 n)
    | none => none
  | .row i ver => match mapR m nb ρ i ver with
    | some p => some (.row p.1 p.2)
    | none => none
  | .rp i ver sz a b => match mapR m nb ρ i ver with
    | some p => some (.rp p.1 p.2 sz a b)
    | none => none
  | .fn f fi ca => match mapVs m nb ρ fi with
    | some r => (match mapVs m nb ρ ca with
      | some q => some (.fn f r q)
      | none => none)
    | none => none
  | .ifc t x => match mapV m nb ρ x with
    | some r => some (.ifc t r)
    | none => none
def mapVs (m nb : Nat) (ρ : Rho) : List V → Option (List V)
  | [] => some []
  | x :: xs => match mapV m nb ρ x with
    | some y => (match mapVs m nb ρ xs with
      | some ys => some (y :: ys)
      | none => none)
    | none => none
end
def purgeE (ks : List Nat) : List E → Option (List E)
  | [] => some []
  | .y k lp T tm :: r => (match purgeE ks r with
    | some q => (match memB k ks with
      | true => some q
      | false => some (.y k lp T tm :: q))
    | none => none)
  | .c k off vs :: r => (match purgeE ks r with
    | some q => (match memB k ks with
      | true => some q
      | false => some (.c k off vs :: q))
    | none => none)
  | .r o nw k ver e sz l :: r => (match purgeE ks r with
    | some q => (match memB k ks with
      | true => some q
      | false => some (.r o nw k ver e sz l :: q))
    | none => none)
def mapEs (m nb : Nat) (ρ : Rho) (tail : List E) : List E → Option (List E)
  | [] => some tail
  | .y _ _ _ _ :: r => mapEs m nb ρ tail r
  | .c i off vs :: r => (match mapEs m nb ρ tail r with
    | some q => (match mapN m nb ρ i with
      | some k => (match mapVs m nb ρ vs with
        | some us => some (.c k off us :: q)
        | none => none)
      | none => none)
    | none => none)
  | .r o nw i ver e sz l :: r => (match mapEs m nb ρ tail r with
    | some q => (match mapR m nb ρ i ver with
      | some p => some (.r o nw p.1 p.2 e sz l :: q)
      | none => none)
    | none => none)
section
variable {m B nb nb1 : Nat} {ρ : Rho} {st : List E} {g g1 : G} {w w' : World}
theorem purge_cell {ks : List Nat} : ∀ {st r : List E}, purgeE ks st = some r → ∀ {k off : Nat} {v : V}, cellAt k off r = some v → k ∉ ks ∧ cellAt k off st = some v
  | [], r, h, k, off, v, hc => by simp only [purgeE, Option.some.injEq] at h; subst h; simp [cellAt] at hc
  | .c k' o' vs :: st, r, h, k, off, v, hc => by
    simp only [purgeE] at h
    split at h
    · rename_i q hq
      split at h
      · rename_i hm
        cases h
        obtain ⟨h1, h2⟩ := purge_cell hq hc
        refine ⟨h1, ?_⟩
        simp only [cellAt]
        split
        · rename_i hb
          have := Nat.eq_of_beq_eq_true hb
          subst this
          exact (h1 (memB_iff.1 hm)).elim
        · exact h2
      · rename_i hm
        cases h
        simp only [cellAt] at hc ⊢
        split at hc
        · rename_i hb
          have := Nat.eq_of_beq_eq_true hb
          subst this
          have hk : k ∉ ks := fun hk => by rw [memB_iff.2 hk] at hm; cases hm
          refine ⟨hk, ?_⟩
          split at hc
          · split at hc
            · exact hc
            · exact (purge_cell hq hc).2
          · exact (purge_cell hq hc).2
        · exact purge_cell hq hc
    · cases h
  | .r o nw k' ver e sz l :: st, r, h, k, off, v, hc => by
    simp only [purgeE] at h
    simp only [cellAt]
    split at h
    · rename_i q hq
      split at h
      · cases h; exact purge_cell hq hc
      · cases h; simp only [cellAt] at hc; exact purge_cell hq hc
    · cases h
  | .y k' lp T tm :: st, r, h, k, off, v, hc => by
    simp only [purgeE] at h
    simp only [cellAt]
    split at h
    · rename_i q hq
      split at h
      · cases h; exact purge_cell hq hc
      · cases h; simp only [cellAt] at hc; exact purge_cell hq hc
    · cases h
theorem purge_loop {ks : List Nat} : ∀ {st r : List E}, purgeE ks st = some r → ∀ {k : Nat} {lp}, loopAt k r = some lp → k ∉ ks ∧ loopAt k st = some lp
  | [], r, h, k, lp, hc => by simp only [purgeE, Option.some.injEq] at h; subst h; simp [loopAt] at hc
  | .r .. :: st, r, h, k, lp, hc => by
    simp only [purgeE] at h
    simp only [loopAt]
    split at h
    · rename_i q hq
      split at h
      · cases h; exact purge_loop hq hc
      · cases h; simp only [loopAt] at hc; exact purge_loop hq hc
    · cases h
  | .c .. :: st, r, h, k, lp, hc => by
    simp only [purgeE] at h
    simp only [loopAt]
    split at h
    · rename_i q hq
      split at h
      · cases h; exact purge_loop hq hc
      · cases h; simp only [loopAt] at hc; exact purge_loop hq hc
    · cases h
  | .y k' lp' T' tm' :: st, r, h, k, lp, hc => by
    simp only [purgeE] at h
    split at h
    · rename_i q hq
      split at h
      · rename_i hm
        cases h
        obtain ⟨h1, h2⟩ := purge_loop hq hc
        refine ⟨h1, ?_⟩
        simp only [loopAt]
        split
        · rename_i hb
          have := Nat.eq_of_beq_eq_true hb
          subst this
          exact (h1 (memB_iff.1 hm)).elim
        · exact h2
      · rename_i hm
        cases h
        simp only [loopAt] at hc ⊢
        split at hc
        · rename_i hb
          have := Nat.eq_of_beq_eq_true hb
          subst this
          have hk : k ∉ ks := fun hk => by rw [memB_iff.2 hk] at hm; cases hm
          exact ⟨hk, hc⟩
        · exact purge_loop hq hc
    · cases h
theorem purge_row {ks : List Nat} : ∀ {st r : List E}, purgeE ks st = some r → ∀ {k : Nat} {x}, rowAt k r = some x → k ∉ ks ∧ rowAt k st = some x
  | [], r, h, k, x, hc => by simp only [purgeE, Option.some.injEq] at h; subst h; simp [rowAt] at hc
  | .r o nw k' ver e sz l :: st, r, h, k, x, hc => by
    simp only [purgeE] at h
    split at h
    · rename_i q hq
      split at h
      · rename_i hm
        cases h
        obtain ⟨h1, h2⟩ := purge_row hq hc
        refine ⟨h1, ?_⟩
        simp only [rowAt]
        split
        · rename_i hb
          have := Nat.eq_of_beq_eq_true hb
          subst this
          exact (h1 (memB_iff.1 hm)).elim
        · exact h2
      · rename_i hm
        cases h
        simp only [rowAt] at hc ⊢
        split at hc
        · rename_i hb
          have := Nat.eq_of_beq_eq_true hb
          subst this
          have hk : k ∉ ks := fun hk => by rw [memB_iff.2 hk] at hm; cases hm
          exact ⟨hk, hc⟩
        · exact purge_row hq hc
    · cases h
  | .c k' o' vs :: st, r, h, k, x, hc => by
    simp only [purgeE] at h
    simp only [rowAt]
    split at h
    · rename_i q hq
      split at h
      · cases h; exact purge_row hq hc
      · cases h; simp only [rowAt] at hc; exact purge_row hq hc
    · cases h
  | .y k' lp T tm :: st, r, h, k, x, hc => by
    simp only [purgeE] at h
    simp only [rowAt]
    split at h
    · rename_i q hq
      split at h
      · cases h; exact purge_row hq hc
      · cases h; simp only [rowAt] at hc; exact purge_row hq hc
    · cases h
theorem mapVs_get : ∀ {l r : List V}, mapVs m nb ρ l = some r → r.length = l.length ∧ ∀ {i : Nat} {y : V}, r[i]? = some y → ∃ x, l[i]? = some x ∧ mapV m nb ρ x = some y
  | [], r, h => by simp only [mapVs, Option.some.injEq] at h; subst h; simp
  | x :: xs, r, h => by
    simp only [mapVs] at h
    split at h
    · rename_i y hy
      split at h
      · rename_i ys hys
        cases h
        obtain ⟨h1, h2⟩ := mapVs_get hys
        refine ⟨by simp [h1], fun {i z} hz => ?_⟩
        cases i with
        | zero => simp only [List.getElem?_cons_zero, Option.some.injEq] at hz ⊢; subst hz; exact ⟨x, rfl, hy⟩
        | succ i => simp only [List.getElem?_cons_succ] at hz ⊢; exact h2 hz
      · cases h
    · cases h
theorem mapR_N {i ver : Nat} {p : Nat × Nat} (h : mapR m nb ρ i ver = some p) : mapN m nb ρ i = some p.1 := by
  unfold mapR at h
  unfold mapN
  split at h
  · split at h
    · rename_i hp; cases h; simp [hp]
    · cases h
  · cases h; rfl
theorem mapEs_cell (hρ : rhoOk ρ = true) (hlt : ∀ (i : Nat) (p : Nat × Option Nat), ρ[i]? = some p → p.1 < nb) {tail : List E} : ∀ {st1 r : List E}, mapEs m nb ρ tail st1 = some r → ∀ {k off : Nat} {v : V}, cellAt k off r = some v →
    (∃ i v1, mapN m nb ρ i = some k ∧ cellAt i off st1 = some v1 ∧ mapV m nb ρ v1 = some v) ∨ cellAt k off tail = some v
  | [], r, h, k, off, v, hc => by simp only [mapEs, Option.some.injEq] at h; subst h; exact .inr hc
  | .c i o' vs :: st1, r, h, k, off, v, hc => by
    simp only [mapEs] at h
    split at h
    · rename_i q hq
      split at h
      · rename_i k' hk'
        split at h
        · rename_i us hus
          cases h
          have hrec : cellAt k off q = some v → (∀ v1, cellAt i off (.c i o' vs :: st1) = some v1 → k = k' → cellAt i off st1 = some v1) → (∃ i' v1, mapN m nb ρ i' = some k ∧ cellAt i' off (.c i o' vs :: st1) = some v1 ∧ mapV m nb ρ v1 = some v) ∨ cellAt k off tail = some v := fun hc hsk => by
            rcases mapEs_cell hρ hlt hq hc with ⟨i', v1, e1, e2, e3⟩ | h
            · refine .inl ⟨i', v1, e1, ?_, e3⟩
              simp only [cellAt]
              split
              · rename_i hb
                have := Nat.eq_of_beq_eq_true hb
                subst this
                rw [hk'] at e1; cases e1
                split
                · split
                  · rename_i x hx
                    have hz := hsk x (by simp only [cellAt, Nat.beq_refl]; rename_i ho hx; simp [ho, hx]) rfl
                    rw [hz] at e2; exact e2
                  · exact e2
                · exact e2
              · exact e2
            · exact .inr h
          simp only [cellAt] at hc
          split at hc
          · rename_i hb
            have := Nat.eq_of_beq_eq_true hb
            subst this
            split at hc
            · rename_i ho
              split at hc
              · rename_i y hy
                cases hc
                obtain ⟨x, hx, hm⟩ := (mapVs_get hus).2 hy
                exact .inl ⟨i, x, hk', by simp only [cellAt, Nat.beq_refl, ho, hx], hm⟩
              · rename_i hy
                refine hrec hc fun v1 h1 _ => ?_
                have : vs[off - o']? = none := by
                  rw [List.getElem?_eq_none_iff] at hy ⊢
                  rw [(mapVs_get hus).1] at hy; exact hy
                simp only [cellAt, Nat.beq_refl, ho, this] at h1; exact h1
            · rename_i ho
              exact hrec hc fun v1 h1 _ => by simp only [cellAt, Nat.beq_refl, ho] at h1; exact h1
          · rename_i hb
            exact hrec hc fun v1 _ e => by subst e; rw [Nat.beq_refl] at hb; cases hb
        · cases h
      · cases h
    · cases h
  | .r .. :: st1, r, h, k, off, v, hc => by
    simp only [mapEs] at h
    split at h
    · rename_i q hq
      split at h
      · cases h
        simp only [cellAt] at hc ⊢
        exact mapEs_cell hρ hlt hq hc
      · cases h
    · cases h
  | .y .. :: st1, r, h, k, off, v, hc => by
    simp only [mapEs] at h
    simp only [cellAt]
    exact mapEs_cell hρ hlt h hc
theorem mapEs_loop {tail : List E} : ∀ {st1 r : List E}, mapEs m nb ρ tail st1 = some r → ∀ {k : Nat} {lp}, loopAt k r = some lp → loopAt k tail = some lp
  | [], r, h, k, lp, hc => by simp only [mapEs, Option.some.injEq] at h; subst h; exact hc
  | .r .. :: st1, r, h, k, lp, hc => by
    simp only [mapEs] at h
    split at h
    · rename_i q hq
      split at h
      · cases h; simp only [loopAt] at hc; exact mapEs_loop hq hc
      · cases h
    · cases h
  | .c .. :: st1, r, h, k, lp, hc => by
    simp only [mapEs] at h
    split at h
    · rename_i q hq
      split at h
      · split at h
        · cases h; simp only [loopAt] at hc; exact mapEs_loop hq hc
        · cases h
      · cases h
    · cases h
  | .y .. :: st1, r, h, k, lp, hc => by
    simp only [mapEs] at h
    exact mapEs_loop h hc
theorem mapEs_row (hρ : rhoOk ρ = true) (hlt : ∀ (i : Nat) (p : Nat × Option Nat), ρ[i]? = some p → p.1 < nb) {tail : List E} : ∀ {st1 r : List E}, mapEs m nb ρ tail st1 = some r → ∀ {k : Nat} {o nw ver e sz l}, rowAt k r = some (o, nw, ver, e, sz, l) →
    (∃ i v1, mapR m nb ρ i v1 = some (k, ver) ∧ rowAt i st1 = some (o, nw, v1, e, sz, l)) ∨ rowAt k tail = some (o, nw, ver, e, sz, l)
  | [], r, h, k, o, nw, ver, e, sz, l, hc => by simp only [mapEs, Option.some.injEq] at h; subst h; exact .inr hc
  | .r o' nw' i ver' e' sz' l' :: st1, r, h, k, o, nw, ver, e, sz, l, hc => by
    simp only [mapEs] at h
    split at h
    · rename_i q hq
      split at h
      · rename_i p hp
        cases h
        simp only [rowAt] at hc
        split at hc
        · rename_i hb
          have := Nat.eq_of_beq_eq_true hb
          subst this
          cases hc
          exact .inl ⟨i, ver', hp, by simp only [rowAt, Nat.beq_refl]⟩
        · rename_i hb
          rcases mapEs_row hρ hlt hq hc with ⟨i', v1, e1, e2⟩ | h
          · refine .inl ⟨i', v1, e1, ?_⟩
            simp only [rowAt]
            split
            · rename_i hb2
              have := Nat.eq_of_beq_eq_true hb2
              subst this
              have h1 := mapR_N hp
              have h2 := mapR_N e1
              rw [h1] at h2
              simp only [Option.some.injEq] at h2
              rw [← h2, Nat.beq_refl] at hb; cases hb
            · exact e2
          · exact .inr h
      · cases h
    · cases h
  | .y .. :: st1, r, h, k, o, nw, ver, e, sz, l, hc => by
    simp only [mapEs] at h
    simp only [rowAt]
    exact mapEs_row hρ hlt h hc
  | .c .. :: st1, r, h, k, o, nw, ver, e, sz, l, hc => by
    simp only [mapEs] at h
    split at h
    · rename_i q hq
      split at h
      · split at h
        · cases h
          simp only [rowAt] at hc ⊢
          exact mapEs_row hρ hlt hq hc
        · cases h
      · cases h
    · cases h
end
end Go.Proofs.YtnjaohdadaifhaaGreat
