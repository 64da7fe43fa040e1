/- Walks by data and names, part 24: Memory that may be spoilt: what a call answers in new memory alone; and what is left when bytes of it have been written over. Operations on memory that may be spoilt, and calls. Walks in short: one way on, two ways on, calls, states: each as one lemma, whose tactic stands here once. -/
import Derived.Test.YtnjaohdadaifhaaGreatPk22
import Derived.Test.YtnjaohdadaifhaaGreatPk23
namespace Go.Proofs.YtnjaohdadaifhaaGreat
set_option maxRecDepth 20000
open Go.RowKit
theorem blurDs_len : ∀ {l m : List D}, blurDs l m → m.length = l.length
  | [], _, h => by simp only [blurDs] at h; subst h; rfl
  | _ :: _, _, h => by simp only [blurDs] at h; obtain ⟨y, ys, rfl, _, k⟩ := h; simp [blurDs_len k]
theorem blurDss_len : ∀ {l m : List (List D)}, blurDss l m → m.length = l.length
  | [], _, h => by simp only [blurDss] at h; subst h; rfl
  | _ :: _, _, h => by simp only [blurDss] at h; obtain ⟨y, ys, rfl, _, k⟩ := h; simp [blurDss_len k]
theorem blurDss_sz {sz : Nat} : ∀ {l m : List (List D)}, blurDss l m → (∀ x ∈ l, x.length = sz) → ∀ x ∈ m, x.length = sz
  | [], _, h, _ => by simp only [blurDss] at h; subst h; simp
  | x :: xs, _, h, k => by
    simp only [blurDss] at h
    obtain ⟨y, ys, rfl, h1, h2⟩ := h
    intro z hz
    rcases List.mem_cons.1 hz with rfl | hz
    · rw [blurDs_len h1]; exact k x (by simp)
    · exact blurDss_sz h2 (fun a ha => k a (by simp [ha])) z hz
mutual
theorem blurD_trans : ∀ {x y z : D}, blurD x y → blurD y z → blurD x z
  | .lit u, _, _, h, k => by
    simp only [blurD] at h; obtain ⟨v, rfl, h⟩ := h
    simp only [blurD] at k ⊢; obtain ⟨v', rfl, k⟩ := k
    refine ⟨v', rfl, ?_⟩
    rcases h with rfl | ⟨h1, h2⟩
    · exact k
    · rcases k with rfl | ⟨k1, k2⟩
      · exact .inr ⟨h1, h2⟩
      · exact .inr ⟨h1, k2⟩
  | .agg l, _, _, h, k => by
    simp only [blurD] at h; obtain ⟨m, rfl, h⟩ := h
    simp only [blurD] at k ⊢; obtain ⟨n, rfl, k⟩ := k
    exact ⟨n, rfl, blurDs_trans h k⟩
  | .tup l, _, _, h, k => by
    simp only [blurD] at h; obtain ⟨m, rfl, h⟩ := h
    simp only [blurD] at k ⊢; obtain ⟨n, rfl, k⟩ := k
    exact ⟨n, rfl, blurDs_trans h k⟩
  | .sl c f l, _, _, h, k => by
    simp only [blurD] at h; obtain ⟨m, rfl, h⟩ := h
    simp only [blurD] at k ⊢; obtain ⟨n, rfl, k⟩ := k
    exact ⟨n, rfl, blurDss_trans h k⟩
  | .ifc t x, _, _, h, k => by
    simp only [blurD] at h; obtain ⟨m, rfl, h⟩ := h
    simp only [blurD] at k ⊢; obtain ⟨n, rfl, k⟩ := k
    exact ⟨n, rfl, blurD_trans h k⟩
  | .pt l, _, _, h, k => by
    simp only [blurD] at h; obtain ⟨m, rfl, h⟩ := h
    simp only [blurD] at k ⊢; obtain ⟨n, rfl, k⟩ := k
    exact ⟨n, rfl, blurDs_trans h k⟩
  | .fn f a c, _, _, h, k => by
    simp only [blurD] at h; obtain ⟨m, m', rfl, h, h'⟩ := h
    simp only [blurD] at k ⊢; obtain ⟨n, n', rfl, k, k'⟩ := k
    exact ⟨n, n', rfl, blurDs_trans h k, blurDs_trans h' k'⟩
  | .any, _, _, h, k => by
    simp only [blurD] at h; subst h; exact k
theorem blurDs_trans : ∀ {x y z : List D}, blurDs x y → blurDs y z → blurDs x z
  | [], _, _, h, k => by simp only [blurDs] at h; subst h; exact k
  | x :: xs, _, _, h, k => by
    simp only [blurDs] at h; obtain ⟨y, ys, rfl, h, h'⟩ := h
    simp only [blurDs] at k ⊢; obtain ⟨z, zs, rfl, k, k'⟩ := k
    exact ⟨z, zs, rfl, blurD_trans h k, blurDs_trans h' k'⟩
theorem blurDss_trans : ∀ {x y z : List (List D)}, blurDss x y → blurDss y z → blurDss x z
  | [], _, _, h, k => by simp only [blurDss] at h; subst h; exact k
  | x :: xs, _, _, h, k => by
    simp only [blurDss] at h; obtain ⟨y, ys, rfl, h, h'⟩ := h
    simp only [blurDss] at k ⊢; obtain ⟨z, zs, rfl, k, k'⟩ := k
    exact ⟨z, zs, rfl, blurDs_trans h k, blurDss_trans h' k'⟩
end
theorem blurE_trans {e : Bool} {x y z : D} (h : blurE e x y) (k : blurD y z) : blurD x z := by
  cases e with
  | true => simp only [blurE] at h; subst h; exact k
  | false => exact blurD_trans h k
section
variable {B : Nat} {g : G} {w : World}
end
def Blv : List Value → List Value → Prop
  | [], m => m = []
  | x :: xs, m => ∃ y ys, m = y :: ys ∧ (y = x ∨ u8V x = true ∧ u8V y = true) ∧ Blv xs ys
theorem blv_refl : ∀ (l : List Value), Blv l l
  | [] => rfl
  | x :: xs => ⟨x, xs, rfl, .inl rfl, blv_refl xs⟩
theorem blv_split : ∀ {a b m : List Value}, Blv (a ++ b) m → ∃ a' b', m = a' ++ b' ∧ Blv a a' ∧ Blv b b'
  | [], b, m, h => ⟨[], m, rfl, rfl, h⟩
  | x :: xs, b, m, ⟨y, ys, e, h1, h2⟩ => by
    obtain ⟨a', b', e', k1, k2⟩ := blv_split h2
    subst e; subst e'
    exact ⟨y :: a', b', rfl, ⟨y, a', rfl, h1, k1⟩, k2⟩
theorem u8_one {u : Value} (h : u8V u = true) : u.oneCell' = true := by
  unfold u8V at h; split at h
  · rfl
  · cases h
theorem blv_one : ∀ {l m : List Value}, Blv l m → (∀ u ∈ l, u.oneCell' = true) → ∀ u ∈ m, u.oneCell' = true
  | [], _, h, _ => by simp only [Blv] at h; subst h; simp
  | x :: xs, _, ⟨y, ys, e, h1, h2⟩, h => by
    subst e
    intro u hu
    rcases List.mem_cons.1 hu with rfl | hu
    · rcases h1 with rfl | ⟨_, h1⟩
      · exact h _ (by simp)
      · exact u8_one h1
    · exact blv_one h2 (fun a ha => h a (by simp [ha])) u hu
theorem blv_mk {Pc : Nat → Value → Prop} : ∀ {cs : List Value} {off : Nat}, (∀ (j : Nat) u, cs[j]? = some u → ∃ v, (v = u ∨ u8V u = true ∧ u8V v = true) ∧ Pc (off + j) v) → ∃ cs', Blv cs cs' ∧ ∀ (j : Nat) v, cs'[j]? = some v → Pc (off + j) v
  | [], _, _ => ⟨[], rfl, fun j v h => by simp at h⟩
  | x :: xs, off, h => by
    obtain ⟨v, h1, h2⟩ := h 0 x rfl
    obtain ⟨vs, k1, k2⟩ := blv_mk (Pc := Pc) (cs := xs) (off := off + 1) fun j u hj => by
      obtain ⟨v, m1, m2⟩ := h (j + 1) u (by simpa using hj)
      exact ⟨v, m1, by rw [show off + 1 + j = off + (j + 1) by omega]; exact m2⟩
    refine ⟨v :: vs, ⟨v, vs, rfl, h1, k1⟩, fun j u hj => ?_⟩
    cases j with
    | zero => simp at hj; subst hj; exact h2
    | succ j => have := k2 j u (by simpa using hj); rwa [show off + 1 + j = off + (j + 1) by omega] at this
section
variable {B : Nat} {p p' : Nat → Prop} {w w' : World}
theorem Unf.blur {b : Nat} (h : Unf w b) (hb : blurB w.heap[b]? w'.heap[b]?) : Unf w' b := fun cs t fz hc => by
  rcases hb with hb | ⟨us, us', t', fz', e1, e2, _⟩
  · exact h cs t fz (hb ▸ hc)
  · rw [e2] at hc; cases hc; exact h _ _ _ e1
theorem At.blur (hb : ∀ b, p b → b < w.heap.size → blurB w.heap[b]? w'.heap[b]? ∧ p' b) {f : Bool} {a : Option Addr} {cs : List Value} (h : At (Nw B p w f) w a cs) : ∃ cs', Blv cs cs' ∧ At (Nw B p' w' f) w' a cs' := by
  obtain ⟨cs', h1, h2⟩ := blv_mk (Pc := fun j v => ∃ b o, a = some ⟨b, o, none⟩ ∧ Nw B p' w' f b ∧ w'.cell? ⟨b, o + j, none⟩ = some v) (cs := cs) (off := 0) fun j u hj => by
    obtain ⟨b, o, rfl, hp, hc⟩ := h j u hj
    have hlt := World.block_lt_of_cell? w _ hc
    obtain ⟨hx, hp'⟩ := hb b hp.1 hlt
    have hN : Nw B p' w' f b := ⟨hp', fun hf => ⟨(hp.2 hf).1, (hp.2 hf).2.blur hx⟩⟩
    rcases hx with hx | ⟨us, us', t, fz, e1, e2, _, hx⟩
    · exact ⟨u, .inl rfl, b, o, rfl, hN, by rw [Nat.zero_add]; exact (World.cell?_of_block hx).trans hc⟩
    · rw [cell_of_row w b _ us t fz e1] at hc
      obtain ⟨v, hv, hx⟩ := hx _ _ hc
      exact ⟨v, hx, b, o, rfl, hN, by rw [Nat.zero_add, cell_of_row w' b _ us' t fz e2]; exact hv⟩
  exact ⟨cs', h1, fun j u hj => by have := h2 j u hj; rwa [Nat.zero_add] at this⟩
mutual
theorem drep_blur (hb : ∀ b, p b → b < w.heap.size → blurB w.heap[b]? w'.heap[b]? ∧ p' b) : ∀ {x : D} {u u' : Value}, drep B p w x u → (u' = u ∨ u8V u = true ∧ u8V u' = true) → ∃ y, blurD x y ∧ drep B p' w' y u'
  | .lit v, u, u', h, hu => by
    simp only [drep] at h; subst h
    exact ⟨.lit u', by simp only [blurD]; exact ⟨u', rfl, hu⟩, by simp only [drep]⟩
  | .agg l, u, u', h, hu => by
    simp only [drep] at h; obtain ⟨cs, rfl, k⟩ := h
    rcases hu with rfl | ⟨hu, _⟩
    · obtain ⟨m, h1, h2⟩ := dreps_blur hb k (blv_refl _)
      exact ⟨.agg m, by simp only [blurD]; exact ⟨m, rfl, h1⟩, by simp only [drep]; exact ⟨_, rfl, h2⟩⟩
    · simp [u8V] at hu
  | .tup l, u, u', h, hu => by
    simp only [drep] at h; obtain ⟨cs, rfl, k⟩ := h
    rcases hu with rfl | ⟨hu, _⟩
    · obtain ⟨m, h1, h2⟩ := dreps_blur hb k (blv_refl _)
      exact ⟨.tup m, by simp only [blurD]; exact ⟨m, rfl, h1⟩, by simp only [drep]; exact ⟨_, rfl, h2⟩⟩
    · simp [u8V] at hu
  | .sl c f l, u, u', h, hu => by
    simp only [drep] at h; obtain ⟨a, cap, cs, rfl, e2, e3, e4, e5, ⟨sz, e6⟩, e0, e7, e8⟩ := h
    rcases hu with rfl | ⟨hu, _⟩
    · obtain ⟨cs', q1, q2⟩ := e7.blur hb
      obtain ⟨m, h1, h2⟩ := drepss_blur hb e8 q1
      have hl := blurDss_len h1
      refine ⟨.sl c f m, by simp only [blurD]; exact ⟨m, rfl, h1⟩, ?_⟩
      simp only [drep]
      exact ⟨a, cap, cs', by rw [hl], by rw [hl]; exact e2, e3, by rw [hl]; exact e4, e5, ⟨sz, blurDss_sz h1 e6⟩, blv_one q1 e0, q2, h2⟩
    · simp [u8V] at hu
  | .ifc t x, u, u', h, hu => by
    simp only [drep] at h; obtain ⟨z, rfl, k⟩ := h
    rcases hu with rfl | ⟨hu, _⟩
    · obtain ⟨m, h1, h2⟩ := drep_blur hb k (.inl rfl)
      exact ⟨.ifc t m, by simp only [blurD]; exact ⟨m, rfl, h1⟩, by simp only [drep]; exact ⟨_, rfl, h2⟩⟩
    · simp [u8V] at hu
  | .pt l, u, u', h, hu => by
    simp only [drep] at h; obtain ⟨b, o, cs, rfl, k1, k2⟩ := h
    rcases hu with rfl | ⟨hu, _⟩
    · obtain ⟨cs', q1, q2⟩ := At.blur (B := B) (f := false) hb (k1.imp fun b h => ⟨h.1, fun h => by cases h⟩)
      obtain ⟨m, h1, h2⟩ := dreps_blur hb k2 q1
      exact ⟨.pt m, by simp only [blurD]; exact ⟨m, rfl, h1⟩, by simp only [drep]; exact ⟨b, o, cs', rfl, q2.imp fun b h => ⟨h.1, trivial⟩, h2⟩⟩
    · simp [u8V] at hu
  | .fn f fi ca, u, u', h, hu => by
    simp only [drep] at h; obtain ⟨xs, ys, rfl, k1, k2⟩ := h
    rcases hu with rfl | ⟨hu, _⟩
    · obtain ⟨m, h1, h2⟩ := dreps_blur hb k1 (blv_refl _)
      obtain ⟨m', h1', h2'⟩ := dreps_blur hb k2 (blv_refl _)
      exact ⟨.fn f m m', by simp only [blurD]; exact ⟨m, m', rfl, h1, h1'⟩, by simp only [drep]; exact ⟨_, _, rfl, h2, h2'⟩⟩
    · simp [u8V] at hu
  | .any, u, u', h, hu => ⟨.any, by simp only [blurD], by simp only [drep]⟩
theorem dreps_blur (hb : ∀ b, p b → b < w.heap.size → blurB w.heap[b]? w'.heap[b]? ∧ p' b) : ∀ {l : List D} {us us' : List Value}, dreps B p w l us → Blv us us' → ∃ m, blurDs l m ∧ dreps B p' w' m us'
  | [], us, us', h, hu => by
    simp only [dreps] at h; subst h
    simp only [Blv] at hu; subst hu
    exact ⟨[], by simp only [blurDs], by simp only [dreps]⟩
  | x :: xs, us, us', h, hu => by
    simp only [dreps] at h; obtain ⟨c, cs, rfl, k1, k2⟩ := h
    obtain ⟨v, vs, rfl, q1, q2⟩ := hu
    obtain ⟨y, h1, h2⟩ := drep_blur hb k1 q1
    obtain ⟨ys, h1', h2'⟩ := dreps_blur hb k2 q2
    exact ⟨y :: ys, by simp only [blurDs]; exact ⟨y, ys, rfl, h1, h1'⟩, by simp only [dreps]; exact ⟨v, vs, rfl, h2, h2'⟩⟩
theorem drepss_blur (hb : ∀ b, p b → b < w.heap.size → blurB w.heap[b]? w'.heap[b]? ∧ p' b) : ∀ {l : List (List D)} {us us' : List Value}, drepss B p w l us → Blv us us' → ∃ m, blurDss l m ∧ drepss B p' w' m us'
  | [], us, us', h, hu => by
    simp only [drepss] at h; subst h
    simp only [Blv] at hu; subst hu
    exact ⟨[], by simp only [blurDss], by simp only [drepss]⟩
  | x :: xs, us, us', h, hu => by
    simp only [drepss] at h; obtain ⟨c1, c2, rfl, k1, k2⟩ := h
    obtain ⟨v1, v2, rfl, q1, q2⟩ := blv_split hu
    obtain ⟨y, h1, h2⟩ := dreps_blur hb k1 q1
    obtain ⟨ys, h1', h2'⟩ := drepss_blur hb k2 q2
    exact ⟨y :: ys, by simp only [blurDss]; exact ⟨y, ys, rfl, h1, h1'⟩, by simp only [drepss]; exact ⟨v1, v2, rfl, h2, h2'⟩⟩
end
end
mutual
def blurV : V → V
  | .po _ x => .po false x
  | .agg l => .agg (blurVs l)
  | .tup l => .tup (blurVs l)
  | .ifc t x => .ifc t (blurV x)
  | .fn f a c => .fn f (blurVs a) (blurVs c)
  | v => v
def blurVs : List V → List V
  | [] => []
  | x :: xs => blurV x :: blurVs xs
end
def blurT : List (Nat × V) → List (Nat × V)
  | [] => []
  | (t, v) :: r => (t, blurV v) :: blurT r
def blurS : List E → List E
  | [] => []
  | .c k off vs :: r => .c k off (blurVs vs) :: blurS r
  | .r o nw k ver e sz l :: r => .r o nw k ver e sz l :: blurS r
  | .y k lp T tm :: r => .y k lp T (blurT tm) :: blurS r
theorem blurVs_map : ∀ {l : List V}, blurVs l = l.map blurV
  | [] => rfl
  | x :: xs => by simp [blurVs, blurVs_map (l := xs)]
theorem lookT_blur {t : Nat} : ∀ {tm : List (Nat × V)} {v : V}, lookT t (blurT tm) = some v → ∃ v0, lookT t tm = some v0 ∧ v = blurV v0
  | [], _, h => by simp [blurT, lookT] at h
  | (t', v') :: r, v, h => by
    simp only [blurT, lookT] at h ⊢
    split at h
    · cases h; exact ⟨v', by simp, rfl⟩
    · exact lookT_blur h
theorem cellAt_blur {k off : Nat} : ∀ {st : List E} {v : V}, cellAt k off (blurS st) = some v → ∃ v0, cellAt k off st = some v0 ∧ v = blurV v0
  | [], _, h => by simp [blurS, cellAt] at h
  | .c k' o' vs :: r, v, h => by
    simp only [blurS, cellAt] at h ⊢
    split at h
    · split at h
      · rw [blurVs_map, List.getElem?_map] at h
        split at h
        · rename_i x hx
          cases h
          obtain ⟨x0, h1, h2⟩ := Option.map_eq_some_iff.1 hx
          exact ⟨x0, by rw [h1], h2.symm⟩
        · rename_i hx
          rw [Option.map_eq_none_iff] at hx
          rw [hx]
          exact cellAt_blur h
      · exact cellAt_blur h
    · exact cellAt_blur h
  | .r _ _ _ _ _ _ _ :: r, v, h => by simp only [blurS, cellAt] at h ⊢; exact cellAt_blur h
  | .y _ _ _ _ :: r, v, h => by simp only [blurS, cellAt] at h ⊢; exact cellAt_blur h
theorem rowAt_blur {k : Nat} : ∀ {st : List E}, rowAt k (blurS st) = rowAt k st
  | [] => rfl
  | .c k' o' vs :: r => by simp only [blurS, rowAt]; exact rowAt_blur
  | .r _ _ _ _ _ _ _ :: r => by simp only [blurS, rowAt]; split <;> first | rfl | exact rowAt_blur
  | .y _ _ _ _ :: r => by simp only [blurS, rowAt]; exact rowAt_blur
theorem loopAt_blur {k : Nat} : ∀ {st : List E} {r : Option Loop} {T : Array Value} {tm : List (Nat × V)}, loopAt k (blurS st) = some (r, T, tm) → ∃ tm0, loopAt k st = some (r, T, tm0) ∧ tm = blurT tm0
  | [], _, _, _, h => by simp [blurS, loopAt] at h
  | .c k' o' vs :: r, _, _, _, h => by simp only [blurS, loopAt] at h ⊢; exact loopAt_blur h
  | .r _ _ _ _ _ _ _ :: r, _, _, _, h => by simp only [blurS, loopAt] at h ⊢; exact loopAt_blur h
  | .y k' r' T' tm' :: s, _, _, _, h => by
    simp only [blurS, loopAt] at h ⊢
    split at h
    · cases h; exact ⟨tm', rfl, rfl⟩
    · exact loopAt_blur h
structure Spoilt (g : G) (w w' : World) : Prop where
  os : w'.os = w.os
  tape : w'.tape = w.tape
  output : w'.output = w.output
  size : w.heap.size ≤ w'.heap.size
  blk : ∀ b, b < w.heap.size → ¬ g.pl b → w'.heap[b]? = w.heap[b]?
  blur : ∀ b, g.pl b → b < w.heap.size → blurB w.heap[b]? w'.heap[b]?
section
variable {B nb : Nat} {g : G} {w w' : World}
theorem prot_pl {b : Nat} (h : g.prot b) : ¬ g.pl b := fun k => h (.inl (g.plex b k))
mutual
theorem Spoilt.vrep (h : Spoilt g w w') : ∀ {v : V} {u : Value}, vrep B g w v u → vrep B g w' (blurV v) u
  | .d x, _, k => by simp only [blurV, Go.Proofs.YtnjaohdadaifhaaGreat.vrep] at k ⊢; exact drep_mono (Nat.le_refl _) (fun b hb hp => ⟨hp, h.blk b hb (prot_pl hp)⟩) k
  | .agg l, _, k => by simp only [blurV, Go.Proofs.YtnjaohdadaifhaaGreat.vrep] at k ⊢; obtain ⟨cs, e, k⟩ := k; exact ⟨cs, e, Spoilt.vreps h k⟩
  | .tup l, _, k => by simp only [blurV, Go.Proofs.YtnjaohdadaifhaaGreat.vrep] at k ⊢; obtain ⟨cs, e, k⟩ := k; exact ⟨cs, e, Spoilt.vreps h k⟩
  | .ptr _ _, _, k => by simp only [blurV, Go.Proofs.YtnjaohdadaifhaaGreat.vrep] at k ⊢; exact k
  | .ep l, _, k => by
    simp only [blurV, Go.Proofs.YtnjaohdadaifhaaGreat.vrep] at k ⊢
    obtain ⟨b, o, cs, e, k1, k2⟩ := k
    exact ⟨b, o, cs, e, k1.mono fun b hb hp => ⟨hp, h.blk b hb (prot_pl hp)⟩, dreps_mono (Nat.le_refl _) (fun b hb hp => ⟨hp, h.blk b hb (prot_pl hp)⟩) k2⟩
  | .row _ _, _, k => by simp only [blurV, Go.Proofs.YtnjaohdadaifhaaGreat.vrep] at k ⊢; exact k
  | .rp _ _ _ _ _, _, k => by simp only [blurV, Go.Proofs.YtnjaohdadaifhaaGreat.vrep] at k ⊢; exact k
  | .fn _ _ _, _, k => by simp only [blurV, Go.Proofs.YtnjaohdadaifhaaGreat.vrep] at k ⊢; obtain ⟨xs, ys, e, k1, k2⟩ := k; exact ⟨xs, ys, e, Spoilt.vreps h k1, Spoilt.vreps h k2⟩
  | .ifc t x, _, k => by simp only [blurV, Go.Proofs.YtnjaohdadaifhaaGreat.vrep] at k ⊢; obtain ⟨y, e, k⟩ := k; exact ⟨y, e, Spoilt.vrep h k⟩
  | .sv _ _ _ _ _, _, k => by simp only [blurV, Go.Proofs.YtnjaohdadaifhaaGreat.vrep] at k ⊢; exact k
  | .yl _, _, k => by simp only [blurV, Go.Proofs.YtnjaohdadaifhaaGreat.vrep] at k ⊢; exact k
  | .rv _ _ _, _, k => by simp only [blurV, Go.Proofs.YtnjaohdadaifhaaGreat.vrep] at k ⊢; exact k
  | .po e x, u, k => by
    simp only [blurV, Go.Proofs.YtnjaohdadaifhaaGreat.vrep] at k ⊢
    obtain ⟨y, e, k⟩ := k
    obtain ⟨z, h1, h2⟩ := drep_blur (p' := fun b => g.pl b ∧ Unf w' b) (fun b hp hlt => ⟨h.blur b hp.1 hlt, hp.1, hp.2.blur (h.blur b hp.1 hlt)⟩) k (.inl rfl)
    exact ⟨z, blurE_trans e h1, h2⟩
theorem Spoilt.vreps (h : Spoilt g w w') : ∀ {v : List V} {u : List Value}, vreps B g w v u → vreps B g w' (blurVs v) u
  | [], _, k => by simp only [blurVs, Go.Proofs.YtnjaohdadaifhaaGreat.vreps] at k ⊢; exact k
  | x :: xs, _, k => by simp only [blurVs, Go.Proofs.YtnjaohdadaifhaaGreat.vreps] at k ⊢; obtain ⟨y, ys, e, k1, k2⟩ := k; exact ⟨y, ys, e, Spoilt.vrep h k1, Spoilt.vreps h k2⟩
end
theorem Spoilt.simS (h : Spoilt g w w') (hi : Inv B nb g w) {st : List E} (hs : SimS B g w st) : SimS B g w' (blurS st) := by
  refine ⟨fun {k off v} hc => ?_, fun {k o nw ver e sz l} hr => ?_, fun {k r T tm} hl => ?_⟩
  · obtain ⟨v0, hc0, rfl⟩ := cellAt_blur hc
    obtain ⟨b, rcs, ty, u, h1, h2, h3, h4⟩ := hs.cell hc0
    exact ⟨b, rcs, ty, u, h1, (h.blk b (hi.bxlt h1).1 fun hp => hi.exbx h1 (g.plex b hp)).trans h2, h3, h.vrep h4⟩
  · rw [rowAt_blur] at hr
    obtain ⟨v, xs, r1, r2, r3, r4, r5⟩ := hs.row hr
    have hm : ∀ b, b < w.heap.size → g.prot b → g.prot b ∧ w'.heap[b]? = w.heap[b]? := fun b hb hp => ⟨hp, h.blk b hb (prot_pl hp)⟩
    refine ⟨v, xs, r1, drepss_mono (Nat.le_refl _) hm r2, r3, r4, ?_⟩
    rcases r5 with ⟨e1, e2, e3⟩ | ⟨e1, e2, e3⟩
    · refine .inl ⟨e1, ⟨e2.1, ?_⟩, e3⟩
      rcases e2.2 with h5 | ⟨gb, cap, cur, hv, hb, hh, rest⟩
      · exact .inl h5
      · have hgb : g.rb k = some gb := by rw [e3, hv]; rfl
        exact .inr ⟨gb, cap, cur, hv, hb, (h.blk gb (hi.rblt hgb).1 fun hp => hi.exrb hgb (g.plex gb hp)).trans hh, rest⟩
    · exact .inr ⟨e1, e2, drep_mono (Nat.le_refl _) hm e3⟩
  · obtain ⟨tm0, hl0, rfl⟩ := loopAt_blur hl
    obtain ⟨h1, h2⟩ := hs.loop hl0
    refine ⟨fun lp e => let ⟨b, m1, m2⟩ := h1 lp e; ⟨b, m1, (h.blk b (hi.bxlt m1).1 fun hp => hi.exbx m1 (g.plex b hp)).trans m2⟩, fun {t v} ht => ?_⟩
    obtain ⟨v0, ht0, rfl⟩ := lookT_blur ht
    exact h.vrep (h2 ht0)
theorem Spoilt.inv (h : Spoilt g w w') (hi : Inv B nb g w) : Inv B nb g w' := hi.evo h.size
theorem Spoilt.sim {cx : Cx} {a : Act} {s : St} (h : Spoilt g w w') (hdf : cx.df = []) (hS : Sim cx g a w s) : Sim cx g a w' ⟨blurT s.tm, blurS s.st, s.nb⟩ := by
  refine ⟨hS.size, fun {t v} ht => ?_, h.simS hS.inv hS.st, h.inv hS.inv, ?_⟩
  · obtain ⟨v0, ht0, rfl⟩ := lookT_blur ht
    exact h.vrep (hS.tm ht0)
  · obtain ⟨hm, bs, r, e, hn, hb, hr⟩ := hS.defers
    rw [hdf] at hr
    refine ⟨fun m hm' => Nat.le_trans (hm m hm') h.size, bs, r, e, hn, fun b hb' => ?_, by rw [hdf]; exact hr⟩
    obtain ⟨h1, h2, h3⟩ := hb b hb'
    exact ⟨h1, h2, (h.blk b (Array.getElem?_eq_some_iff.1 h3).1 (prot_pl h1)).trans h3⟩
theorem Spoilt.ext {sp : Prop} {m : Nat} {g0 : G} {w0 : World} (h : Spoilt g w w') (hsp : sp) (hE : Ext sp m g0 w0 g w) (hi : Inv B nb g w) : Ext sp m g0 w0 g w' := by
  refine ⟨h.os.trans hE.os, h.tape.trans hE.tape, h.output.trans hE.output, Nat.le_trans hE.size h.size, hE.bx, hE.rw, fun b hb hp => ?_, hE.ex, fun b hb hn => ?_, hE.pl, fun b hb hlt => ?_⟩
  · obtain ⟨h1, h2⟩ := hE.blk b hb hp
    exact ⟨h1, (h.blk b (Nat.lt_of_lt_of_le hb hE.size) (prot_pl h1)).trans h2⟩
  · have hlt : b < w0.heap.size := by
      have h1 := hi.exlt (hE.ex b hb)
      have h2 := hE.exblk b hb hn
      rw [Array.getElem?_eq_getElem h1] at h2
      exact (Array.getElem?_eq_some_iff.1 h2.symm).1
    exact (h.blk b (Nat.lt_of_lt_of_le hlt hE.size) fun hp => hn ⟨hsp, (hE.pl b).2 hlt hp⟩).trans (hE.exblk b hb hn)
  · exact blurB_trans (hE.blur b hb hlt) (h.blur b ((hE.pl b).1 hb) (Nat.lt_of_lt_of_le hlt hE.size))
end
end Go.Proofs.YtnjaohdadaifhaaGreat

namespace Go.Proofs.YtnjaohdadaifhaaGreat
set_option maxRecDepth 20000
open Go.RowKit
theorem nz1 {g g' : Prop} (k : g') (h : g' → g := by
  intro k
  first
  | ((with_reducible refine vl_id ?_)
     first
     | ((with_reducible refine vl_gd ?_); exact vs_xg k)
     | (refine vl_k 0 ?_; exact vs_xq k)
     | (refine vl_k 3 ?_; exact vs_xu k)
     | (refine vl_k 1 ?_; first | exact vs_xr k | exact vs_bs0 k)
     | (refine vl_k 2 ?_; exact vs_xv k)
     | (refine vl_k 5 ?_; exact vs_p k)
     | (refine vl_k 6 ?_; exact vs_x k))
  | ((with_reducible refine vd_id ?_)
     first
     | with_reducible exact vd_done k
     | ((with_reducible refine vd_gd ?_); exact vd_skip k)
     | (refine vd_k 0 ?_; exact vd_q k)
     | (refine vd_k 3 ?_; first | exact vd_store k | exact vd_storez k)
     | (refine vd_k 1 ?_; first | exact vd_rp k | exact vd_rp k (h := r_bs0) | exact vd_r k (h := r_bs0) | exact vd_rs k | exact vd_r k)
     | (refine vd_k 2 ?_; first | exact vd_rp k | exact vd_r k | exact vd_appp k | exact vd_appzp k | exact vd_app k | exact vd_appz k)
     | (refine vd_k 6 ?_; exact vd_q k))) : g := h k
theorem vid {g : Prop} (k : g) (_h : g → g := by first | with_reducible exact vl_id | with_reducible exact vd_id) : g := k
theorem nnil {g g' : Prop} (k : g') (h : g' → g := by intro k; first | exact vs_eqnil k | exact vs_nenil k) : g := h k
theorem xo {p g : Prop} (h : p) (k : p → g := by intro h; exfalso; (try simp only [decide_eq_true_eq, decide_eq_false_iff_not] at h); omega) : g := k h
theorem nzo {g g' : Prop} (k : g') (h : g' → g := by
  intro k
  first
  | with_reducible exact vw_seq k
  | ((with_reducible refine vw_drid ?_); exact vw_drawx k)
  | ((with_reducible refine vw_cid ?_); first | exact vw_condt k | exact vw_condf k)
  | ((with_reducible refine rt_id ?_); first | exact rt_o k | exact rt_a k)
  | ((with_reducible refine rt_idp ?_); exact rt_pan rfl k)
  | ((with_reducible refine rc_id ?_); exact rc_ret k)
  | ((with_reducible refine nx_tryid ?_); exact nx_try k)
  | ((with_reducible refine nx_resid ?_); exact nx_res k)
  | with_reducible (refine NX.go ?_; constructor; exact k)
  | with_reducible exact nx_blkx rfl k
  | with_reducible exact nx_blky rfl k
  | ((with_reducible refine nx_mkid ?_); exact nx_mk k)
  | ((with_reducible refine nx_asgid ?_); exact nx_asg k)
  | ((with_reducible refine nx_rndid ?_); first | exact nx_rnd (by assumption) k | exact nx_rnde k | exact nx_rndr k | exact nx_rndq (by assumption) k)
  | ((with_reducible refine nx_rngid ?_); first | exact nx_rng (by assumption) k | exact nx_rngj k | exact nx_rngp k)) : g := h k
theorem nc {g g1 g2 : Prop} (k1 : g1) (k2 : g2) (h : g1 → g2 → g := by
  intro k1 k2
  first
  | ((with_reducible refine vl_id ?_); (fail_if_success (refine vs_lit ?_)); first | exact vs_case k1 k2 | exact vs_caseb k1 k2)
  | ((with_reducible refine vw_cid ?_); first | exact vw_cp k1 k2 | exact vw_cb k1 k2)) : g := h k1 k2
theorem nd {g g1 g2 : Prop} (k1 : g1) (k2 : g2) (h : g1 → g2 → g := by
  intro k1 k2
  (with_reducible refine vd_id ?_); (fail_if_success (refine vd_lit ?_)); exact vd_case k1 k2) : g := h k1 k2
theorem isRet {P : Program} {f : FuncId} {ds : List D} {d : D} {g : Prop} (_ : VP P f ds (· = .ret d)) (h : g) : g := h
theorem isOwn {P : Program} {f : FuncId} {ds : List D} {e : TypeId} {sz : Nat} {l : List (List D)} {g : Prop} (_ : VP P f ds (· = .own e sz l)) (h : g) : g := h
theorem isPan {P : Program} {f : FuncId} {ds : List D} {d : D} {g : Prop} (_ : VP P f ds (· = .panic d)) (h : g) : g := h
theorem cz {g g' : Prop} {P : Program} {f : FuncId} {ds : List D} {post : R → Prop} (c : VP P f ds post) (k : g') (h : VP P f ds post → g' → g := by
  intro c k
  first
  | ((with_reducible refine vl_id ?_); refine vq_l c ?_
     first
     | ((with_reducible refine isRet c ?_); first | exact vs_call c k (h := sc_ret) | exact vs_call c k (h := sc_lent))
     | ((with_reducible refine isOwn c ?_); first | exact vs_call c k (h := sc_own) | exact vs_call c k (h := sc_lento))
     | ((with_reducible refine isPan c ?_); first | exact vs_pan c k | exact vs_lentp c k)
     | exact vs_call c k)
  | ((with_reducible refine vd_id ?_); refine vq_d c ?_
     first
     | ((with_reducible refine isRet c ?_); first | exact vd_ret c k | exact vd_lent c k)
     | ((with_reducible refine isOwn c ?_); first | exact vd_ownp c k | exact vd_own c k | exact vd_lent c k)
     | exact vd_ret c k)) : g := h c k
theorem sub_z {cx : Cx} {tm tm' : List (Nat × V)} {st st' : List E} {nb nb' : Nat} (h1 : TmR nb' [] st tm tm' := by ((repeat' (first | exact trivial | exact rle_nil | refine rle_cons ?_ ?_ | exact rle_any | exact rle_dd | exact rle_ptr rfl | exact rle_row rfl rfl | exact rle_rowk rfl rfl | refine rle_agg ?_ | refine rle_tup ?_ | refine rle_ifc ?_ | refine rle_fn ?_ ?_ | exact rle_po | exact rle_pof | exact rle_ep | exact rle_sv rfl | exact rle_yl rfl | refine ⟨⟨rfl, _, rfl, ?_⟩, ?_⟩ | exact rle_d rfl (by infer_instance) | refine ⟨⟨_, rfl, ?_⟩, ?_⟩ | refine ⟨⟨rfl, .inl ⟨rfl, _, _, rfl, rfl⟩⟩, ?_⟩ | refine ⟨⟨rfl, .inr ⟨rfl, rfl, rfl⟩⟩, ?_⟩ | refine ⟨⟨rfl, _, rfl, ?_⟩, ?_⟩ | refine ⟨?_, ?_⟩)); fail_if_success (focus skip))) (h2 : EntR nb' [] st st' := by ((repeat' (first | exact trivial | exact rle_nil | refine rle_cons ?_ ?_ | exact rle_any | exact rle_dd | exact rle_ptr rfl | exact rle_row rfl rfl | exact rle_rowk rfl rfl | refine rle_agg ?_ | refine rle_tup ?_ | refine rle_ifc ?_ | refine rle_fn ?_ ?_ | exact rle_po | exact rle_pof | exact rle_ep | exact rle_sv rfl | exact rle_yl rfl | refine ⟨⟨rfl, _, rfl, ?_⟩, ?_⟩ | exact rle_d rfl (by infer_instance) | refine ⟨⟨_, rfl, ?_⟩, ?_⟩ | refine ⟨⟨rfl, .inl ⟨rfl, _, _, rfl, rfl⟩⟩, ?_⟩ | refine ⟨⟨rfl, .inr ⟨rfl, rfl, rfl⟩⟩, ?_⟩ | refine ⟨⟨rfl, _, rfl, ?_⟩, ?_⟩ | refine ⟨?_, ?_⟩)); fail_if_success (focus skip))) (hd : DfR nb' [] st cx.df := by ((repeat' (first | exact trivial | exact rle_nil | refine rle_cons ?_ ?_ | exact rle_any | exact rle_dd | exact rle_ptr rfl | exact rle_row rfl rfl | exact rle_rowk rfl rfl | refine rle_agg ?_ | refine rle_tup ?_ | refine rle_ifc ?_ | refine rle_fn ?_ ?_ | exact rle_po | exact rle_pof | exact rle_ep | exact rle_sv rfl | exact rle_yl rfl | refine ⟨⟨rfl, _, rfl, ?_⟩, ?_⟩ | exact rle_d rfl (by infer_instance) | refine ⟨⟨_, rfl, ?_⟩, ?_⟩ | refine ⟨⟨rfl, .inl ⟨rfl, _, _, rfl, rfl⟩⟩, ?_⟩ | refine ⟨⟨rfl, .inr ⟨rfl, rfl, rfl⟩⟩, ?_⟩ | refine ⟨⟨rfl, _, rfl, ?_⟩, ?_⟩ | refine ⟨?_, ?_⟩)); fail_if_success (focus skip))) (hρ : renOk cx.m [] = true := by rfl) (h3 : Nat.ble cx.m nb' = true := by rfl) : Sub cx ⟨tm, st, nb⟩ ⟨tm', st', nb'⟩ := sub_ren [] h1 h2 hd hρ h3
theorem sub_zr {cx : Cx} {tm tm' : List (Nat × V)} {st st' : List E} {nb nb' : Nat} (ρ : Ren) (h1 : TmR nb' ρ st tm tm' := by ((repeat' (first | exact trivial | exact rle_nil | refine rle_cons ?_ ?_ | exact rle_any | exact rle_dd | exact rle_ptr rfl | exact rle_row rfl rfl | exact rle_rowk rfl rfl | refine rle_agg ?_ | refine rle_tup ?_ | refine rle_ifc ?_ | refine rle_fn ?_ ?_ | exact rle_po | exact rle_pof | exact rle_ep | exact rle_sv rfl | exact rle_yl rfl | refine ⟨⟨rfl, _, rfl, ?_⟩, ?_⟩ | exact rle_d rfl (by infer_instance) | refine ⟨⟨_, rfl, ?_⟩, ?_⟩ | refine ⟨⟨rfl, .inl ⟨rfl, _, _, rfl, rfl⟩⟩, ?_⟩ | refine ⟨⟨rfl, .inr ⟨rfl, rfl, rfl⟩⟩, ?_⟩ | refine ⟨⟨rfl, _, rfl, ?_⟩, ?_⟩ | refine ⟨?_, ?_⟩)); fail_if_success (focus skip))) (h2 : EntR nb' ρ st st' := by ((repeat' (first | exact trivial | exact rle_nil | refine rle_cons ?_ ?_ | exact rle_any | exact rle_dd | exact rle_ptr rfl | exact rle_row rfl rfl | exact rle_rowk rfl rfl | refine rle_agg ?_ | refine rle_tup ?_ | refine rle_ifc ?_ | refine rle_fn ?_ ?_ | exact rle_po | exact rle_pof | exact rle_ep | exact rle_sv rfl | exact rle_yl rfl | refine ⟨⟨rfl, _, rfl, ?_⟩, ?_⟩ | exact rle_d rfl (by infer_instance) | refine ⟨⟨_, rfl, ?_⟩, ?_⟩ | refine ⟨⟨rfl, .inl ⟨rfl, _, _, rfl, rfl⟩⟩, ?_⟩ | refine ⟨⟨rfl, .inr ⟨rfl, rfl, rfl⟩⟩, ?_⟩ | refine ⟨⟨rfl, _, rfl, ?_⟩, ?_⟩ | refine ⟨?_, ?_⟩)); fail_if_success (focus skip))) (hd : DfR nb' ρ st cx.df := by ((repeat' (first | exact trivial | exact rle_nil | refine rle_cons ?_ ?_ | exact rle_any | exact rle_dd | exact rle_ptr rfl | exact rle_row rfl rfl | exact rle_rowk rfl rfl | refine rle_agg ?_ | refine rle_tup ?_ | refine rle_ifc ?_ | refine rle_fn ?_ ?_ | exact rle_po | exact rle_pof | exact rle_ep | exact rle_sv rfl | exact rle_yl rfl | refine ⟨⟨rfl, _, rfl, ?_⟩, ?_⟩ | exact rle_d rfl (by infer_instance) | refine ⟨⟨_, rfl, ?_⟩, ?_⟩ | refine ⟨⟨rfl, .inl ⟨rfl, _, _, rfl, rfl⟩⟩, ?_⟩ | refine ⟨⟨rfl, .inr ⟨rfl, rfl, rfl⟩⟩, ?_⟩ | refine ⟨⟨rfl, _, rfl, ?_⟩, ?_⟩ | refine ⟨?_, ?_⟩)); fail_if_success (focus skip))) (hρ : renOk cx.m ρ = true := by first | rfl | decide) (h3 : Nat.ble cx.m nb' = true := by rfl) : Sub cx ⟨tm, st, nb⟩ ⟨tm', st', nb'⟩ := sub_ren ρ h1 h2 hd hρ h3
end Go.Proofs.YtnjaohdadaifhaaGreat

namespace Go.Proofs.YtnjaohdadaifhaaGreat
set_option maxRecDepth 20000
open Go.RowKit
theorem VM.sub1 {P : Program} {f : FuncId} {m : Nat} {vs : List V} {st : List E} {nb nb' : Nat} {r : RC} {st' : List E} (h : VM P f m vs st nb (subK m r st' nb')) : VM1 P f m vs st nb r st' nb' := fun B => by
  have hv := h B
  refine ⟨hv.1, fun g w us h1 h2 h3 => (hv.2 g w us h1 h2 h3).mono ?_⟩
  rintro e w' ⟨g1, st1, nb1, r1, k1, k2, k3, k4, k5, k6⟩
  obtain ⟨g2, q1, q2, q3, q4, q5⟩ := k5 B g1 w' e k2 k3 k4
  exact ⟨g2, st', nb', r, k1.trans2 q1, q2, q3, q4, ⟨rfl, rfl, rfl⟩, q5⟩
section
variable {P : Program} {cx : Cx} {Q : VE → St → Prop} {tm : List (Nat × V)} {st : List E} {nb : Nat}
theorem vw_frz {c : Code} {nw : Bool} {ver : Nat} {e : TypeId} {sz : Nat} {l : List (List D)} (k : Nat) (hr : rowAt k st = some (true, nw, ver, e, sz, l)) (h : VW P cx c ⟨tm, .r false nw k ver e sz l :: st, nb⟩ Q) : VW P cx c ⟨tm, st, nb⟩ Q := fun n g0 w0 g a w hE hS => by
  obtain ⟨g', h1, h2, h3⟩ := freeze_row hS.inv hS.st hr
  exact h n g0 w0 g' a w (hE.trans h1) (hS.same h1 h2 h3)
end
end Go.Proofs.YtnjaohdadaifhaaGreat
