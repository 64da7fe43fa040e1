/- Walks by data and names, part 24: Memory that may be spoilt: what a call answers in new memory alone; and what is left when bytes of it have been written over. Operations on memory that may be spoilt, and calls. Functions by number: a function's walk, and a call walked where it stands, with no more than its number. -/
import Derived.Test.YtbgcjnfhadhjeaaGreatPk22
import Derived.Test.YtbgcjnfhadhjeaaGreatPk16
import Derived.Test.YtbgcjnfhadhjeaaGreatPk19
namespace Go.Proofs.YtbgcjnfhadhjeaaGreat
set_option maxRecDepth 20000
open Go.RowKit
theorem LW : ∀ {l m : List D}, BY l m → m.length = l.length
 | [], _, h => by simp only [BY] at h; subst h; rfl
 | _ :: _, _, h => by simp only [BY] at h; obtain ⟨y, ys, rfl, _, k⟩ := h; simp [LW k]
theorem J2 : ∀ {l m : List (List D)}, BC l m → m.length = l.length
 | [], _, h => by simp only [BC] at h; subst h; rfl
 | _ :: _, _, h => by simp only [BC] at h; obtain ⟨y, ys, rfl, _, k⟩ := h; simp [J2 k]
theorem LV {sz : Nat} : ∀ {l m : List (List D)}, BC l m → (∀ x ∈ l, x.length = sz) → ∀ x ∈ m, x.length = sz
 | [], _, h, _ => by simp only [BC] at h; subst h; simp
 | x :: xs, _, h, k => by
  simp only [BC] at h
  obtain ⟨y, ys, rfl, h1, h2⟩ := h
  intro z hz
  rcases List.mem_cons.1 hz with rfl | hz
  ·rw [LW h1]; exact k x (by simp)
  ·exact LV h2 (fun a ha => k a (by simp [ha])) z hz
mutual
theorem Ho : ∀ {x y z : D}, A8 x y → A8 y z → A8 x z
 | .lit u, _, _, h, k => by
  simp only [A8] at h; obtain ⟨v, rfl, h⟩ := h
  simp only [A8] at k ⊢; obtain ⟨v', rfl, k⟩ := k
  refine ⟨v', rfl, ?_⟩
  rcases h with rfl | ⟨h1, h2⟩
  ·exact k
  ·rcases k with rfl | ⟨k1, k2⟩
   ·exact .inr ⟨h1, h2⟩
   ·exact .inr ⟨h1, k2⟩
 | .agg l, _, _, h, k => by
  simp only [A8] at h; obtain ⟨m, rfl, h⟩ := h
  simp only [A8] at k ⊢; obtain ⟨n, rfl, k⟩ := k
  exact ⟨n, rfl, CA h k⟩
 | .tup l, _, _, h, k => by
  simp only [A8] at h; obtain ⟨m, rfl, h⟩ := h
  simp only [A8] at k ⊢; obtain ⟨n, rfl, k⟩ := k
  exact ⟨n, rfl, CA h k⟩
 | .sl c f l, _, _, h, k => by
  simp only [A8] at h; obtain ⟨m, rfl, h⟩ := h
  simp only [A8] at k ⊢; obtain ⟨n, rfl, k⟩ := k
  exact ⟨n, rfl, Ib h k⟩
 | .ifc t x, _, _, h, k => by
  simp only [A8] at h; obtain ⟨m, rfl, h⟩ := h
  simp only [A8] at k ⊢; obtain ⟨n, rfl, k⟩ := k
  exact ⟨n, rfl, Ho h k⟩
 | .pt l, _, _, h, k => by
  simp only [A8] at h; obtain ⟨m, rfl, h⟩ := h
  simp only [A8] at k ⊢; obtain ⟨n, rfl, k⟩ := k
  exact ⟨n, rfl, CA h k⟩
 | .fn f a c, _, _, h, k => by
  simp only [A8] at h; obtain ⟨m, m', rfl, h, h'⟩ := h
  simp only [A8] at k ⊢; obtain ⟨n, n', rfl, k, k'⟩ := k
  exact ⟨n, n', rfl, CA h k, CA h' k'⟩
 | .any, _, _, h, k => by
  simp only [A8] at h; subst h; exact k
theorem CA : ∀ {x y z : List D}, BY x y → BY y z → BY x z
 | [], _, _, h, k => by simp only [BY] at h; subst h; exact k
 | x :: xs, _, _, h, k => by
  simp only [BY] at h; obtain ⟨y, ys, rfl, h, h'⟩ := h
  simp only [BY] at k ⊢; obtain ⟨z, zs, rfl, k, k'⟩ := k
  exact ⟨z, zs, rfl, Ho h k, CA h' k'⟩
theorem Ib : ∀ {x y z : List (List D)}, BC x y → BC y z → BC x z
 | [], _, _, h, k => by simp only [BC] at h; subst h; exact k
 | x :: xs, _, _, h, k => by
  simp only [BC] at h; obtain ⟨y, ys, rfl, h, h'⟩ := h
  simp only [BC] at k ⊢; obtain ⟨z, zs, rfl, k, k'⟩ := k
  exact ⟨z, zs, rfl, CA h k, Ib h' k'⟩
end
theorem Pv {e : Bool} {x y z : D} (h : Hn e x y) (k : A8 y z) : A8 x z := by
 cases e with
 | true => simp only [Hn] at h; subst h; exact k
 | false => exact Ho h k
section
variable {B : Nat} {g : G} {w : World}
end
def SR : List Value → List Value → Prop
 | [], m => m = []
 | x :: xs, m => ∃ y ys, m = y :: ys ∧ (y = x ∨ Mi x = true ∧ Mi y = true) ∧ SR xs ys
theorem Hm : ∀ (l : List Value), SR l l
 | [] => rfl
 | x :: xs => ⟨x, xs, rfl, .inl rfl, Hm xs⟩
theorem Nc : ∀ {a b m : List Value}, SR (a ++ b) m → ∃ a' b', m = a' ++ b' ∧ SR a a' ∧ SR b b'
 | [], b, m, h => ⟨[], m, rfl, rfl, h⟩
 | x :: xs, b, m, ⟨y, ys, e, h1, h2⟩ => by
  obtain ⟨a', b', e', k1, k2⟩ := Nc h2
  subst e; subst e'
  exact ⟨y :: a', b', rfl, ⟨y, a', rfl, h1, k1⟩, k2⟩
theorem Zk {u : Value} (h : Mi u = true) : u.oneCell' = true := by
 unfold Mi at h; split at h
 ·rfl
 ·cases h
theorem Sa : ∀ {l m : List Value}, SR l m → (∀ u ∈ l, u.oneCell' = true) → ∀ u ∈ m, u.oneCell' = true
 | [], _, h, _ => by simp only [SR] at h; subst h; simp
 | x :: xs, _, ⟨y, ys, e, h1, h2⟩, h => by
  subst e
  intro u hu
  rcases List.mem_cons.1 hu with rfl | hu
  ·rcases h1 with rfl | ⟨_, h1⟩
   ·exact h _ (by simp)
   ·exact Zk h1
  ·exact Sa h2 (fun a ha => h a (by simp [ha])) u hu
theorem Wg {Pc : Nat → Value → Prop} : ∀ {cs : List Value} {off : Nat}, (∀ (j : Nat) u, cs[j]? = some u → ∃ v, (v = u ∨ Mi u = true ∧ Mi v = true) ∧ Pc (off + j) v) → ∃ cs', SR cs cs' ∧ ∀ (j : Nat) v, cs'[j]? = some v → Pc (off + j) v
 | [], _, _ => ⟨[], rfl, fun j v h => by simp at h⟩
 | x :: xs, off, h => by
  obtain ⟨v, h1, h2⟩ := h 0 x rfl
  obtain ⟨vs, k1, k2⟩ := Wg (Pc := Pc) (cs := xs) (off := off + 1) fun j u hj => by
   obtain ⟨v, m1, m2⟩ := h (j + 1) u (by simpa using hj)
   exact ⟨v, m1, by rw [show off + 1 + j = off + (j + 1) by omega]; exact m2⟩
  refine ⟨v :: vs, ⟨v, vs, rfl, h1, k1⟩, fun j u hj => ?_⟩
  cases j with
  | zero => simp at hj; subst hj; exact h2
  | succ j => have := k2 j u (by simpa using hj); rwa [show off + 1 + j = off + (j + 1) by omega] at this
section
variable {B : Nat} {p p' : Nat → Prop} {w w' : World}
theorem SV.blur {b : Nat} (h : SV w b) (hb : Hp w.heap[b]? w'.heap[b]?) : SV w' b := fun cs t fz hc => by
 rcases hb with hb | ⟨us, us', t', fz', e1, e2, _⟩
 ·exact h cs t fz (hb ▸ hc)
 ·rw [e2] at hc; cases hc; exact h _ _ _ e1
theorem At.blur (hb : ∀ b, p b → b < w.heap.size → Hp w.heap[b]? w'.heap[b]? ∧ p' b) {f : Bool} {a : Option Addr} {cs : List Value} (h : At (Nw B p w f) w a cs) : ∃ cs', SR cs cs' ∧ At (Nw B p' w' f) w' a cs' := by
 obtain ⟨cs', h1, h2⟩ := Wg (Pc := fun j v => ∃ b o, a = some ⟨b, o, none⟩ ∧ Nw B p' w' f b ∧ w'.cell? ⟨b, o + j, none⟩ = some v) (cs := cs) (off := 0) fun j u hj => by
  obtain ⟨b, o, rfl, hp, hc⟩ := h j u hj
  have hlt := World.block_lt_of_cell? w _ hc
  obtain ⟨hx, hp'⟩ := hb b hp.1 hlt
  have hN : Nw B p' w' f b := ⟨hp', fun hf => ⟨(hp.2 hf).1, (hp.2 hf).2.blur hx⟩⟩
  rcases hx with hx | ⟨us, us', t, fz, e1, e2, _, hx⟩
  ·exact ⟨u, .inl rfl, b, o, rfl, hN, by rw [Nat.zero_add]; exact (World.cell?_of_block hx).trans hc⟩
  ·rw [cell_of_row w b _ us t fz e1] at hc
   obtain ⟨v, hv, hx⟩ := hx _ _ hc
   exact ⟨v, hx, b, o, rfl, hN, by rw [Nat.zero_add, cell_of_row w' b _ us' t fz e2]; exact hv⟩
 exact ⟨cs', h1, fun j u hj => by have := h2 j u hj; rwa [Nat.zero_add] at this⟩
mutual
theorem JJ (hb : ∀ b, p b → b < w.heap.size → Hp w.heap[b]? w'.heap[b]? ∧ p' b) : ∀ {x : D} {u u' : Value}, drep B p w x u → (u' = u ∨ Mi u = true ∧ Mi u' = true) → ∃ y, A8 x y ∧ drep B p' w' y u'
 | .lit v, u, u', h, hu => by
  simp only [drep] at h; subst h
  exact ⟨.lit u', by simp only [A8]; exact ⟨u', rfl, hu⟩, by simp only [drep]⟩
 | .agg l, u, u', h, hu => by
  simp only [drep] at h; obtain ⟨cs, rfl, k⟩ := h
  rcases hu with rfl | ⟨hu, _⟩
  ·obtain ⟨m, h1, h2⟩ := DJ hb k (Hm _)
   exact ⟨.agg m, by simp only [A8]; exact ⟨m, rfl, h1⟩, by simp only [drep]; exact ⟨_, rfl, h2⟩⟩
  ·simp [Mi] at hu
 | .tup l, u, u', h, hu => by
  simp only [drep] at h; obtain ⟨cs, rfl, k⟩ := h
  rcases hu with rfl | ⟨hu, _⟩
  ·obtain ⟨m, h1, h2⟩ := DJ hb k (Hm _)
   exact ⟨.tup m, by simp only [A8]; exact ⟨m, rfl, h1⟩, by simp only [drep]; exact ⟨_, rfl, h2⟩⟩
  ·simp [Mi] at hu
 | .sl c f l, u, u', h, hu => by
  simp only [drep] at h; obtain ⟨a, cap, cs, rfl, e2, e3, e4, e5, ⟨sz, e6⟩, e0, e7, e8⟩ := h
  rcases hu with rfl | ⟨hu, _⟩
  ·obtain ⟨cs', q1, q2⟩ := e7.blur hb
   obtain ⟨m, h1, h2⟩ := J0 hb e8 q1
   have hl := J2 h1
   refine ⟨.sl c f m, by simp only [A8]; exact ⟨m, rfl, h1⟩, ?_⟩
   simp only [drep]
   exact ⟨a, cap, cs', by rw [hl], by rw [hl]; exact e2, e3, by rw [hl]; exact e4, e5, ⟨sz, LV h1 e6⟩, Sa q1 e0, q2, h2⟩
  ·simp [Mi] at hu
 | .ifc t x, u, u', h, hu => by
  simp only [drep] at h; obtain ⟨z, rfl, k⟩ := h
  rcases hu with rfl | ⟨hu, _⟩
  ·obtain ⟨m, h1, h2⟩ := JJ hb k (.inl rfl)
   exact ⟨.ifc t m, by simp only [A8]; exact ⟨m, rfl, h1⟩, by simp only [drep]; exact ⟨_, rfl, h2⟩⟩
  ·simp [Mi] at hu
 | .pt l, u, u', h, hu => by
  simp only [drep] at h; obtain ⟨b, o, cs, rfl, k1, k2⟩ := h
  rcases hu with rfl | ⟨hu, _⟩
  ·obtain ⟨cs', q1, q2⟩ := At.blur (B := B) (f := false) hb (k1.imp fun b h => ⟨h.1, fun h => by cases h⟩)
   obtain ⟨m, h1, h2⟩ := DJ hb k2 q1
   exact ⟨.pt m, by simp only [A8]; exact ⟨m, rfl, h1⟩, by simp only [drep]; exact ⟨b, o, cs', rfl, q2.imp fun b h => ⟨h.1, trivial⟩, h2⟩⟩
  ·simp [Mi] at hu
 | .fn f fi ca, u, u', h, hu => by
  simp only [drep] at h; obtain ⟨xs, ys, rfl, k1, k2⟩ := h
  rcases hu with rfl | ⟨hu, _⟩
  ·obtain ⟨m, h1, h2⟩ := DJ hb k1 (Hm _)
   obtain ⟨m', h1', h2'⟩ := DJ hb k2 (Hm _)
   exact ⟨.fn f m m', by simp only [A8]; exact ⟨m, m', rfl, h1, h1'⟩, by simp only [drep]; exact ⟨_, _, rfl, h2, h2'⟩⟩
  ·simp [Mi] at hu
 | .any, u, u', h, hu => ⟨.any, by simp only [A8], by simp only [drep]⟩
theorem DJ (hb : ∀ b, p b → b < w.heap.size → Hp w.heap[b]? w'.heap[b]? ∧ p' b) : ∀ {l : List D} {us us' : List Value}, dreps B p w l us → SR us us' → ∃ m, BY l m ∧ dreps B p' w' m us'
 | [], us, us', h, hu => by
  simp only [dreps] at h; subst h
  simp only [SR] at hu; subst hu
  exact ⟨[], by simp only [BY], by simp only [dreps]⟩
 | x :: xs, us, us', h, hu => by
  simp only [dreps] at h; obtain ⟨c, cs, rfl, k1, k2⟩ := h
  obtain ⟨v, vs, rfl, q1, q2⟩ := hu
  obtain ⟨y, h1, h2⟩ := JJ hb k1 q1
  obtain ⟨ys, h1', h2'⟩ := DJ hb k2 q2
  exact ⟨y :: ys, by simp only [BY]; exact ⟨y, ys, rfl, h1, h1'⟩, by simp only [dreps]; exact ⟨v, vs, rfl, h2, h2'⟩⟩
theorem J0 (hb : ∀ b, p b → b < w.heap.size → Hp w.heap[b]? w'.heap[b]? ∧ p' b) : ∀ {l : List (List D)} {us us' : List Value}, drepss B p w l us → SR us us' → ∃ m, BC l m ∧ drepss B p' w' m us'
 | [], us, us', h, hu => by
  simp only [drepss] at h; subst h
  simp only [SR] at hu; subst hu
  exact ⟨[], by simp only [BC], by simp only [drepss]⟩
 | x :: xs, us, us', h, hu => by
  simp only [drepss] at h; obtain ⟨c1, c2, rfl, k1, k2⟩ := h
  obtain ⟨v1, v2, rfl, q1, q2⟩ := Nc hu
  obtain ⟨y, h1, h2⟩ := DJ hb k1 q1
  obtain ⟨ys, h1', h2'⟩ := J0 hb k2 q2
  exact ⟨y :: ys, by simp only [BC]; exact ⟨y, ys, rfl, h1, h1'⟩, by simp only [drepss]; exact ⟨v1, v2, rfl, h2, h2'⟩⟩
end
end
mutual
def DS : V → V
 | .po _ x => .po false x
 | .agg l => .agg (Fo l)
 | .tup l => .tup (Fo l)
 | .ifc t x => .ifc t (DS x)
 | .fn f a c => .fn f (Fo a) (Fo c)
 | v => v
def Fo : List V → List V
 | [] => []
 | x :: xs => DS x :: Fo xs
end
def LU : List (Nat × V) → List (Nat × V)
 | [] => []
 | (t, v) :: r => (t, DS v) :: LU r
def D5 : List E → List E
 | [] => []
 | .c k off vs :: r => .c k off (Fo vs) :: D5 r
 | .r o nw k ver e sz l :: r => .r o nw k ver e sz l :: D5 r
 | .y k lp T tm :: r => .y k lp T (LU tm) :: D5 r
theorem LT : ∀ {l : List V}, Fo l = l.map DS
 | [] => rfl
 | x :: xs => by simp [Fo, LT (l := xs)]
theorem Il {t : Nat} : ∀ {tm : List (Nat × V)} {v : V}, AE t (LU tm) = some v → ∃ v0, AE t tm = some v0 ∧ v = DS v0
 | [], _, h => by simp [LU, AE] at h
 | (t', v') :: r, v, h => by
  simp only [LU, AE] at h ⊢
  split at h
  ·cases h; exact ⟨v', by simp, rfl⟩
  ·exact Il h
theorem DR {k off : Nat} : ∀ {st : List E} {v : V}, Ap k off (D5 st) = some v → ∃ v0, Ap k off st = some v0 ∧ v = DS v0
 | [], _, h => by simp [D5, Ap] at h
 | .c k' o' vs :: r, v, h => by
  simp only [D5, Ap] at h ⊢
  split at h
  ·split at h
   ·rw [LT, List.getElem?_map] at h
    split at h
    ·rename_i x hx
     cases h
     obtain ⟨x0, h1, h2⟩ := Option.map_eq_some_iff.1 hx
     exact ⟨x0, by rw [h1], h2.symm⟩
    ·rename_i hx
     rw [Option.map_eq_none_iff] at hx
     rw [hx]
     exact DR h
   ·exact DR h
  ·exact DR h
 | .r _ _ _ _ _ _ _ :: r, v, h => by simp only [D5, Ap] at h ⊢; exact DR h
 | .y _ _ _ _ :: r, v, h => by simp only [D5, Ap] at h ⊢; exact DR h
theorem Gp {k : Nat} : ∀ {st : List E}, AB k (D5 st) = AB k st
 | [] => rfl
 | .c k' o' vs :: r => by simp only [D5, AB]; exact Gp
 | .r _ _ _ _ _ _ _ :: r => by simp only [D5, AB]; split <;> first | rfl | exact Gp
 | .y _ _ _ _ :: r => by simp only [D5, AB]; exact Gp
theorem FA {k : Nat} : ∀ {st : List E} {r : Option Loop} {T : Array Value} {tm : List (Nat × V)}, Au k (D5 st) = some (r, T, tm) → ∃ tm0, Au k st = some (r, T, tm0) ∧ tm = LU tm0
 | [], _, _, _, h => by simp [D5, Au] at h
 | .c k' o' vs :: r, _, _, _, h => by simp only [D5, Au] at h ⊢; exact FA h
 | .r _ _ _ _ _ _ _ :: r, _, _, _, h => by simp only [D5, Au] at h ⊢; exact FA h
 | .y k' r' T' tm' :: s, _, _, _, h => by
  simp only [D5, Au] at h ⊢
  split at h
  ·cases h; exact ⟨tm', rfl, rfl⟩
  ·exact FA h
structure CB (g : G) (w w' : World) : Prop where
 os : w'.os = w.os
 tape : w'.tape = w.tape
 output : w'.output = w.output
 size : w.heap.size ≤ w'.heap.size
 blk : ∀ b, b < w.heap.size → ¬ g.pl b → w'.heap[b]? = w.heap[b]?
 blur : ∀ b, g.pl b → b < w.heap.size → Hp w.heap[b]? w'.heap[b]?
section
variable {B nb : Nat} {g : G} {w w' : World}
theorem HE {b : Nat} (h : g.prot b) : ¬ g.pl b := fun k => h (.inl (g.plex b k))
mutual
theorem CB.vrep (h : CB g w w') : ∀ {v : V} {u : Value}, vrep B g w v u → vrep B g w' (DS v) u
 | .d x, _, k => by simp only [DS, Go.Proofs.YtbgcjnfhadhjeaaGreat.vrep] at k ⊢; exact A7 (Nat.le_refl _) (fun b hb hp => ⟨hp, h.blk b hb (HE hp)⟩) k
 | .agg l, _, k => by simp only [DS, Go.Proofs.YtbgcjnfhadhjeaaGreat.vrep] at k ⊢; obtain ⟨cs, e, k⟩ := k; exact ⟨cs, e, CB.vreps h k⟩
 | .tup l, _, k => by simp only [DS, Go.Proofs.YtbgcjnfhadhjeaaGreat.vrep] at k ⊢; obtain ⟨cs, e, k⟩ := k; exact ⟨cs, e, CB.vreps h k⟩
 | .ptr _ _, _, k => by simp only [DS, Go.Proofs.YtbgcjnfhadhjeaaGreat.vrep] at k ⊢; exact k
 | .ep l, _, k => by
  simp only [DS, Go.Proofs.YtbgcjnfhadhjeaaGreat.vrep] at k ⊢
  obtain ⟨b, o, cs, e, k1, k2⟩ := k
  exact ⟨b, o, cs, e, k1.mono fun b hb hp => ⟨hp, h.blk b hb (HE hp)⟩, Fm (Nat.le_refl _) (fun b hb hp => ⟨hp, h.blk b hb (HE hp)⟩) k2⟩
 | .row _ _, _, k => by simp only [DS, Go.Proofs.YtbgcjnfhadhjeaaGreat.vrep] at k ⊢; exact k
 | .rp _ _ _ _ _, _, k => by simp only [DS, Go.Proofs.YtbgcjnfhadhjeaaGreat.vrep] at k ⊢; exact k
 | .fn _ _ _, _, k => by simp only [DS, Go.Proofs.YtbgcjnfhadhjeaaGreat.vrep] at k ⊢; obtain ⟨xs, ys, e, k1, k2⟩ := k; exact ⟨xs, ys, e, CB.vreps h k1, CB.vreps h k2⟩
 | .ifc t x, _, k => by simp only [DS, Go.Proofs.YtbgcjnfhadhjeaaGreat.vrep] at k ⊢; obtain ⟨y, e, k⟩ := k; exact ⟨y, e, CB.vrep h k⟩
 | .sv _ _ _ _ _, _, k => by simp only [DS, Go.Proofs.YtbgcjnfhadhjeaaGreat.vrep] at k ⊢; exact k
 | .yl _, _, k => by simp only [DS, Go.Proofs.YtbgcjnfhadhjeaaGreat.vrep] at k ⊢; exact k
 | .rv _ _ _, _, k => by simp only [DS, Go.Proofs.YtbgcjnfhadhjeaaGreat.vrep] at k ⊢; exact k
 | .po e x, u, k => by
  simp only [DS, Go.Proofs.YtbgcjnfhadhjeaaGreat.vrep] at k ⊢
  obtain ⟨y, e, k⟩ := k
  obtain ⟨z, h1, h2⟩ := JJ (p' := fun b => g.pl b ∧ SV w' b) (fun b hp hlt => ⟨h.blur b hp.1 hlt, hp.1, hp.2.blur (h.blur b hp.1 hlt)⟩) k (.inl rfl)
  exact ⟨z, Pv e h1, h2⟩
theorem CB.vreps (h : CB g w w') : ∀ {v : List V} {u : List Value}, vreps B g w v u → vreps B g w' (Fo v) u
 | [], _, k => by simp only [Fo, Go.Proofs.YtbgcjnfhadhjeaaGreat.vreps] at k ⊢; exact k
 | x :: xs, _, k => by simp only [Fo, Go.Proofs.YtbgcjnfhadhjeaaGreat.vreps] at k ⊢; obtain ⟨y, ys, e, k1, k2⟩ := k; exact ⟨y, ys, e, CB.vrep h k1, CB.vreps h k2⟩
end
theorem CB.simS (h : CB g w w') (hi : Cs B nb g w) {st : List E} (hs : AG B g w st) : AG B g w' (D5 st) := by
 refine ⟨fun {k off v} hc => ?_, fun {k o nw ver e sz l} hr => ?_, fun {k r T tm} hl => ?_⟩
 ·obtain ⟨v0, hc0, rfl⟩ := DR hc
  obtain ⟨b, rcs, ty, u, h1, h2, h3, h4⟩ := hs.cell hc0
  exact ⟨b, rcs, ty, u, h1, (h.blk b (hi.bxlt h1).1 fun hp => hi.exbx h1 (g.plex b hp)).trans h2, h3, h.vrep h4⟩
 ·rw [Gp] at hr
  obtain ⟨v, xs, r1, r2, r3, r4, r5⟩ := hs.row hr
  have hm : ∀ b, b < w.heap.size → g.prot b → g.prot b ∧ w'.heap[b]? = w.heap[b]? := fun b hb hp => ⟨hp, h.blk b hb (HE hp)⟩
  refine ⟨v, xs, r1, AL (Nat.le_refl _) hm r2, r3, r4, ?_⟩
  rcases r5 with ⟨e1, e2, e3⟩ | ⟨e1, e2, e3⟩
  ·refine .inl ⟨e1, ⟨e2.1, ?_⟩, e3⟩
   rcases e2.2 with h5 | ⟨gb, cap, cur, hv, hb, hh, rest⟩
   ·exact .inl h5
   ·have hgb : g.rb k = some gb := by rw [e3, hv]; rfl
    exact .inr ⟨gb, cap, cur, hv, hb, (h.blk gb (hi.rblt hgb).1 fun hp => hi.exrb hgb (g.plex gb hp)).trans hh, rest⟩
  ·exact .inr ⟨e1, e2, A7 (Nat.le_refl _) hm e3⟩
 ·obtain ⟨tm0, hl0, rfl⟩ := FA hl
  obtain ⟨h1, h2⟩ := hs.loop hl0
  refine ⟨fun lp e => let ⟨b, m1, m2⟩ := h1 lp e; ⟨b, m1, (h.blk b (hi.bxlt m1).1 fun hp => hi.exbx m1 (g.plex b hp)).trans m2⟩, fun {t v} ht => ?_⟩
  obtain ⟨v0, ht0, rfl⟩ := Il ht
  exact h.vrep (h2 ht0)
theorem CB.inv (h : CB g w w') (hi : Cs B nb g w) : Cs B nb g w' := hi.evo h.size
theorem CB.sim {cx : Cx} {a : Act} {s : St} (h : CB g w w') (hdf : cx.df = []) (hS : C7 cx g a w s) : C7 cx g a w' ⟨LU s.tm, D5 s.st, s.nb⟩ := by
 refine ⟨hS.size, fun {t v} ht => ?_, h.simS hS.inv hS.st, h.inv hS.inv, ?_⟩
 ·obtain ⟨v0, ht0, rfl⟩ := Il ht
  exact h.vrep (hS.tm ht0)
 ·obtain ⟨hm, bs, r, e, hn, hb, hr⟩ := hS.defers
  rw [hdf] at hr
  refine ⟨fun m hm' => Nat.le_trans (hm m hm') h.size, bs, r, e, hn, fun b hb' => ?_, by rw [hdf]; exact hr⟩
  obtain ⟨h1, h2, h3⟩ := hb b hb'
  exact ⟨h1, h2, (h.blk b (Array.getElem?_eq_some_iff.1 h3).1 (HE h1)).trans h3⟩
theorem CB.ext {sp : Prop} {m : Nat} {g0 : G} {w0 : World} (h : CB g w w') (hsp : sp) (hE : D8 sp m g0 w0 g w) (hi : Cs B nb g w) : D8 sp m g0 w0 g w' := by
 refine ⟨h.os.trans hE.os, h.tape.trans hE.tape, h.output.trans hE.output, Nat.le_trans hE.size h.size, hE.bx, hE.rw, fun b hb hp => ?_, hE.ex, fun b hb hn => ?_, hE.pl, fun b hb hlt => ?_⟩
 ·obtain ⟨h1, h2⟩ := hE.blk b hb hp
  exact ⟨h1, (h.blk b (Nat.lt_of_lt_of_le hb hE.size) (HE h1)).trans h2⟩
 ·have hlt : b < w0.heap.size := by
   have h1 := hi.exlt (hE.ex b hb)
   have h2 := hE.exblk b hb hn
   rw [Array.getElem?_eq_getElem h1] at h2
   exact (Array.getElem?_eq_some_iff.1 h2.symm).1
  exact (h.blk b (Nat.lt_of_lt_of_le hlt hE.size) fun hp => hn ⟨hsp, (hE.pl b).2 hlt hp⟩).trans (hE.exblk b hb hn)
 ·exact J3 (hE.blur b hb hlt) (h.blur b ((hE.pl b).1 hb) (Nat.lt_of_lt_of_le hlt hE.size))
end

class Fc (P : Program) (f : FuncId) (fn : outParam Func) (N : outParam Nat) (rs : outParam (List ResultVar)) : Prop where
 get : P.funcs[f]? = some fn
 tmps : fn.ntmps = N
 res : fn.results = rs.toArray
section
variable {P : Program} {f : FuncId} {fn : Func} {N : Nat} {rs : List ResultVar} {c : Code}
theorem Am [h : Fc P f fn N rs] {ds : List D} {post : R → Prop} (k : ∀ B, VW P ⟨N, none, B, 0, some B, []⟩ c ⟨Cu 0 (ds.map .d), [], 0⟩ (Ff P rs post)) (hb : fn.body = some c := by rfl) (hle : Nat.ble ds.length N = true := by rfl) (hn : (fn.name == "runtime.NumGoroutine") = false := by kernel_rfl) : VP P f ds post := Aa0 h.get hb h.tmps hle h.res k hn
theorem Cm [h : Fc P f fn N rs] {B m : Nat} {vs : List V} {st : List E} {nb : Nat} {K : RC → List E → Nat → Prop} (k : ∀ M, VW P ⟨N, none, B, m, some M, []⟩ c ⟨Cu 0 vs, st, nb⟩ (G8 P rs (mK m K))) (hb : fn.body = some c := by rfl) (hle : Nat.ble vs.length N = true := by rfl) (hn : (fn.name == "runtime.NumGoroutine") = false := by kernel_rfl) : SU P f B m vs st nb K := PK h.get hb h.tmps h.res k hle hn
theorem Aa2 [h : Fc P f fn N rs] {m : Nat} {vs : List V} {st : List E} {nb : Nat} {K : RC → List E → Nat → Prop} (k : ∀ B M, VW P ⟨N, none, B, m, some M, []⟩ c ⟨Cu 0 vs, st, nb⟩ (G8 P rs (mK m K))) (hb : fn.body = some c := by rfl) (hle : Nat.ble vs.length N = true := by rfl) (hn : (fn.name == "runtime.NumGoroutine") = false := by kernel_rfl) : VM P f m vs st nb K := Aa1 h.get hb h.tmps h.res k hle hn
theorem AJ [h : Fc P f fn N rs] {m : Nat} {vs : List V} {st : List E} {nb nb' : Nat} {r : RC} {st' : List E} (k : ∀ B M, VW P ⟨N, none, B, m, some M, []⟩ c ⟨Cu 0 vs, st, nb⟩ (G8 P rs (mK m (Gn m r st' nb')))) (hb : fn.body = some c := by rfl) (hle : Nat.ble vs.length N = true := by rfl) (hn : (fn.name == "runtime.NumGoroutine") = false := by kernel_rfl) : C6 P f m vs st nb r st' nb' := Y9 h.get hb h.tmps h.res k hle hn
theorem Ae (f : FuncId) {fn : Func} {N : Nat} {rs : List ResultVar} {c : Code} {cx : Cx} {ops rest : List Oper} {Q : VE → St → Prop} {t : Tmp} {x : Operand} {xs : Array Operand} {tys : Array TypeId} {ty : TypeId} {pos : String} {af : Array Edge} {gd : Option (Nat × Bool)} {v : V} {vs az : List V} {tm : List (Nat × V)} {st : List E} {nb : Nat} [h : Fc P f fn N rs]
  (k : ∀ M, VW P ⟨N, none, cx.B, nb, some M, []⟩ c ⟨Cu 0 az, st, nb⟩ (G8 P rs (LN P cx ops rest t tm Q))) (hx : Af ⟨tm, st, nb⟩ x = some v := by rfl) (hv : AY ⟨tm, st, nb⟩ xs.toList = some vs := by rfl) (hf : Hi v vs = some (f, az) := by rfl) (hb : fn.body = some c := by rfl) (hle : Nat.ble az.length N = true := by rfl) (hn : (fn.name == "runtime.NumGoroutine") = false := by kernel_rfl)
  (hw : Wd ops tm gd := by first | exact trivial | exact A9 rfl rfl (by with_reducible rfl)) (ht : Nat.blt t cx.N = true := by rfl) :
  VL P cx ops (⟨some t, .call { callee := .value x, args := xs, argTypes := tys }, ty, pos, af, gd⟩ :: rest) ⟨tm, st, nb⟩ Q := Bs hx hv hf (Ym h.get hb h.tmps h.res k hle hn) hw ht
end

end Go.Proofs.YtbgcjnfhadhjeaaGreat