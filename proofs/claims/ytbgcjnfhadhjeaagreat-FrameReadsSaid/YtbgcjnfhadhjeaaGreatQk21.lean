/- Walks by data and names, part 21: Memory that may be spoilt: what a call answers in new memory alone; and what is left when bytes of it have been written over. -/
import Derived.Test.YtbgcjnfhadhjeaaGreatQk19
namespace Go.Proofs.YtbgcjnfhadhjeaaGreat
set_option maxRecDepth 20000
open Go.RowKit
theorem GQ : ∀ {l m : List D}, A0 l m → m.length = l.length
 | [], _, h => by simp only [A0] at h; subst h; rfl
 | _ :: _, _, h => by simp only [A0] at h; obtain ⟨y, ys, rfl, _, k⟩ := h; simp [GQ k]
theorem FL : ∀ {l m : List (List D)}, Bv l m → m.length = l.length
 | [], _, h => by simp only [Bv] at h; subst h; rfl
 | _ :: _, _, h => by simp only [Bv] at h; obtain ⟨y, ys, rfl, _, k⟩ := h; simp [FL k]
theorem LS {sz : Nat} : ∀ {l m : List (List D)}, Bv l m → (∀ x ∈ l, x.length = sz) → ∀ x ∈ m, x.length = sz
 | [], _, h, _ => by simp only [Bv] at h; subst h; simp
 | x :: xs, _, h, k => by
  simp only [Bv] at h
  obtain ⟨y, ys, rfl, h1, h2⟩ := h
  intro z hz
  rcases List.mem_cons.1 hz with rfl | hz
  ·rw [GQ h1]; exact k x (by simp)
  ·exact LS h2 (fun a ha => k a (by simp [ha])) z hz
theorem GR : ∀ {l m : List D}, A0 l m → ∀ {i : Nat} {x : D}, l[i]? = some x → ∃ y, m[i]? = some y ∧ AX x y
 | [], _, _, i, x, hx => by simp at hx
 | x :: xs, _, h, i, z, hx => by
  simp only [A0] at h
  obtain ⟨y, ys, rfl, h1, h2⟩ := h
  cases i with
  | zero => simp only [List.getElem?_cons_zero, Option.some.injEq] at hx; subst hx; exact ⟨y, rfl, h1⟩
  | succ i => simp only [List.getElem?_cons_succ] at hx ⊢; exact GR h2 hx
theorem J7 : ∀ {l m : List (List D)}, Bv l m → ∀ {i : Nat} {x : List D}, l[i]? = some x → ∃ y, m[i]? = some y ∧ A0 x y
 | [], _, _, i, x, hx => by simp at hx
 | x :: xs, _, h, i, z, hx => by
  simp only [Bv] at h
  obtain ⟨y, ys, rfl, h1, h2⟩ := h
  cases i with
  | zero => simp only [List.getElem?_cons_zero, Option.some.injEq] at hx; subst hx; exact ⟨y, rfl, h1⟩
  | succ i => simp only [List.getElem?_cons_succ] at hx ⊢; exact J7 h2 hx
mutual
theorem HC : ∀ {x y z : D}, AX x y → AX y z → AX x z
 | .lit u, _, _, h, k => by
  simp only [AX] at h; obtain ⟨v, rfl, h⟩ := h
  simp only [AX] at k ⊢; obtain ⟨v', rfl, k⟩ := k
  refine ⟨v', rfl, ?_⟩
  rcases h with rfl | ⟨h1, h2⟩
  ·exact k
  ·rcases k with rfl | ⟨k1, k2⟩
   ·exact .inr ⟨h1, h2⟩
   ·exact .inr ⟨h1, k2⟩
 | .agg l, _, _, h, k => by
  simp only [AX] at h; obtain ⟨m, rfl, h⟩ := h
  simp only [AX] at k ⊢; obtain ⟨n, rfl, k⟩ := k
  exact ⟨n, rfl, CV h k⟩
 | .tup l, _, _, h, k => by
  simp only [AX] at h; obtain ⟨m, rfl, h⟩ := h
  simp only [AX] at k ⊢; obtain ⟨n, rfl, k⟩ := k
  exact ⟨n, rfl, CV h k⟩
 | .sl c f l, _, _, h, k => by
  simp only [AX] at h; obtain ⟨m, rfl, h⟩ := h
  simp only [AX] at k ⊢; obtain ⟨n, rfl, k⟩ := k
  exact ⟨n, rfl, Il h k⟩
 | .ifc t x, _, _, h, k => by
  simp only [AX] at h; obtain ⟨m, rfl, h⟩ := h
  simp only [AX] at k ⊢; obtain ⟨n, rfl, k⟩ := k
  exact ⟨n, rfl, HC h k⟩
 | .pt l, _, _, h, k => by
  simp only [AX] at h; obtain ⟨m, rfl, h⟩ := h
  simp only [AX] at k ⊢; obtain ⟨n, rfl, k⟩ := k
  exact ⟨n, rfl, CV h k⟩
 | .fn f a c, _, _, h, k => by
  simp only [AX] at h; obtain ⟨m, m', rfl, h, h'⟩ := h
  simp only [AX] at k ⊢; obtain ⟨n, n', rfl, k, k'⟩ := k
  exact ⟨n, n', rfl, CV h k, CV h' k'⟩
 | .any, _, _, h, k => by
  simp only [AX] at h; subst h; exact k
theorem CV : ∀ {x y z : List D}, A0 x y → A0 y z → A0 x z
 | [], _, _, h, k => by simp only [A0] at h; subst h; exact k
 | x :: xs, _, _, h, k => by
  simp only [A0] at h; obtain ⟨y, ys, rfl, h, h'⟩ := h
  simp only [A0] at k ⊢; obtain ⟨z, zs, rfl, k, k'⟩ := k
  exact ⟨z, zs, rfl, HC h k, CV h' k'⟩
theorem Il : ∀ {x y z : List (List D)}, Bv x y → Bv y z → Bv x z
 | [], _, _, h, k => by simp only [Bv] at h; subst h; exact k
 | x :: xs, _, _, h, k => by
  simp only [Bv] at h; obtain ⟨y, ys, rfl, h, h'⟩ := h
  simp only [Bv] at k ⊢; obtain ⟨z, zs, rfl, k, k'⟩ := k
  exact ⟨z, zs, rfl, CV h k, Il h' k'⟩
end
theorem Pn {e : Bool} {x y z : D} (h : C4 e x y) (k : AX y z) : AX x z := by
 cases e with
 | true => simp only [C4] at h; subst h; exact k
 | false => exact HC h k
theorem LQ {e c f : Bool} {l : List (List D)} {y : D} (h : C4 e (.sl c f l) y) : ∃ m, y = .sl c f m ∧ Bv l m ∧ (e = true → m = l) := by
 cases e with
 | true => simp only [C4] at h; exact ⟨l, h, GP l, fun _ => rfl⟩
 | false => simp only [C4, AX] at h; obtain ⟨m, h1, h2⟩ := h; exact ⟨m, h1, h2, fun h => by cases h⟩
theorem HB {e : Bool} {l : List D} {y : D} (h : C4 e (.pt l) y) : ∃ m, y = .pt m ∧ A0 l m ∧ (e = true → m = l) := by
 cases e with
 | true => simp only [C4] at h; exact ⟨l, h, Cy l, fun _ => rfl⟩
 | false => simp only [C4, AX] at h; obtain ⟨m, h1, h2⟩ := h; exact ⟨m, h1, h2, fun h => by cases h⟩
theorem LR {e : Bool} {x y : D} (h : AX x y) (he : e = true → y = x) : C4 e x y := by
 cases e with
 | true => exact he rfl
 | false => exact h
mutual
def N7 (e : Bool) : D → V
 | .agg l => .agg (IW e l)
 | .tup l => .tup (IW e l)
 | .lit v => (match e with
  | true => .d (.lit v)
  | false => (match Jq v with
   | true => .po false (.lit v)
   | false => .d (.lit v)))
 | .sl c f l => .po e (.sl c f l)
 | .ifc t x => .po e (.ifc t x)
 | .pt l => .po e (.pt l)
 | .fn f a c => .po e (.fn f a c)
 | .any => .po e .any
def IW (e : Bool) : List D → List V
 | [] => []
 | x :: xs => N7 e x :: IW e xs
end
section
variable {B : Nat} {g : G} {w : World}
mutual
theorem NH {e : Bool} : ∀ {x y : D} {u : Value}, C4 e x y → drep B (fun b => g.pl b ∧ Pp w b) w y u → vrep B g w (N7 e x) u
 | .agg l, y, u, h, k => by
  have hy : ∃ m, y = .agg m ∧ ((e = false ∧ A0 l m) ∨ e = true ∧ m = l) := by
   cases e with
   | true => exact ⟨l, h, .inr ⟨rfl, rfl⟩⟩
   | false => simp only [C4, AX] at h; obtain ⟨m, h1, h2⟩ := h; exact ⟨m, h1, .inl ⟨rfl, h2⟩⟩
  obtain ⟨m, rfl, hm⟩ := hy
  simp only [drep] at k
  obtain ⟨cs, rfl, k⟩ := k
  simp only [N7, vrep]
  exact ⟨cs, rfl, Hn hm k⟩
 | .tup l, y, u, h, k => by
  have hy : ∃ m, y = .tup m ∧ ((e = false ∧ A0 l m) ∨ e = true ∧ m = l) := by
   cases e with
   | true => exact ⟨l, h, .inr ⟨rfl, rfl⟩⟩
   | false => simp only [C4, AX] at h; obtain ⟨m, h1, h2⟩ := h; exact ⟨m, h1, .inl ⟨rfl, h2⟩⟩
  obtain ⟨m, rfl, hm⟩ := hy
  simp only [drep] at k
  obtain ⟨cs, rfl, k⟩ := k
  simp only [N7, vrep]
  exact ⟨cs, rfl, Hn hm k⟩
 | .lit v, y, u, h, k => by
  cases e with
  | true => simp only [C4] at h; subst h; simpa only [N7, vrep, drep] using k
  | false =>
   simp only [N7]
   split
   ·simp only [vrep]; exact ⟨y, h, k⟩
   ·rename_i hv
    simp only [C4, AX] at h
    obtain ⟨v', rfl, h⟩ := h
    rcases h with rfl | ⟨h, _⟩
    ·simpa only [vrep, drep] using k
    ·rw [h] at hv; cases hv
 | .sl c f l, y, u, h, k => by simp only [N7, vrep]; exact ⟨y, h, k⟩
 | .ifc t x, y, u, h, k => by simp only [N7, vrep]; exact ⟨y, h, k⟩
 | .pt l, y, u, h, k => by simp only [N7, vrep]; exact ⟨y, h, k⟩
 | .fn f a c, y, u, h, k => by simp only [N7, vrep]; exact ⟨y, h, k⟩
 | .any, y, u, h, k => by simp only [N7, vrep]; exact ⟨y, h, k⟩
theorem Hn {e : Bool} : ∀ {l m : List D} {us : List Value}, ((e = false ∧ A0 l m) ∨ e = true ∧ m = l) → dreps B (fun b => g.pl b ∧ Pp w b) w m us → vreps B g w (IW e l) us
 | [], m, us, h, k => by
  have : m = [] := by
   rcases h with ⟨_, h⟩ | ⟨_, h⟩
   ·simpa only [A0] using h
   ·exact h
  subst this
  simpa only [IW, vreps, dreps] using k
 | x :: xs, m, us, h, k => by
  have hm : ∃ y ys, m = y :: ys ∧ C4 e x y ∧ ((e = false ∧ A0 xs ys) ∨ e = true ∧ ys = xs) := by
   rcases h with ⟨he, h⟩ | ⟨he, h⟩
   ·simp only [A0] at h
    obtain ⟨y, ys, h1, h2, h3⟩ := h
    subst he
    exact ⟨y, ys, h1, h2, .inl ⟨rfl, h3⟩⟩
   ·subst he; exact ⟨x, xs, h, rfl, .inr ⟨rfl, rfl⟩⟩
  obtain ⟨y, ys, rfl, h1, h2⟩ := hm
  simp only [dreps] at k
  obtain ⟨c, cs, rfl, k1, k2⟩ := k
  simp only [IW, vreps]
  exact ⟨c, cs, rfl, NH h1 k1, Hn h2 k2⟩
end
end
def SM : List Value → List Value → Prop
 | [], m => m = []
 | x :: xs, m => ∃ y ys, m = y :: ys ∧ (y = x ∨ Jq x = true ∧ Jq y = true) ∧ SM xs ys
theorem HA : ∀ (l : List Value), SM l l
 | [] => rfl
 | x :: xs => ⟨x, xs, rfl, .inl rfl, HA xs⟩
theorem M5 : ∀ {a b m : List Value}, SM (a ++ b) m → ∃ a' b', m = a' ++ b' ∧ SM a a' ∧ SM b b'
 | [], b, m, h => ⟨[], m, rfl, rfl, h⟩
 | x :: xs, b, m, ⟨y, ys, e, h1, h2⟩ => by
  obtain ⟨a', b', e', k1, k2⟩ := M5 h2
  subst e; subst e'
  exact ⟨y :: a', b', rfl, ⟨y, a', rfl, h1, k1⟩, k2⟩
theorem Zr {u : Value} (h : Jq u = true) : u.oneCell' = true := by
 unfold Jq at h; split at h
 ·rfl
 ·cases h
theorem RR : ∀ {l m : List Value}, SM l m → (∀ u ∈ l, u.oneCell' = true) → ∀ u ∈ m, u.oneCell' = true
 | [], _, h, _ => by simp only [SM] at h; subst h; simp
 | x :: xs, _, ⟨y, ys, e, h1, h2⟩, h => by
  subst e
  intro u hu
  rcases List.mem_cons.1 hu with rfl | hu
  ·rcases h1 with rfl | ⟨_, h1⟩
   ·exact h _ (by simp)
   ·exact Zr h1
  ·exact RR h2 (fun a ha => h a (by simp [ha])) u hu
theorem V6 {Pc : Nat → Value → Prop} : ∀ {cs : List Value} {off : Nat}, (∀ (j : Nat) u, cs[j]? = some u → ∃ v, (v = u ∨ Jq u = true ∧ Jq v = true) ∧ Pc (off + j) v) → ∃ cs', SM cs cs' ∧ ∀ (j : Nat) v, cs'[j]? = some v → Pc (off + j) v
 | [], _, _ => ⟨[], rfl, fun j v h => by simp at h⟩
 | x :: xs, off, h => by
  obtain ⟨v, h1, h2⟩ := h 0 x rfl
  obtain ⟨vs, k1, k2⟩ := V6 (Pc := Pc) (cs := xs) (off := off + 1) fun j u hj => by
   obtain ⟨v, m1, m2⟩ := h (j + 1) u (by simpa using hj)
   exact ⟨v, m1, by rw [show off + 1 + j = off + (j + 1) by omega]; exact m2⟩
  refine ⟨v :: vs, ⟨v, vs, rfl, h1, k1⟩, fun j u hj => ?_⟩
  cases j with
  | zero => simp at hj; subst hj; exact h2
  | succ j => have := k2 j u (by simpa using hj); rwa [show off + 1 + j = off + (j + 1) by omega] at this
section
variable {B : Nat} {p p' : Nat → Prop} {w w' : World}
theorem Pp.blur {b : Nat} (h : Pp w b) (hb : Gp w.heap[b]? w'.heap[b]?) : Pp w' b := fun cs t fz hc => by
 rcases hb with hb | ⟨us, us', t', fz', e1, e2, _⟩
 ·exact h cs t fz (hb ▸ hc)
 ·rw [e2] at hc; cases hc; exact h _ _ _ e1
theorem At.blur (hb : ∀ b, p b → b < w.heap.size → Gp w.heap[b]? w'.heap[b]? ∧ p' b) {f : Bool} {a : Option Addr} {cs : List Value} (h : At (Nw B p w f) w a cs) : ∃ cs', SM cs cs' ∧ At (Nw B p' w' f) w' a cs' := by
 obtain ⟨cs', h1, h2⟩ := V6 (Pc := fun j v => ∃ b o, a = some ⟨b, o, none⟩ ∧ Nw B p' w' f b ∧ w'.cell? ⟨b, o + j, none⟩ = some v) (cs := cs) (off := 0) fun j u hj => by
  obtain ⟨b, o, rfl, hp, hc⟩ := h j u hj
  have hlt := World.block_lt_of_cell? w _ hc
  obtain ⟨hx, hp'⟩ := hb b hp.1 hlt
  have hN : Nw B p' w' f b := ⟨hp', fun hf => ⟨(hp.2 hf).1, (hp.2 hf).2.blur hx⟩⟩
  rcases hx with hx | ⟨us, us', t, fz, e1, e2, _, hx⟩
  ·exact ⟨u, .inl rfl, b, o, rfl, hN, by rw [Nat.zero_add]; exact (World.cell?_of_block hx).trans hc⟩
  ·rw [cell_of_row w b _ us t fz e1] at hc
   obtain ⟨v, hv, hx⟩ := hx _ _ hc
   exact ⟨v, hx, b, o, rfl, hN, by rw [Nat.zero_add, cell_of_row w' b _ us' t fz e2]; exact hv⟩
 exact ⟨cs', h1, fun j u hj => by have := h2 j u hj; rwa [Nat.zero_add] at this⟩
mutual
theorem JO (hb : ∀ b, p b → b < w.heap.size → Gp w.heap[b]? w'.heap[b]? ∧ p' b) : ∀ {x : D} {u u' : Value}, drep B p w x u → (u' = u ∨ Jq u = true ∧ Jq u' = true) → ∃ y, AX x y ∧ drep B p' w' y u'
 | .lit v, u, u', h, hu => by
  simp only [drep] at h; subst h
  exact ⟨.lit u', by simp only [AX]; exact ⟨u', rfl, hu⟩, by simp only [drep]⟩
 | .agg l, u, u', h, hu => by
  simp only [drep] at h; obtain ⟨cs, rfl, k⟩ := h
  rcases hu with rfl | ⟨hu, _⟩
  ·obtain ⟨m, h1, h2⟩ := DS hb k (HA _)
   exact ⟨.agg m, by simp only [AX]; exact ⟨m, rfl, h1⟩, by simp only [drep]; exact ⟨_, rfl, h2⟩⟩
  ·simp [Jq] at hu
 | .tup l, u, u', h, hu => by
  simp only [drep] at h; obtain ⟨cs, rfl, k⟩ := h
  rcases hu with rfl | ⟨hu, _⟩
  ·obtain ⟨m, h1, h2⟩ := DS hb k (HA _)
   exact ⟨.tup m, by simp only [AX]; exact ⟨m, rfl, h1⟩, by simp only [drep]; exact ⟨_, rfl, h2⟩⟩
  ·simp [Jq] at hu
 | .sl c f l, u, u', h, hu => by
  simp only [drep] at h; obtain ⟨a, cap, cs, rfl, e2, e3, e4, e5, ⟨sz, e6⟩, e0, e7, e8⟩ := h
  rcases hu with rfl | ⟨hu, _⟩
  ·obtain ⟨cs', q1, q2⟩ := e7.blur hb
   obtain ⟨m, h1, h2⟩ := J5 hb e8 q1
   have hl := FL h1
   refine ⟨.sl c f m, by simp only [AX]; exact ⟨m, rfl, h1⟩, ?_⟩
   simp only [drep]
   exact ⟨a, cap, cs', by rw [hl], by rw [hl]; exact e2, e3, by rw [hl]; exact e4, e5, ⟨sz, LS h1 e6⟩, RR q1 e0, q2, h2⟩
  ·simp [Jq] at hu
 | .ifc t x, u, u', h, hu => by
  simp only [drep] at h; obtain ⟨z, rfl, k⟩ := h
  rcases hu with rfl | ⟨hu, _⟩
  ·obtain ⟨m, h1, h2⟩ := JO hb k (.inl rfl)
   exact ⟨.ifc t m, by simp only [AX]; exact ⟨m, rfl, h1⟩, by simp only [drep]; exact ⟨_, rfl, h2⟩⟩
  ·simp [Jq] at hu
 | .pt l, u, u', h, hu => by
  simp only [drep] at h; obtain ⟨b, o, cs, rfl, k1, k2⟩ := h
  rcases hu with rfl | ⟨hu, _⟩
  ·obtain ⟨cs', q1, q2⟩ := At.blur (B := B) (f := false) hb (k1.imp fun b h => ⟨h.1, fun h => by cases h⟩)
   obtain ⟨m, h1, h2⟩ := DS hb k2 q1
   exact ⟨.pt m, by simp only [AX]; exact ⟨m, rfl, h1⟩, by simp only [drep]; exact ⟨b, o, cs', rfl, q2.imp fun b h => ⟨h.1, trivial⟩, h2⟩⟩
  ·simp [Jq] at hu
 | .fn f fi ca, u, u', h, hu => by
  simp only [drep] at h; obtain ⟨xs, ys, rfl, k1, k2⟩ := h
  rcases hu with rfl | ⟨hu, _⟩
  ·obtain ⟨m, h1, h2⟩ := DS hb k1 (HA _)
   obtain ⟨m', h1', h2'⟩ := DS hb k2 (HA _)
   exact ⟨.fn f m m', by simp only [AX]; exact ⟨m, m', rfl, h1, h1'⟩, by simp only [drep]; exact ⟨_, _, rfl, h2, h2'⟩⟩
  ·simp [Jq] at hu
 | .any, u, u', h, hu => ⟨.any, by simp only [AX], by simp only [drep]⟩
theorem DS (hb : ∀ b, p b → b < w.heap.size → Gp w.heap[b]? w'.heap[b]? ∧ p' b) : ∀ {l : List D} {us us' : List Value}, dreps B p w l us → SM us us' → ∃ m, A0 l m ∧ dreps B p' w' m us'
 | [], us, us', h, hu => by
  simp only [dreps] at h; subst h
  simp only [SM] at hu; subst hu
  exact ⟨[], by simp only [A0], by simp only [dreps]⟩
 | x :: xs, us, us', h, hu => by
  simp only [dreps] at h; obtain ⟨c, cs, rfl, k1, k2⟩ := h
  obtain ⟨v, vs, rfl, q1, q2⟩ := hu
  obtain ⟨y, h1, h2⟩ := JO hb k1 q1
  obtain ⟨ys, h1', h2'⟩ := DS hb k2 q2
  exact ⟨y :: ys, by simp only [A0]; exact ⟨y, ys, rfl, h1, h1'⟩, by simp only [dreps]; exact ⟨v, vs, rfl, h2, h2'⟩⟩
theorem J5 (hb : ∀ b, p b → b < w.heap.size → Gp w.heap[b]? w'.heap[b]? ∧ p' b) : ∀ {l : List (List D)} {us us' : List Value}, drepss B p w l us → SM us us' → ∃ m, Bv l m ∧ drepss B p' w' m us'
 | [], us, us', h, hu => by
  simp only [drepss] at h; subst h
  simp only [SM] at hu; subst hu
  exact ⟨[], by simp only [Bv], by simp only [drepss]⟩
 | x :: xs, us, us', h, hu => by
  simp only [drepss] at h; obtain ⟨c1, c2, rfl, k1, k2⟩ := h
  obtain ⟨v1, v2, rfl, q1, q2⟩ := M5 hu
  obtain ⟨y, h1, h2⟩ := DS hb k1 q1
  obtain ⟨ys, h1', h2'⟩ := J5 hb k2 q2
  exact ⟨y :: ys, by simp only [Bv]; exact ⟨y, ys, rfl, h1, h1'⟩, by simp only [drepss]; exact ⟨v1, v2, rfl, h2, h2'⟩⟩
end
end
mutual
def Cn : V → V
 | .po _ x => .po false x
 | .agg l => .agg (CD l)
 | .tup l => .tup (CD l)
 | .ifc t x => .ifc t (Cn x)
 | .fn f a c => .fn f (CD a) (CD c)
 | v => v
def CD : List V → List V
 | [] => []
 | x :: xs => Cn x :: CD xs
end
def D0 : List (Nat × V) → List (Nat × V)
 | [] => []
 | (t, v) :: r => (t, Cn v) :: D0 r
def Cd : List E → List E
 | [] => []
 | .c k off vs :: r => .c k off (CD vs) :: Cd r
 | .r o nw k ver e sz l :: r => .r o nw k ver e sz l :: Cd r
 | .y k lp T tm :: r => .y k lp T (D0 tm) :: Cd r
theorem LP : ∀ {l : List V}, CD l = l.map Cn
 | [] => rfl
 | x :: xs => by simp [CD, LP (l := xs)]
theorem Ix {t : Nat} : ∀ {tm : List (Nat × V)} {v : V}, AA t (D0 tm) = some v → ∃ v0, AA t tm = some v0 ∧ v = Cn v0
 | [], _, h => by simp [D0, AA] at h
 | (t', v') :: r, v, h => by
  simp only [D0, AA] at h ⊢
  split at h
  ·cases h; exact ⟨v', by simp, rfl⟩
  ·exact Ix h
theorem DZ {k off : Nat} : ∀ {st : List E} {v : V}, Aq k off (Cd st) = some v → ∃ v0, Aq k off st = some v0 ∧ v = Cn v0
 | [], _, h => by simp [Cd, Aq] at h
 | .c k' o' vs :: r, v, h => by
  simp only [Cd, Aq] at h ⊢
  split at h
  ·split at h
   ·rw [LP, List.getElem?_map] at h
    split at h
    ·rename_i x hx
     cases h
     obtain ⟨x0, h1, h2⟩ := Option.map_eq_some_iff.1 hx
     exact ⟨x0, by rw [h1], h2.symm⟩
    ·rename_i hx
     rw [Option.map_eq_none_iff] at hx
     rw [hx]
     exact DZ h
   ·exact DZ h
  ·exact DZ h
 | .r _ _ _ _ _ _ _ :: r, v, h => by simp only [Cd, Aq] at h ⊢; exact DZ h
 | .y _ _ _ _ :: r, v, h => by simp only [Cd, Aq] at h ⊢; exact DZ h
theorem GB {k : Nat} : ∀ {st : List E}, Az k (Cd st) = Az k st
 | [] => rfl
 | .c k' o' vs :: r => by simp only [Cd, Az]; exact GB
 | .r _ _ _ _ _ _ _ :: r => by simp only [Cd, Az]; split <;> first | rfl | exact GB
 | .y _ _ _ _ :: r => by simp only [Cd, Az]; exact GB
theorem FF {k : Nat} : ∀ {st : List E} {r : Option Loop} {T : Array Value} {tm : List (Nat × V)}, Au k (Cd st) = some (r, T, tm) → ∃ tm0, Au k st = some (r, T, tm0) ∧ tm = D0 tm0
 | [], _, _, _, h => by simp [Cd, Au] at h
 | .c k' o' vs :: r, _, _, _, h => by simp only [Cd, Au] at h ⊢; exact FF h
 | .r _ _ _ _ _ _ _ :: r, _, _, _, h => by simp only [Cd, Au] at h ⊢; exact FF h
 | .y k' r' T' tm' :: s, _, _, _, h => by
  simp only [Cd, Au] at h ⊢
  split at h
  ·cases h; exact ⟨tm', rfl, rfl⟩
  ·exact FF h
structure CE (g : G) (w w' : World) : Prop where
 os : w'.os = w.os
 tape : w'.tape = w.tape
 output : w'.output = w.output
 size : w.heap.size ≤ w'.heap.size
 blk : ∀ b, b < w.heap.size → ¬ g.pl b → w'.heap[b]? = w.heap[b]?
 blur : ∀ b, g.pl b → b < w.heap.size → Gp w.heap[b]? w'.heap[b]?
section
variable {B nb : Nat} {g : G} {w w' : World}
theorem HQ {b : Nat} (h : g.prot b) : ¬ g.pl b := fun k => h (.inl (g.plex b k))
mutual
theorem CE.vrep (h : CE g w w') : ∀ {v : V} {u : Value}, vrep B g w v u → vrep B g w' (Cn v) u
 | .d x, _, k => by simp only [Cn, Go.Proofs.YtbgcjnfhadhjeaaGreat.vrep] at k ⊢; exact A4 (Nat.le_refl _) (fun b hb hp => ⟨hp, h.blk b hb (HQ hp)⟩) k
 | .agg l, _, k => by simp only [Cn, Go.Proofs.YtbgcjnfhadhjeaaGreat.vrep] at k ⊢; obtain ⟨cs, e, k⟩ := k; exact ⟨cs, e, CE.vreps h k⟩
 | .tup l, _, k => by simp only [Cn, Go.Proofs.YtbgcjnfhadhjeaaGreat.vrep] at k ⊢; obtain ⟨cs, e, k⟩ := k; exact ⟨cs, e, CE.vreps h k⟩
 | .ptr _ _, _, k => by simp only [Cn, Go.Proofs.YtbgcjnfhadhjeaaGreat.vrep] at k ⊢; exact k
 | .ep l, _, k => by
  simp only [Cn, Go.Proofs.YtbgcjnfhadhjeaaGreat.vrep] at k ⊢
  obtain ⟨b, o, cs, e, k1, k2⟩ := k
  exact ⟨b, o, cs, e, k1.mono fun b hb hp => ⟨hp, h.blk b hb (HQ hp)⟩, Ew (Nat.le_refl _) (fun b hb hp => ⟨hp, h.blk b hb (HQ hp)⟩) k2⟩
 | .row _ _, _, k => by simp only [Cn, Go.Proofs.YtbgcjnfhadhjeaaGreat.vrep] at k ⊢; exact k
 | .rp _ _ _ _ _, _, k => by simp only [Cn, Go.Proofs.YtbgcjnfhadhjeaaGreat.vrep] at k ⊢; exact k
 | .fn _ _ _, _, k => by simp only [Cn, Go.Proofs.YtbgcjnfhadhjeaaGreat.vrep] at k ⊢; obtain ⟨xs, ys, e, k1, k2⟩ := k; exact ⟨xs, ys, e, CE.vreps h k1, CE.vreps h k2⟩
 | .ifc t x, _, k => by simp only [Cn, Go.Proofs.YtbgcjnfhadhjeaaGreat.vrep] at k ⊢; obtain ⟨y, e, k⟩ := k; exact ⟨y, e, CE.vrep h k⟩
 | .sv _ _ _ _ _, _, k => by simp only [Cn, Go.Proofs.YtbgcjnfhadhjeaaGreat.vrep] at k ⊢; exact k
 | .yl _, _, k => by simp only [Cn, Go.Proofs.YtbgcjnfhadhjeaaGreat.vrep] at k ⊢; exact k
 | .rv _ _ _, _, k => by simp only [Cn, Go.Proofs.YtbgcjnfhadhjeaaGreat.vrep] at k ⊢; exact k
 | .po e x, u, k => by
  simp only [Cn, Go.Proofs.YtbgcjnfhadhjeaaGreat.vrep] at k ⊢
  obtain ⟨y, e, k⟩ := k
  obtain ⟨z, h1, h2⟩ := JO (p' := fun b => g.pl b ∧ Pp w' b) (fun b hp hlt => ⟨h.blur b hp.1 hlt, hp.1, hp.2.blur (h.blur b hp.1 hlt)⟩) k (.inl rfl)
  exact ⟨z, Pn e h1, h2⟩
theorem CE.vreps (h : CE g w w') : ∀ {v : List V} {u : List Value}, vreps B g w v u → vreps B g w' (CD v) u
 | [], _, k => by simp only [CD, Go.Proofs.YtbgcjnfhadhjeaaGreat.vreps] at k ⊢; exact k
 | x :: xs, _, k => by simp only [CD, Go.Proofs.YtbgcjnfhadhjeaaGreat.vreps] at k ⊢; obtain ⟨y, ys, e, k1, k2⟩ := k; exact ⟨y, ys, e, CE.vrep h k1, CE.vreps h k2⟩
end
theorem CE.simS (h : CE g w w') (hi : CG B nb g w) {st : List E} (hs : AC B g w st) : AC B g w' (Cd st) := by
 refine ⟨fun {k off v} hc => ?_, fun {k o nw ver e sz l} hr => ?_, fun {k r T tm} hl => ?_⟩
 ·obtain ⟨v0, hc0, rfl⟩ := DZ hc
  obtain ⟨b, rcs, ty, u, h1, h2, h3, h4⟩ := hs.cell hc0
  exact ⟨b, rcs, ty, u, h1, (h.blk b (hi.bxlt h1).1 fun hp => hi.exbx h1 (g.plex b hp)).trans h2, h3, h.vrep h4⟩
 ·rw [GB] at hr
  obtain ⟨v, xs, r1, r2, r3, r4, r5⟩ := hs.row hr
  have hm : ∀ b, b < w.heap.size → g.prot b → g.prot b ∧ w'.heap[b]? = w.heap[b]? := fun b hb hp => ⟨hp, h.blk b hb (HQ hp)⟩
  refine ⟨v, xs, r1, AL (Nat.le_refl _) hm r2, r3, r4, ?_⟩
  rcases r5 with ⟨e1, e2, e3⟩ | ⟨e1, e2, e3⟩
  ·refine .inl ⟨e1, ⟨e2.1, ?_⟩, e3⟩
   rcases e2.2 with h5 | ⟨gb, cap, cur, hv, hb, hh, rest⟩
   ·exact .inl h5
   ·have hgb : g.rb k = some gb := by rw [e3, hv]; rfl
    exact .inr ⟨gb, cap, cur, hv, hb, (h.blk gb (hi.rblt hgb).1 fun hp => hi.exrb hgb (g.plex gb hp)).trans hh, rest⟩
  ·exact .inr ⟨e1, e2, A4 (Nat.le_refl _) hm e3⟩
 ·obtain ⟨tm0, hl0, rfl⟩ := FF hl
  obtain ⟨h1, h2⟩ := hs.loop hl0
  refine ⟨fun lp e => let ⟨b, m1, m2⟩ := h1 lp e; ⟨b, m1, (h.blk b (hi.bxlt m1).1 fun hp => hi.exbx m1 (g.plex b hp)).trans m2⟩, fun {t v} ht => ?_⟩
  obtain ⟨v0, ht0, rfl⟩ := Ix ht
  exact h.vrep (h2 ht0)
theorem CE.inv (h : CE g w w') (hi : CG B nb g w) : CG B nb g w' := hi.evo h.size
theorem CE.sim {cx : Cx} {a : Act} {s : St} (h : CE g w w') (hdf : cx.df = []) (hS : Dg cx g a w s) : Dg cx g a w' ⟨D0 s.tm, Cd s.st, s.nb⟩ := by
 refine ⟨hS.size, fun {t v} ht => ?_, h.simS hS.inv hS.st, h.inv hS.inv, ?_⟩
 ·obtain ⟨v0, ht0, rfl⟩ := Ix ht
  exact h.vrep (hS.tm ht0)
 ·obtain ⟨hm, bs, r, e, hn, hb, hr⟩ := hS.defers
  rw [hdf] at hr
  refine ⟨fun m hm' => Nat.le_trans (hm m hm') h.size, bs, r, e, hn, fun b hb' => ?_, by rw [hdf]; exact hr⟩
  obtain ⟨h1, h2, h3⟩ := hb b hb'
  exact ⟨h1, h2, (h.blk b (Array.getElem?_eq_some_iff.1 h3).1 (HQ h1)).trans h3⟩
theorem CE.ext {sp : Prop} {m : Nat} {g0 : G} {w0 : World} (h : CE g w w') (hsp : sp) (hE : Ei sp m g0 w0 g w) (hi : CG B nb g w) : Ei sp m g0 w0 g w' := by
 refine ⟨h.os.trans hE.os, h.tape.trans hE.tape, h.output.trans hE.output, Nat.le_trans hE.size h.size, hE.bx, hE.rw, fun b hb hp => ?_, hE.ex, fun b hb hn => ?_, hE.pl, fun b hb hlt => ?_⟩
 ·obtain ⟨h1, h2⟩ := hE.blk b hb hp
  exact ⟨h1, (h.blk b (Nat.lt_of_lt_of_le hb hE.size) (HQ h1)).trans h2⟩
 ·have hlt : b < w0.heap.size := by
   have h1 := hi.exlt (hE.ex b hb)
   have h2 := hE.exblk b hb hn
   rw [Array.getElem?_eq_getElem h1] at h2
   exact (Array.getElem?_eq_some_iff.1 h2.symm).1
  exact (h.blk b (Nat.lt_of_lt_of_le hlt hE.size) fun hp => hn ⟨hsp, (hE.pl b).2 hlt hp⟩).trans (hE.exblk b hb hn)
 ·exact J9 (hE.blur b hb hlt) (h.blur b ((hE.pl b).1 hb) (Nat.lt_of_lt_of_le hlt hE.size))
end

end Go.Proofs.YtbgcjnfhadhjeaaGreat