/- Walks by data and names, part 2: Values as data: what a value says in a world, of memory that nobody writes to; variables and rows of a walk's own, by name. Clone, and small functions on bytes. Arguments that are opened: slices of plain elements, by the form's own reading. -/
import Derived.ProofKit
import Derived.OpenShut
import Derived.Deep.Slices
import Derived.Lib.SmallJoins
import Derived.Test.YtbgcjnfhadhjeaaGreatQk1
namespace Go.Proofs.YtbgcjnfhadhjeaaGreat
set_option maxRecDepth 20000
open Go.RowKit
inductive D where
 | lit (v : Value)
 | agg (l : List D)
 | tup (l : List D)
 | sl (c f : Bool) (l : List (List D))
 | ifc (t : TypeId) (d : D)
 | pt (l : List D)
 | fn (f : FuncId) (first captured : List D)
 | any
 deriving Inhabited
def At (U : Nat → Prop) (w : World) (a : Option Addr) (cs : List Value) : Prop :=
 ∀ j u, cs[j]? = some u → ∃ b o, a = some ⟨b, o, none⟩ ∧ U b ∧ w.cell? ⟨b, o + j, none⟩ = some u
def Pp (w : World) (b : Nat) : Prop := ∀ cs t fz, w.heap[b]? = some (.cells cs t fz) → fz = (0, 0)
theorem Pp.of {w w' : World} {b : Nat} (h : Pp w b) (he : w'.heap[b]? = w.heap[b]?) : Pp w' b := fun cs t fz hc => h cs t fz (he ▸ hc)
def Nw (B : Nat) (U : Nat → Prop) (w : World) (f : Bool) (b : Nat) : Prop := U b ∧ (f = true → B ≤ b ∧ Pp w b)
mutual
/-- the value is this data; U: the blocks that nobody writes to; those from B on are new -/
def drep (B : Nat) (U : Nat → Prop) (w : World) : D → Value → Prop
 | .lit v, u => u = v
 | .agg l, u => ∃ cs : List Value, u = .agg cs.toArray ∧ dreps B U w l cs
 | .tup l, u => ∃ cs : List Value, u = .tuple cs.toArray ∧ dreps B U w l cs
 | .sl c f l, u => ∃ a cap cs, u = .slice a l.length cap ∧ l.length ≤ cap ∧ cap ≤ maxLen ∧ (c = true → cap = l.length) ∧ (a = none → cap = 0) ∧
   (∃ sz, ∀ x ∈ l, x.length = sz) ∧ (∀ u ∈ cs, u.oneCell' = true) ∧ At (Nw B U w f) w a cs ∧ drepss B U w l cs
 | .ifc t d, u => ∃ x, u = .iface t x ∧ drep B U w d x
 | .pt l, u => ∃ b o cs, u = .pointer (some ⟨b, o, none⟩) ∧ At (fun b => U b ∧ True) w (some ⟨b, o, none⟩) cs ∧ dreps B U w l cs
 | .fn f fi ca, u => ∃ xs ys : List Value, u = .func (.func f) xs.toArray ys.toArray ∧ dreps B U w fi xs ∧ dreps B U w ca ys
 | .any, _ => True
def dreps (B : Nat) (U : Nat → Prop) (w : World) : List D → List Value → Prop
 | [], cs => cs = []
 | x :: xs, cs => ∃ y ys, cs = y :: ys ∧ drep B U w x y ∧ dreps B U w xs ys
def drepss (B : Nat) (U : Nat → Prop) (w : World) : List (List D) → List Value → Prop
 | [], cs => cs = []
 | x :: xs, cs => ∃ c1 c2, cs = c1 ++ c2 ∧ dreps B U w x c1 ∧ drepss B U w xs c2
end
theorem At.mono {U U' : Nat → Prop} {w w' : World} {a : Option Addr} {cs : List Value} (h : At U w a cs) (hU : ∀ b, b < w.heap.size → U b → U' b ∧ w'.heap[b]? = w.heap[b]?) : At U' w' a cs := fun j u hj => by
 obtain ⟨b, o, e1, e2, e3⟩ := h j u hj
 have hb := hU b (World.block_lt_of_cell? w _ e3) e2
 exact ⟨b, o, e1, hb.1, (World.cell?_of_block hb.2).trans e3⟩
theorem At.imp {U U' : Nat → Prop} {w : World} {a : Option Addr} {cs : List Value} (h : At U w a cs) (hU : ∀ b, U b → U' b) : At U' w a cs := fun j u hj => by
 obtain ⟨b, o, e1, e2, e3⟩ := h j u hj
 exact ⟨b, o, e1, hU b e2, e3⟩
section
variable {B B' : Nat} {U U' : Nat → Prop} {w w' : World}
mutual
theorem FI (hA : ∀ (f : Bool) a cs, At (Nw B U w f) w a cs → At (Nw B U' w' f) w' a cs) : ∀ {d : D} {u : Value}, drep B U w d u → drep B U' w' d u
 | .lit _, _, h => by simp only [drep] at h ⊢; exact h
 | .agg l, _, h => by simp only [drep] at h ⊢; obtain ⟨cs, e, k⟩ := h; exact ⟨cs, e, Ee hA k⟩
 | .tup l, _, h => by simp only [drep] at h ⊢; obtain ⟨cs, e, k⟩ := h; exact ⟨cs, e, Ee hA k⟩
 | .sl c f l, _, h => by
  simp only [drep] at h ⊢
  obtain ⟨a, cap, cs, e1, e2, e3, e4, e5, e6, e0, e7, e8⟩ := h
  exact ⟨a, cap, cs, e1, e2, e3, e4, e5, e6, e0, hA f _ _ e7, Gh hA e8⟩
 | .ifc t d, _, h => by simp only [drep] at h ⊢; obtain ⟨x, e, k⟩ := h; exact ⟨x, e, FI hA k⟩
 | .pt l, _, h => by simp only [drep] at h ⊢; obtain ⟨b, o, cs, e, k1, k2⟩ := h; exact ⟨b, o, cs, e, (hA false _ _ (k1.imp fun b h => ⟨h.1, fun h => by cases h⟩)).imp fun b h => ⟨h.1, trivial⟩, Ee hA k2⟩
 | .fn f fi ca, _, h => by simp only [drep] at h ⊢; obtain ⟨xs, ys, e, k1, k2⟩ := h; exact ⟨xs, ys, e, Ee hA k1, Ee hA k2⟩
 | .any, _, h => by simp only [drep]
theorem Ee (hA : ∀ (f : Bool) a cs, At (Nw B U w f) w a cs → At (Nw B U' w' f) w' a cs) : ∀ {d : List D} {u : List Value}, dreps B U w d u → dreps B U' w' d u
 | [], _, h => by simp only [dreps] at h ⊢; exact h
 | x :: xs, _, h => by simp only [dreps] at h ⊢; obtain ⟨y, ys, e, k1, k2⟩ := h; exact ⟨y, ys, e, FI hA k1, Ee hA k2⟩
theorem Gh (hA : ∀ (f : Bool) a cs, At (Nw B U w f) w a cs → At (Nw B U' w' f) w' a cs) : ∀ {d : List (List D)} {u : List Value}, drepss B U w d u → drepss B U' w' d u
 | [], _, h => by simp only [drepss] at h ⊢; exact h
 | x :: xs, _, h => by simp only [drepss] at h ⊢; obtain ⟨y, ys, e, k1, k2⟩ := h; exact ⟨y, ys, e, Ee hA k1, Gh hA k2⟩
end
mutual
theorem H5 (hB : B' ≤ B) : ∀ {d : D} {u : Value}, drep B U w d u → drep B' U w d u
 | .lit _, _, h => by simp only [drep] at h ⊢; exact h
 | .agg l, _, h => by simp only [drep] at h ⊢; obtain ⟨cs, e, k⟩ := h; exact ⟨cs, e, Dd hB k⟩
 | .tup l, _, h => by simp only [drep] at h ⊢; obtain ⟨cs, e, k⟩ := h; exact ⟨cs, e, Dd hB k⟩
 | .sl c f l, _, h => by
  simp only [drep] at h ⊢
  obtain ⟨a, cap, cs, e1, e2, e3, e4, e5, e6, e0, e7, e8⟩ := h
  exact ⟨a, cap, cs, e1, e2, e3, e4, e5, e6, e0, e7.imp fun b ⟨h1, h2⟩ => ⟨h1, fun hf => ⟨Nat.le_trans hB (h2 hf).1, (h2 hf).2⟩⟩, Hz hB e8⟩
 | .ifc t d, _, h => by simp only [drep] at h ⊢; obtain ⟨x, e, k⟩ := h; exact ⟨x, e, H5 hB k⟩
 | .pt l, _, h => by simp only [drep] at h ⊢; obtain ⟨b, o, cs, e, k1, k2⟩ := h; exact ⟨b, o, cs, e, k1, Dd hB k2⟩
 | .fn f fi ca, _, h => by simp only [drep] at h ⊢; obtain ⟨xs, ys, e, k1, k2⟩ := h; exact ⟨xs, ys, e, Dd hB k1, Dd hB k2⟩
 | .any, _, h => by simp only [drep]
theorem Dd (hB : B' ≤ B) : ∀ {d : List D} {u : List Value}, dreps B U w d u → dreps B' U w d u
 | [], _, h => by simp only [dreps] at h ⊢; exact h
 | x :: xs, _, h => by simp only [dreps] at h ⊢; obtain ⟨y, ys, e, k1, k2⟩ := h; exact ⟨y, ys, e, H5 hB k1, Dd hB k2⟩
theorem Hz (hB : B' ≤ B) : ∀ {d : List (List D)} {u : List Value}, drepss B U w d u → drepss B' U w d u
 | [], _, h => by simp only [drepss] at h ⊢; exact h
 | x :: xs, _, h => by simp only [drepss] at h ⊢; obtain ⟨y, ys, e, k1, k2⟩ := h; exact ⟨y, ys, e, Dd hB k1, Hz hB k2⟩
end
theorem At.cells {p : Nat → Prop} (hU : ∀ b cs t fz, w.heap[b]? = some (.cells cs t fz) → U b → U' b ∧ w'.heap[b]? = w.heap[b]?) {a : Option Addr} {cs : List Value} (h : At (fun b => U b ∧ p b) w a cs) : At (fun b => U' b ∧ p b) w' a cs := fun j u hj => by
 obtain ⟨b, o, e1, ⟨e2, e2'⟩, e3⟩ := h j u hj
 have hc : ∃ cs t fz, w.heap[b]? = some (.cells cs t fz) := by
  simp only [World.cell?] at e3
  split at e3
  ·exact ⟨_, _, _, by assumption⟩
  ·simp at e3
 obtain ⟨cs', t, fz, hc⟩ := hc
 have hb := hU b _ _ _ hc e2
 exact ⟨b, o, e1, ⟨hb.1, e2'⟩, (World.cell?_of_block hb.2).trans e3⟩
theorem At.cellsN {f : Bool} (hU : ∀ b cs t fz, w.heap[b]? = some (.cells cs t fz) → U b → U' b ∧ w'.heap[b]? = w.heap[b]?) {a : Option Addr} {cs : List Value} (h : At (Nw B U w f) w a cs) : At (Nw B U' w' f) w' a cs := fun j u hj => by
 obtain ⟨b, o, e1, ⟨e2, e2'⟩, e3⟩ := h j u hj
 have hc : ∃ cs t fz, w.heap[b]? = some (.cells cs t fz) := by
  simp only [World.cell?] at e3
  split at e3
  ·exact ⟨_, _, _, by assumption⟩
  ·simp at e3
 obtain ⟨cs', t, fz, hc⟩ := hc
 have hb := hU b _ _ _ hc e2
 exact ⟨b, o, e1, ⟨hb.1, fun hf => ⟨(e2' hf).1, (e2' hf).2.of hb.2⟩⟩, (World.cell?_of_block hb.2).trans e3⟩
theorem At.monoN {f : Bool} (hU : ∀ b, b < w.heap.size → U b → U' b ∧ w'.heap[b]? = w.heap[b]?) {a : Option Addr} {cs : List Value} (h : At (Nw B U w f) w a cs) : At (Nw B U' w' f) w' a cs :=
 h.cellsN fun b _ _ _ hc hu => hU b (Array.getElem?_eq_some_iff.1 hc).1 hu
theorem A4 (hB : B' ≤ B) (hU : ∀ b, b < w.heap.size → U b → U' b ∧ w'.heap[b]? = w.heap[b]?) {d : D} {u : Value} (h : drep B U w d u) : drep B' U' w' d u :=
 FI (fun _ _ _ h => h.monoN hU) (H5 hB h)
theorem Ew (hB : B' ≤ B) (hU : ∀ b, b < w.heap.size → U b → U' b ∧ w'.heap[b]? = w.heap[b]?) {d : List D} {u : List Value} (h : dreps B U w d u) : dreps B' U' w' d u :=
 Ee (fun _ _ _ h => h.monoN hU) (Dd hB h)
theorem AL (hB : B' ≤ B) (hU : ∀ b, b < w.heap.size → U b → U' b ∧ w'.heap[b]? = w.heap[b]?) {d : List (List D)} {u : List Value} (h : drepss B U w d u) : drepss B' U' w' d u :=
 Gh (fun _ _ _ h => h.monoN hU) (Hz hB h)
theorem Bx : ∀ {l : List D} {cs : List Value}, dreps B U w l cs → cs.length = l.length
 | [], _, h => by simp only [dreps] at h; subst h; rfl
 | x :: xs, _, h => by simp only [dreps] at h; obtain ⟨y, ys, e, _, k⟩ := h; subst e; simp [Bx k]
theorem BU : ∀ {l : List D} {cs : List Value}, dreps B U w l cs → ∀ {i : Nat} {x : D}, l[i]? = some x → ∃ y, cs[i]? = some y ∧ drep B U w x y
 | [], _, h, i, x, hx => by simp at hx
 | x :: xs, _, h, i, z, hx => by
  simp only [dreps] at h
  obtain ⟨y, ys, e, k1, k2⟩ := h
  subst e
  cases i with
  | zero => simp only [List.getElem?_cons_zero, Option.some.injEq] at hx; subst hx; exact ⟨y, rfl, k1⟩
  | succ i => simp only [List.getElem?_cons_succ] at hx ⊢; exact BU k2 hx
theorem Gi : ∀ {l m : List D} {cs ds : List Value}, dreps B U w l cs → dreps B U w m ds → dreps B U w (l ++ m) (cs ++ ds)
 | [], m, cs, ds, h, k => by simp only [dreps] at h; subst h; exact k
 | x :: xs, m, _, ds, h, k => by
  simp only [dreps] at h
  obtain ⟨y, ys, e, k1, k2⟩ := h
  subst e
  simp only [List.cons_append, dreps]
  exact ⟨y, ys ++ ds, rfl, k1, Gi k2 k⟩
theorem Ft : ∀ {l : List D} {cs : List Value}, cs.length = l.length → (∀ (i : Nat) x y, l[i]? = some x → cs[i]? = some y → drep B U w x y) → dreps B U w l cs
 | [], cs, h, _ => by simp only [dreps]; exact List.eq_nil_of_length_eq_zero h
 | x :: xs, [], h, _ => by simp at h
 | x :: xs, y :: ys, h, k => by
  simp only [dreps]
  exact ⟨y, ys, rfl, k 0 x y rfl rfl, Ft (by simpa using h) fun i a b ha hb => k (i + 1) a b ha hb⟩
theorem Dc {sz : Nat} : ∀ {l : List (List D)} {cs : List Value}, (∀ x ∈ l, x.length = sz) → drepss B U w l cs → cs.length = l.length * sz
 | [], _, _, h => by simp only [drepss] at h; subst h; simp
 | x :: xs, _, hz, h => by
  simp only [drepss] at h
  obtain ⟨c1, c2, e, k1, k2⟩ := h
  subst e
  have h1 := Bx k1
  have h2 := hz x (by simp)
  rw [List.length_append, Dc (fun y hy => hz y (by simp [hy])) k2, h1, h2, List.length_cons, Nat.add_mul]; omega
theorem GN {sz : Nat} : ∀ {l : List (List D)} {cs : List Value}, (∀ x ∈ l, x.length = sz) → drepss B U w l cs → ∀ {i : Nat} {x : List D}, l[i]? = some x → dreps B U w x ((cs.drop (i * sz)).take sz)
 | [], _, _, _, i, x, hx => by simp at hx
 | y :: ys, _, hz, h, i, x, hx => by
  simp only [drepss] at h
  obtain ⟨c1, c2, e, k1, k2⟩ := h
  subst e
  have h1 := Bx k1
  have h2 := hz y (by simp)
  cases i with
  | zero =>
   simp only [List.getElem?_cons_zero, Option.some.injEq] at hx; subst hx
   simp only [Nat.zero_mul, List.drop_zero]
   rw [List.take_append_of_le_length (by omega), List.take_of_length_le (by omega)]; exact k1
  | succ i =>
   simp only [List.getElem?_cons_succ] at hx
   have := GN (fun y hy => hz y (by simp [hy])) k2 hx
   rw [List.drop_append, List.drop_of_length_le (show c1.length ≤ (i + 1) * sz by rw [Nat.add_mul]; omega), List.nil_append, show (i + 1) * sz - c1.length = i * sz by rw [Nat.add_mul]; omega]
   exact this
theorem Fs : ∀ {l m : List (List D)} {cs ds : List Value}, drepss B U w l cs → drepss B U w m ds → drepss B U w (l ++ m) (cs ++ ds)
 | [], m, cs, ds, h, k => by simp only [drepss] at h; subst h; exact k
 | x :: xs, m, _, ds, h, k => by
  simp only [drepss] at h
  obtain ⟨c1, c2, e, k1, k2⟩ := h
  subst e
  simp only [List.cons_append, drepss]
  exact ⟨c1, c2 ++ ds, by simp, k1, Fs k2 k⟩
theorem FH {sz : Nat} : ∀ {l : List (List D)} {cs : List Value}, (∀ x ∈ l, x.length = sz) → drepss B U w l cs → ∀ (i : Nat), drepss B U w (l.take i) (cs.take (i * sz)) ∧ drepss B U w (l.drop i) (cs.drop (i * sz))
 | [], _, _, h, i => by simp only [drepss] at h; subst h; simp [drepss]
 | y :: ys, _, hz, h, i => by
  have h0 := h
  simp only [drepss] at h
  obtain ⟨c1, c2, e, k1, k2⟩ := h
  subst e
  have h1 := Bx k1
  have h2 := hz y (by simp)
  cases i with
  | zero => simp only [List.take_zero, Nat.zero_mul, List.drop_zero, drepss]; exact ⟨trivial, c1, c2, rfl, k1, k2⟩
  | succ i =>
   obtain ⟨p, q⟩ := FH (fun y hy => hz y (by simp [hy])) k2 i
   have e1 : (i + 1) * sz = c1.length + i * sz := by rw [Nat.add_mul]; omega
   rw [e1, List.take_length_add_append, List.drop_length_add_append]
   simp only [List.take_succ_cons, List.drop_succ_cons, drepss]
   exact ⟨⟨c1, _, rfl, k1, p⟩, q⟩
end
def dle (x y : D) : Prop := ∀ B U w u, drep B U w x u → drep B U w y u
theorem AaM (c f : Bool) (l : List (List D)) : dle (.sl c f l) (.sl false false l) := fun B U w u h => by
 simp only [drep] at h ⊢
 obtain ⟨a, cap, cs, e1, e2, e3, e4, e5, e6, e0, e7, e8⟩ := h
 exact ⟨a, cap, cs, e1, e2, e3, (fun h => by cases h), e5, e6, e0, e7.imp fun b h => ⟨h.1, fun h => by cases h⟩, e8⟩
theorem X8 (c f : Bool) (l : List (List D)) : dle (.sl c f l) (.sl false f l) := fun B U w u h => by
 simp only [drep] at h ⊢
 obtain ⟨a, cap, cs, e1, e2, e3, e4, e5, e6, e0, e7, e8⟩ := h
 exact ⟨a, cap, cs, e1, e2, e3, (fun h => by cases h), e5, e6, e0, e7, e8⟩
theorem NS (c f : Bool) : dle (.lit (.slice none 0 0)) (.sl c f []) := fun B U w u h => by
 simp only [drep] at h ⊢
 exact ⟨none, 0, [], h, by simp, by simp, fun _ => rfl, fun _ => rfl, ⟨0, by simp⟩, by simp, (fun j u hj => by simp at hj), by simp only [drepss]⟩
inductive V where
 | d (x : D)
 | agg (l : List V)
 | tup (l : List V)
 | ptr (k off : Nat)
 | ep (l : List D)
 | row (k ver : Nat)
 | rp (k ver sz i j : Nat)
 | fn (f : Fn) (first captured : List V)
 | ifc (t : TypeId) (x : V)
 | sv (k off n cap sz : Nat)
 | rv (k ver n : Nat)
 | yl (k : Nat)
 | po (e : Bool) (x : D)
 deriving Inhabited
structure G where
 ex : Nat → Prop
 bx : Nat → Option Nat
 rb : Nat → Option Nat
 rw : Nat → Nat → Option Value
 pl : Nat → Prop
 plex : ∀ b, pl b → ex b
def G.own (g : G) (b : Nat) : Prop := g.ex b ∨ (∃ k, g.bx k = some b) ∨ ∃ k, g.rb k = some b
def G.prot (g : G) (b : Nat) : Prop := ¬ g.own b
def Jq : Value → Bool
 | .int .u8 _ => true
 | _ => false
mutual
/-- the same up to bytes -/
def AX : D → D → Prop
 | .lit u, y => ∃ v, y = .lit v ∧ (v = u ∨ Jq u = true ∧ Jq v = true)
 | .agg l, y => ∃ m, y = .agg m ∧ A0 l m
 | .tup l, y => ∃ m, y = .tup m ∧ A0 l m
 | .sl c f l, y => ∃ m, y = .sl c f m ∧ Bv l m
 | .ifc t x, y => ∃ z, y = .ifc t z ∧ AX x z
 | .pt l, y => ∃ m, y = .pt m ∧ A0 l m
 | .fn f a c, y => ∃ a' c', y = .fn f a' c' ∧ A0 a a' ∧ A0 c c'
 | .any, y => y = .any
def A0 : List D → List D → Prop
 | [], m => m = []
 | x :: xs, m => ∃ y ys, m = y :: ys ∧ AX x y ∧ A0 xs ys
def Bv : List (List D) → List (List D) → Prop
 | [], m => m = []
 | x :: xs, m => ∃ y ys, m = y :: ys ∧ A0 x y ∧ Bv xs ys
end
def C4 (e : Bool) (x y : D) : Prop := match e with
 | true => y = x
 | false => AX x y
mutual
theorem GS : ∀ (x : D), AX x x
 | .lit u => by simp only [AX]; exact ⟨u, rfl, .inl rfl⟩
 | .agg l => by simp only [AX]; exact ⟨l, rfl, Cy l⟩
 | .tup l => by simp only [AX]; exact ⟨l, rfl, Cy l⟩
 | .sl c f l => by simp only [AX]; exact ⟨l, rfl, GP l⟩
 | .ifc t x => by simp only [AX]; exact ⟨x, rfl, GS x⟩
 | .pt l => by simp only [AX]; exact ⟨l, rfl, Cy l⟩
 | .fn f a c => by simp only [AX]; exact ⟨a, c, rfl, Cy a, Cy c⟩
 | .any => by simp only [AX]
theorem Cy : ∀ (l : List D), A0 l l
 | [] => by simp only [A0]
 | x :: xs => by simp only [A0]; exact ⟨x, xs, rfl, GS x, Cy xs⟩
theorem GP : ∀ (l : List (List D)), Bv l l
 | [] => by simp only [Bv]
 | x :: xs => by simp only [Bv]; exact ⟨x, xs, rfl, Cy x, GP xs⟩
end
theorem M6 {e : Bool} {x y : D} (h : C4 e x y) : AX x y := by
 cases e with
 | true => simp only [C4] at h; subst h; exact GS _
 | false => exact h
mutual
def vrep (B : Nat) (g : G) (w : World) : V → Value → Prop
 | .d x, u => drep B g.prot w x u
 | .agg l, u => ∃ cs : List Value, u = .agg cs.toArray ∧ vreps B g w l cs
 | .tup l, u => ∃ cs : List Value, u = .tuple cs.toArray ∧ vreps B g w l cs
 | .ptr k off, u => ∃ b, g.bx k = some b ∧ u = .pointer (some ⟨b, off, none⟩)
 | .ep l, u => ∃ b o cs, u = .pointer (some ⟨b, o, none⟩) ∧ At g.prot w (some ⟨b, o, none⟩) cs ∧ dreps B g.prot w l cs
 | .row k v, u => g.rw k v = some u ∧ u.oneCell' = true
 | .rp k v sz i j, u => ∃ b n c, g.rw k v = some (.slice (some ⟨b, 0, none⟩) n c) ∧ u = .pointer (some ⟨b, i * sz + j, none⟩)
 | .fn f fi ca, u => ∃ xs ys : List Value, u = .func f xs.toArray ys.toArray ∧ vreps B g w fi xs ∧ vreps B g w ca ys
 | .ifc t x, u => ∃ y, u = .iface t y ∧ vrep B g w x y
 | .sv k off n cap _, u => ∃ b, g.bx k = some b ∧ u = .slice (some ⟨b, off, none⟩) n cap ∧ n ≤ cap ∧ cap ≤ maxLen
 | .yl k, u => ∃ b, g.bx k = some b ∧ u = .func (.yield b) #[] #[]
 | .rv k v n, u => ∃ a m c, g.rw k v = some (.slice a m c) ∧ u = .slice a n n
 | .po e x, u => ∃ y, C4 e x y ∧ drep B (fun b => g.pl b ∧ Pp w b) w y u
def vreps (B : Nat) (g : G) (w : World) : List V → List Value → Prop
 | [], cs => cs = []
 | x :: xs, cs => ∃ y ys, cs = y :: ys ∧ vrep B g w x y ∧ vreps B g w xs ys
end
def Pr (w : World) (g g' : G) : Prop := ∀ b, (g.pl b → g'.pl b) ∧ (b < w.heap.size → g'.pl b → g.pl b)
theorem Pr.refl {w : World} {g g' : G} (h : g'.pl = g.pl := by rfl) : Pr w g g' := fun b => ⟨fun k => by rw [h]; exact k, fun _ k => by rw [h] at k; exact k⟩
theorem Pr.trans {w w1 : World} {g g1 g2 : G} (h : Pr w g g1) (k : Pr w1 g1 g2) (hs : w.heap.size ≤ w1.heap.size) : Pr w g g2 := fun b => ⟨fun x => (k b).1 ((h b).1 x), fun hb x => (h b).2 hb ((k b).2 (Nat.lt_of_lt_of_le hb hs) x)⟩
structure BZ (B : Nat) (g : G) (w : World) (g' : G) (w' : World) : Prop where
 os : w'.os = w.os
 tape : w'.tape = w.tape
 output : w'.output = w.output
 size : w.heap.size ≤ w'.heap.size
 bx : ∀ {k b}, g.bx k = some b → g'.bx k = some b
 rw : ∀ {k i v}, g.rw k i = some v → g'.rw k i = some v
 blk : ∀ b, b < w.heap.size → g.prot b → g'.prot b ∧ w'.heap[b]? = w.heap[b]?
 ex : ∀ b, g.ex b → g'.ex b
 exblk : ∀ b, g.ex b → w'.heap[b]? = w.heap[b]?
 pl : Pr w g g'
theorem BZ.refl (B : Nat) (g : G) (w : World) : BZ B g w g w := ⟨rfl, rfl, rfl, Nat.le_refl _, id, id, fun _ _ h => ⟨h, rfl⟩, fun _ h => h, fun _ _ => rfl, .refl⟩
theorem BZ.trans {B : Nat} {g g1 g2 : G} {w w1 w2 : World} (h : BZ B g w g1 w1) (k : BZ B g1 w1 g2 w2) : BZ B g w g2 w2 :=
  ⟨k.os.trans h.os, k.tape.trans h.tape, k.output.trans h.output, Nat.le_trans h.size k.size, fun e => k.bx (h.bx e), fun e => k.rw (h.rw e),
   fun b hb hp => let ⟨h1, h2⟩ := h.blk b hb hp; let ⟨k1, k2⟩ := k.blk b (Nat.lt_of_lt_of_le hb h.size) h1; ⟨k1, k2.trans h2⟩,
   fun b hb => k.ex b (h.ex b hb), fun b hb => (k.exblk b (h.ex b hb)).trans (h.exblk b hb), h.pl.trans k.pl h.size⟩
def Gp (x y : Option Obj) : Prop := y = x ∨ ∃ cs cs' t fz, x = some (.cells cs t fz) ∧ y = some (.cells cs' t fz) ∧ cs'.size = cs.size ∧ ∀ (i : Nat) u, cs[i]? = some u → ∃ v, cs'[i]? = some v ∧ (v = u ∨ Jq u = true ∧ Jq v = true)
theorem LT (x : Option Obj) : Gp x x := .inl rfl
theorem J9 {x y z : Option Obj} (h : Gp x y) (k : Gp y z) : Gp x z := by
 rcases h with rfl | ⟨cs, cs', t, fz, rfl, rfl, hs, h⟩
 ·exact k
 ·rcases k with rfl | ⟨ds, ds', t', fz', e, rfl, ks, k⟩
  ·exact .inr ⟨cs, cs', t, fz, rfl, rfl, hs, h⟩
  ·cases e
   refine .inr ⟨cs, ds', t, fz, rfl, rfl, ks.trans hs, fun i u hu => ?_⟩
   obtain ⟨v, hv, h1⟩ := h i u hu
   obtain ⟨v', hv', h2⟩ := k i v hv
   refine ⟨v', hv', ?_⟩
   rcases h1 with rfl | ⟨h1, h1'⟩
   ·exact h2
   ·rcases h2 with rfl | ⟨h2, h2'⟩
    ·exact .inr ⟨h1, h1'⟩
    ·exact .inr ⟨h1, h2'⟩
structure Ei (sp : Prop) (m : Nat) (g : G) (w : World) (g' : G) (w' : World) : Prop where
 os : w'.os = w.os
 tape : w'.tape = w.tape
 output : w'.output = w.output
 size : w.heap.size ≤ w'.heap.size
 bx : ∀ {k b}, k < m → g.bx k = some b → g'.bx k = some b
 rw : ∀ {k i v}, k < m → g.rw k i = some v → g'.rw k i = some v
 blk : ∀ b, b < w.heap.size → g.prot b → g'.prot b ∧ w'.heap[b]? = w.heap[b]?
 ex : ∀ b, g.ex b → g'.ex b
 exblk : ∀ b, g.ex b → ¬ (sp ∧ g.pl b) → w'.heap[b]? = w.heap[b]?
 pl : Pr w g g'
 blur : ∀ b, g.pl b → b < w.heap.size → Gp w.heap[b]? w'.heap[b]?
theorem Ei.refl (sp : Prop) (m : Nat) (g : G) (w : World) : Ei sp m g w g w := ⟨rfl, rfl, rfl, Nat.le_refl _, fun _ h => h, fun _ h => h, fun _ _ h => ⟨h, rfl⟩, fun _ h => h, fun _ _ _ => rfl, .refl, fun _ _ _ => LT _⟩
theorem Ei.trans {sp : Prop} {m B : Nat} {g g1 g2 : G} {w w1 w2 : World} (h : Ei sp m g w g1 w1) (k : BZ B g1 w1 g2 w2) : Ei sp m g w g2 w2 :=
  ⟨k.os.trans h.os, k.tape.trans h.tape, k.output.trans h.output, Nat.le_trans h.size k.size, fun hk e => k.bx (h.bx hk e), fun hk e => k.rw (h.rw hk e),
   fun b hb hp => let ⟨h1, h2⟩ := h.blk b hb hp; let ⟨k1, k2⟩ := k.blk b (Nat.lt_of_lt_of_le hb h.size) h1; ⟨k1, k2.trans h2⟩,
   fun b hb => k.ex b (h.ex b hb), fun b hb hn => (k.exblk b (h.ex b hb)).trans (h.exblk b hb hn), h.pl.trans k.pl h.size, fun b hb hlt => by rw [k.exblk b (g1.plex b ((h.pl b).1 hb))]; exact h.blur b hb hlt⟩
section
variable {B : Nat} {g g' : G} {w w' : World}
theorem BZ.drep (h : BZ B g w g' w') {d : D} {u : Value} (k : drep B g.prot w d u) : drep B g'.prot w' d u := A4 (Nat.le_refl _) (fun b hb hp => h.blk b hb hp) k
theorem BZ.dreps (h : BZ B g w g' w') {d : List D} {u : List Value} (k : dreps B g.prot w d u) : dreps B g'.prot w' d u := Ew (Nat.le_refl _) (fun b hb hp => h.blk b hb hp) k
theorem BZ.drepss (h : BZ B g w g' w') {d : List (List D)} {u : List Value} (k : drepss B g.prot w d u) : drepss B g'.prot w' d u := AL (Nat.le_refl _) (fun b hb hp => h.blk b hb hp) k
mutual
theorem BZ.vrep (h : BZ B g w g' w') : ∀ {d : V} {u : Value}, vrep B g w d u → vrep B g' w' d u
 | .d x, _, k => by simp only [Go.Proofs.YtbgcjnfhadhjeaaGreat.vrep] at k ⊢; exact h.drep k
 | .agg l, _, k => by simp only [Go.Proofs.YtbgcjnfhadhjeaaGreat.vrep] at k ⊢; obtain ⟨cs, e, k⟩ := k; exact ⟨cs, e, BZ.vreps h k⟩
 | .tup l, _, k => by simp only [Go.Proofs.YtbgcjnfhadhjeaaGreat.vrep] at k ⊢; obtain ⟨cs, e, k⟩ := k; exact ⟨cs, e, BZ.vreps h k⟩
 | .ptr _ _, _, k => by simp only [Go.Proofs.YtbgcjnfhadhjeaaGreat.vrep] at k ⊢; obtain ⟨b, e, k⟩ := k; exact ⟨b, h.bx e, k⟩
 | .ep l, _, k => by simp only [Go.Proofs.YtbgcjnfhadhjeaaGreat.vrep] at k ⊢; obtain ⟨b, o, cs, e, k1, k2⟩ := k; exact ⟨b, o, cs, e, k1.mono fun b hb hp => h.blk b hb hp, h.dreps k2⟩
 | .row _ _, _, k => by simp only [Go.Proofs.YtbgcjnfhadhjeaaGreat.vrep] at k ⊢; exact ⟨h.rw k.1, k.2⟩
 | .rp _ _ _ _ _, _, k => by simp only [Go.Proofs.YtbgcjnfhadhjeaaGreat.vrep] at k ⊢; obtain ⟨b, n, c, e, k⟩ := k; exact ⟨b, n, c, h.rw e, k⟩
 | .fn _ _ _, _, k => by simp only [Go.Proofs.YtbgcjnfhadhjeaaGreat.vrep] at k ⊢; obtain ⟨xs, ys, e, k1, k2⟩ := k; exact ⟨xs, ys, e, BZ.vreps h k1, BZ.vreps h k2⟩
 | .ifc t x, _, k => by simp only [Go.Proofs.YtbgcjnfhadhjeaaGreat.vrep] at k ⊢; obtain ⟨y, e, k⟩ := k; exact ⟨y, e, BZ.vrep h k⟩
 | .sv _ _ _ _ _, _, k => by simp only [Go.Proofs.YtbgcjnfhadhjeaaGreat.vrep] at k ⊢; obtain ⟨b, e, k⟩ := k; exact ⟨b, h.bx e, k⟩
 | .yl _, _, k => by simp only [Go.Proofs.YtbgcjnfhadhjeaaGreat.vrep] at k ⊢; obtain ⟨b, e, k⟩ := k; exact ⟨b, h.bx e, k⟩
 | .rv _ _ _, _, k => by simp only [Go.Proofs.YtbgcjnfhadhjeaaGreat.vrep] at k ⊢; obtain ⟨a, m, c, e, k⟩ := k; exact ⟨a, m, c, h.rw e, k⟩
 | .po e x, _, k => by simp only [Go.Proofs.YtbgcjnfhadhjeaaGreat.vrep] at k ⊢; obtain ⟨y, e, k⟩ := k; exact ⟨y, e, A4 (Nat.le_refl _) (fun b _ hp => ⟨⟨(h.pl b).1 hp.1, hp.2.of (h.exblk b (g.plex b hp.1))⟩, h.exblk b (g.plex b hp.1)⟩) k⟩
theorem BZ.vreps (h : BZ B g w g' w') : ∀ {d : List V} {u : List Value}, vreps B g w d u → vreps B g' w' d u
 | [], _, k => by simp only [Go.Proofs.YtbgcjnfhadhjeaaGreat.vreps] at k ⊢; exact k
 | x :: xs, _, k => by simp only [Go.Proofs.YtbgcjnfhadhjeaaGreat.vreps] at k ⊢; obtain ⟨y, ys, e, k1, k2⟩ := k; exact ⟨y, ys, e, BZ.vrep h k1, BZ.vreps h k2⟩
end
theorem C0 : ∀ {l : List V} {cs : List Value}, vreps B g w l cs → cs.length = l.length
 | [], _, h => by simp only [vreps] at h; subst h; rfl
 | x :: xs, _, h => by simp only [vreps] at h; obtain ⟨y, ys, e, _, k⟩ := h; subst e; simp [C0 k]
theorem CH : ∀ {l : List V} {cs : List Value}, vreps B g w l cs → ∀ {i : Nat} {x : V}, l[i]? = some x → ∃ y, cs[i]? = some y ∧ vrep B g w x y
 | [], _, h, i, x, hx => by simp at hx
 | x :: xs, _, h, i, z, hx => by
  simp only [vreps] at h
  obtain ⟨y, ys, e, k1, k2⟩ := h
  subst e
  cases i with
  | zero => simp only [List.getElem?_cons_zero, Option.some.injEq] at hx; subst hx; exact ⟨y, rfl, k1⟩
  | succ i => simp only [List.getElem?_cons_succ] at hx ⊢; exact CH k2 hx
theorem Em : ∀ {l m : List V} {cs ds : List Value}, vreps B g w l cs → vreps B g w m ds → vreps B g w (l ++ m) (cs ++ ds)
 | [], m, cs, ds, h, k => by simp only [vreps] at h; subst h; exact k
 | x :: xs, m, _, ds, h, k => by
  simp only [vreps] at h
  obtain ⟨y, ys, e, k1, k2⟩ := h
  subst e
  simp only [List.cons_append, vreps]
  exact ⟨y, ys ++ ds, rfl, k1, Em k2 k⟩
theorem DN : ∀ {l : List V} {cs : List Value}, vreps B g w l cs → ∀ i, vreps B g w (l.take i) (cs.take i) ∧ vreps B g w (l.drop i) (cs.drop i)
 | [], _, h, i => by simp only [vreps] at h; subst h; simp [vreps]
 | x :: xs, _, h, i => by
  have h0 := h
  simp only [vreps] at h
  obtain ⟨y, ys, e, k1, k2⟩ := h
  subst e
  cases i with
  | zero => exact ⟨by simp [vreps], by simpa using h0⟩
  | succ i => obtain ⟨p, q⟩ := DN k2 i; simp only [List.take_succ_cons, List.drop_succ_cons, vreps]; exact ⟨⟨y, _, rfl, k1, p⟩, q⟩
theorem HK : ∀ {l : List D} {cs : List Value}, dreps B g.prot w l cs → vreps B g w (l.map .d) cs
 | [], _, h => by simpa [vreps, dreps] using h
 | x :: xs, _, h => by
  simp only [dreps] at h
  obtain ⟨y, ys, e, k1, k2⟩ := h
  simp only [List.map_cons, vreps]
  exact ⟨y, ys, e, (by simp only [vrep]; exact k1), HK k2⟩
end
inductive E where
 | c (k off : Nat) (vs : List V)
 | r (own nw : Bool) (k ver : Nat) (e : TypeId) (sz : Nat) (l : List (List D))
 | y (k : Nat) (r : Option Loop) (T : Array Value) (tm : List (Nat × V))
def Aq (k off : Nat) : List E → Option V
 | [] => none
 | .c k' o' vs :: s => match Nat.beq k k' with
  | true => (match Nat.ble o' off with
   | true => (match vs[off - o']? with
    | some v => some v
    | none => Aq k off s)
   | false => Aq k off s)
  | false => Aq k off s
 | .r _ _ _ _ _ _ _ :: s => Aq k off s
 | .y _ _ _ _ :: s => Aq k off s
def AM (k off : Nat) (s : List E) : Nat → Option (List V)
 | 0 => some []
 | n + 1 => match Aq k off s with
  | none => none
  | some v => (match AM k (off + 1) s n with
   | none => none
   | some vs => some (v :: vs))
def Az (k : Nat) : List E → Option (Bool × Bool × Nat × TypeId × Nat × List (List D))
 | [] => none
 | .r o nw k' v e sz l :: s => match Nat.beq k k' with
  | true => some (o, nw, v, e, sz, l)
  | false => Az k s
 | .c _ _ _ :: s => Az k s
 | .y _ _ _ _ :: s => Az k s
def Au (k : Nat) : List E → Option (Option Loop × Array Value × List (Nat × V))
 | [] => none
 | .y k' r T tm :: s => match Nat.beq k k' with
  | true => some (r, T, tm)
  | false => Au k s
 | .r _ _ _ _ _ _ _ :: s => Au k s
 | .c _ _ _ :: s => Au k s
def AA (t : Nat) : List (Nat × V) → Option V
 | [] => none
 | (t', v) :: s => match Nat.beq t t' with
  | true => some v
  | false => AA t s
structure CG (B nb : Nat) (g : G) (w : World) : Prop where
 bxlt : ∀ {k b}, g.bx k = some b → b < w.heap.size ∧ k < nb
 rblt : ∀ {k b}, g.rb k = some b → b < w.heap.size ∧ k < nb
 rwlt : ∀ {k i v}, g.rw k i = some v → k < nb
 bxinj : ∀ {k k' b}, g.bx k = some b → g.bx k' = some b → k = k'
 rbinj : ∀ {k k' b}, g.rb k = some b → g.rb k' = some b → k = k'
 apart : ∀ {k k' b}, g.bx k = some b → g.rb k' = some b → False
 exlt : ∀ {b}, g.ex b → b < w.heap.size
 exbx : ∀ {k b}, g.bx k = some b → ¬ g.ex b
 exrb : ∀ {k b}, g.rb k = some b → ¬ g.ex b
 plB : ∀ {b}, g.pl b → B ≤ b
 base : B ≤ w.heap.size
theorem BZ.of_below {B nb : Nat} {g : G} {w w' : World} (hi : CG B nb g w) (h : Below w.heap.size w w') : BZ B g w g w' :=
 ⟨h.os, h.tape, h.output, h.size, id, id, fun b hb hp => ⟨hp, h.block b hb⟩, fun _ h => h, fun b hb => h.block b (hi.exlt hb), .refl⟩
structure AC (B : Nat) (g : G) (w : World) (s : List E) : Prop where
 cell : ∀ {k off v}, Aq k off s = some v → ∃ b rcs ty u, g.bx k = some b ∧ w.heap[b]? = some (.cells rcs ty (0, 0)) ∧ rcs[off]? = some u ∧ vrep B g w v u
 row : ∀ {k o nw ver e sz l}, Az k s = some (o, nw, ver, e, sz, l) → ∃ v xs, g.rw k ver = some v ∧ drepss B g.prot w l xs ∧ ((∀ x ∈ l, x.length = sz) ∧ (∀ u ∈ xs, u.oneCell' = true) ∧ ∀ i v', g.rw k i = some v' → i ≤ ver) ∧ (nw = true → ∀ b, v.ownBlock = some b → B ≤ b) ∧
  ((o = true ∧ w.ownsRow 0 e sz v l.length xs ∧ g.rb k = v.ownBlock) ∨ (o = false ∧ g.rb k = none ∧ drep B g.prot w (.sl false nw l) v))
 loop : ∀ {k r T tm}, Au k s = some (r, T, tm) → (∀ lp, r = some lp → ∃ b, g.bx k = some b ∧ w.heap[b]? = some (.loop lp)) ∧ ∀ {t v}, AA t tm = some v → vrep B g w v (T.getD t undef)

section
variable {H : Type} {enc : TypeId × Value → H} {P : Program} {w : World} {base : Nat} {spare : Nat → Bool} {held : Bool}
theorem Qh {α : Type} (n : Nat) (p : Nat → α → Prop) (h : ∀ i, i < n → ∃ y, p i y) : ∃ l : List α, l.length = n ∧ ∀ i (hi : i < l.length), p i l[i] := by
 induction n with
 | zero => exact ⟨[], rfl, fun i hi => by simp at hi⟩
 | succ n ih =>
  obtain ⟨l, hl, hp⟩ := ih (fun i hi => h i (by omega))
  obtain ⟨y, hy⟩ := h n (by omega)
  refine ⟨l ++ [y], by simp [hl], fun i hi => ?_⟩
  by_cases e : i < l.length
  ·rw [List.getElem_append_left e]; exact hp i e
  ·obtain rfl : i = l.length := by simp at hi; omega
   simp
   rw [hl]; exact hy
theorem Ph {α : Type} (f : α → List Value) (size : Nat) (hf : ∀ y, (f y).length = size) (l : List α) (i j : Nat) (hi : i < l.length) (hj : j < size) : (l.flatMap f)[i * size + j]? = (f l[i])[j]? := by
 induction l generalizing i with
 | nil => simp at hi
 | cons x l ih =>
  rw [List.flatMap_cons]
  cases i with
  | zero => rw [Nat.zero_mul, Nat.zero_add, List.getElem?_append_left (by rw [hf]; exact hj)]; rfl
  | succ i =>
   rw [List.getElem?_append_right (by rw [hf, Nat.add_mul]; omega), hf, show (i + 1) * size + j - size = i * size + j from by rw [Nat.add_mul]; omega]
   exact ih i (by simpa using hi)
theorem Pg {α : Type} (f : α → List Value) (size : Nat) (hf : ∀ y, (f y).length = size) (l : List α) : (l.flatMap f).length = l.length * size := by
 induction l with
 | nil => simp
 | cons x l ih => rw [List.flatMap_cons, List.length_append, ih, hf, List.length_cons, Nat.add_mul]; omega
end

end Go.Proofs.YtbgcjnfhadhjeaaGreat