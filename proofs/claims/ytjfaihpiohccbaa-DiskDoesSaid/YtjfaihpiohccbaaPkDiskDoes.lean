/- DiskDoes: for every input the law returns true, and turns nothing that was there; no condition. -/
import Derived.ProofKit
import Derived.OpenShut
import Derived.Deep.Slices
import Derived.Lib.SmallJoins
import Derived.ShutString
import Derived.ChangeOld
import Derived.Test.YtjfaihpiohccbaaRows
import Derived.Test.YtjfaihpiohccbaaPk21
namespace Go.Proofs.Ytjfaihpiohccbaa
open Go.RowKit

set_option maxHeartbeats 400000 in
theorem clone_bytes (v : Value) (l : List UInt8) (w : World) (h : Bytes w v l) (hlen : l.length ≤ 140737488355328) :
    Calls Try.prog 38 #[v] w fun e w' => ∃ v', e = .returned v' ∧ OwnB w.heap.size w' v' l ∧ Below w.heap.size w w' := by
  have h' := h
  obtain ⟨a, c, rfl, hc, hm, hnil, r⟩ := h'
  cases a with
  | none =>
    obtain rfl : c = 0 := hnil rfl
    obtain rfl : l = [] := List.eq_nil_of_length_eq_zero (by omega)
    have hq := Lib.run_eql_slice_nil (P := Try.prog) w 22 5 none 0 0 0 0 Try.underlying22
    go_enter Try.func38, Try.ntmps38
    go_wp2
    go_ret
    exact ⟨_, rfl, World.ownsRow_nil _ _ _ _, Below.refl _ _⟩
  | some ad =>
    have hq := Lib.run_eql_slice_nil (P := Try.prog) w 22 5 (some ad) l.length c 0 0 Try.underlying22
    have H := Lib.hid h
    clear h
    go_enter Try.func38, Try.ntmps38
    go_wp2_with (refine wl_append (w.heap.size) elem_byte rfl rfl rfl (World.ownsRow_lit (base := w.heap.size) (e := 5) (size := 1) w #[] 0 (Nat.le_refl _) (by unfold maxLen; omega) rfl) (H.out.below ((Below.refl _ w).alloc (Nat.le_refl _) _)) (by simp) (one_bytes l) (by simpa using Nat.le_trans hc hm) (by omega) (by simp) ?_; intro v' w1 hown hg)
    go_ret
    exact ⟨_, rfl, by simpa [OwnB] using hown, by
      refine below_append (base := w.heap.size) ((Below.refl _ w).alloc (Nat.le_refl _) _) (Nat.le_refl _) (by simp) (World.ownsRow_lit (base := w.heap.size) (e := 5) (size := 1) w #[] 0 (Nat.le_refl _) (by unfold maxLen; omega) rfl) hg⟩

/-- do bytes begin with others? -/
def beginsB : List UInt8 → List UInt8 → Bool
  | _, [] => true
  | [], _ :: _ => false
  | x :: l, y :: m => x == y && beginsB l m

end Go.Proofs.Ytjfaihpiohccbaa

namespace Go.Proofs.Ytjfaihpiohccbaa
open Go.RowKit

section
variable {H : Type} {enc : TypeId × Value → H} {P : Program} {w : World} {base : Nat} {spare : Nat → Bool} {held : Bool}

theorem list_of_fn {α : Type} (n : Nat) (p : Nat → α → Prop) (h : ∀ i, i < n → ∃ y, p i y) : ∃ l : List α, l.length = n ∧ ∀ i (hi : i < l.length), p i l[i] := by
  induction n with
  | zero => exact ⟨[], rfl, fun i hi => by simp at hi⟩
  | succ n ih =>
    obtain ⟨l, hl, hp⟩ := ih (fun i hi => h i (by omega))
    obtain ⟨y, hy⟩ := h n (by omega)
    refine ⟨l ++ [y], by simp [hl], fun i hi => ?_⟩
    by_cases e : i < l.length
    · rw [List.getElem_append_left e]; exact hp i e
    · obtain rfl : i = l.length := by simp at hi; omega
      simp
      rw [hl]; exact hy

theorem flatMap_get {α : Type} (f : α → List Value) (size : Nat) (hf : ∀ y, (f y).length = size) (l : List α) (i j : Nat) (hi : i < l.length) (hj : j < size) : (l.flatMap f)[i * size + j]? = (f l[i])[j]? := by
  induction l generalizing i with
  | nil => simp at hi
  | cons x l ih =>
    rw [List.flatMap_cons]
    cases i with
    | zero => rw [Nat.zero_mul, Nat.zero_add, List.getElem?_append_left (by rw [hf]; exact hj)]; rfl
    | succ i =>
      rw [List.getElem?_append_right (by rw [hf, Nat.add_mul]; omega), hf, show (i + 1) * size + j - size = i * size + j from by rw [Nat.add_mul]; omega]
      exact ih i (by simpa using hi)
theorem flatMap_len {α : Type} (f : α → List Value) (size : Nat) (hf : ∀ y, (f y).length = size) (l : List α) : (l.flatMap f).length = l.length * size := by
  induction l with
  | nil => simp
  | cons x l ih => rw [List.flatMap_cons, List.length_append, ih, hf, List.length_cons, Nat.add_mul]; omega

/-- a slice of plain elements (of a known number of cells each) that came in -/
theorem rows_of_trod {α : Type} (f : α → List Value) (size : Nat) {t e : TypeId} {fuel : Nat} {a : Option Addr} {n c : Nat} {x : DataW H × List MemPlace} (hpos : 0 < size) (hf : ∀ y, (f y).length = size) (hsz : P.cellsOf e = size) (ht : P.underlying t = some (.slice e))
    (hel : ∀ (fuel : Nat) (cs : List Value) (x : DataW H × List MemPlace), DataW.trod enc P w base spare held fuel e cs = some x → ∃ y, cs = f y) (h : DataW.trod enc P w base spare held fuel t [.slice a n c] = some x) :
    ∃ l : List α, l.length = n ∧ IsSl w (.slice a n c) n (l.flatMap f) := by
  rcases Deep.open_slice ht h with ⟨hcs, _⟩ | ⟨ad, len, cap, m, k, D, Pl, hcs, hb, hl, hm, hmm, _, hx⟩
  · simp only [List.cons.injEq, and_true, Value.slice.injEq] at hcs
    obtain ⟨rfl, rfl, rfl⟩ := hcs
    exact ⟨[], rfl, IsSl.nil w⟩
  · simp only [List.cons.injEq, and_true, Value.slice.injEq] at hcs
    obtain ⟨rfl, rfl, rfl⟩ := hcs
    have hnm : n ≤ m := by rw [hmm]; split <;> omega
    rw [hsz] at hx
    obtain ⟨l, hl1, hp⟩ := list_of_fn n (fun i y => ∀ j v, (f y)[j]? = some v → w.cell? (ad.add (i * size + j)) = some v) (fun i hi => by
      obtain ⟨cs', h1, h2⟩ := hx i (by omega)
      obtain ⟨y, rfl⟩ := hel _ _ _ h2
      obtain ⟨_, h3, h4⟩ := World.cells?_some h1
      refine ⟨y, fun j v hv => ?_⟩
      have hj := (List.getElem?_eq_some_iff.1 hv).1
      rw [← Deep.add_add, h4 j (by omega)]
      exact hv)
    refine ⟨l, hl1, some ad, c, rfl, hl, hm, by simp, fun j u hu => ?_⟩
    have hj := (List.getElem?_eq_some_iff.1 hu).1
    rw [flatMap_len f size hf] at hj
    have hd : j / size < l.length := Nat.div_lt_of_lt_mul (by rwa [Nat.mul_comm])
    have hmd : j % size < size := Nat.mod_lt _ hpos
    have hjj : j / size * size + j % size = j := by rw [Nat.mul_comm]; exact Nat.div_add_mod j size
    have hc0 := hp (j / size) hd (j % size) u (by rw [← flatMap_get f size hf l _ _ hd hmd, hjj]; exact hu)
    rw [hjj] at hc0
    have hl0 : 0 < l.length := Nat.lt_of_le_of_lt (Nat.zero_le _) hd
    obtain ⟨v0, hv0⟩ : ∃ v0, (f l[0])[0]? = some v0 := ⟨_, List.getElem?_eq_getElem (l := f l[0]) (by rw [hf]; exact hpos)⟩
    have hc1 := hp 0 (by omega) 0 v0 hv0
    simp only [Nat.zero_mul, Nat.add_zero] at hc1
    have hs := World.cell?_spot hc1
    obtain ⟨b, o, sp⟩ := ad
    simp only [Addr.add, if_pos] at hs
    subst hs
    refine ⟨b, o, rfl, ?_⟩
    have hadd : (⟨b, o, none⟩ : Addr).add j = ⟨b, o + j, none⟩ := by unfold Addr.add; split <;> simp_all
    rw [hadd] at hc0
    exact hc0

theorem byte_of_trod {fuel : Nat} {cs : List Value} {x : DataW H × List MemPlace} {e : TypeId} (he : P.underlying e = some (.int .u8)) (h : DataW.trod enc P w base spare held fuel e cs = some x) : ∃ y : UInt8, cs = [vb y] := by
  obtain ⟨n, rfl, _, hw⟩ := DataW.trod_int he h
  have hb := bounds_u8 hw
  refine ⟨UInt8.ofNat n.toNat, ?_⟩
  simp only [vb, List.cons.injEq, and_true, Value.int.injEq, true_and]
  simp
  omega

theorem flatMap_one {α : Type} (f : α → Value) (l : List α) : l.flatMap (fun y => [f y]) = l.map f := by
  induction l with
  | nil => rfl
  | cons x l ih => simp [List.flatMap_cons, ih]

end

theorem bytes_of_trod {H : Type} {enc : TypeId × Value → H} {w : World} {base : Nat} {spare : Nat → Bool} {held : Bool} {fuel : Nat} {a : Option Addr} {n c : Nat} {x : DataW H × List MemPlace} (h : DataW.trod enc Try.prog w base spare held fuel 22 [.slice a n c] = some x) :
    ∃ l : List UInt8, l.length = n ∧ Bytes w (.slice a n c) l := by
  obtain ⟨l, hl, hs⟩ := rows_of_trod (fun y : UInt8 => [vb y]) 1 (by decide) (fun _ => rfl) (by kernel_rfl) Try.underlying22 (fun _ _ _ h => byte_of_trod Try.underlying5 h) h
  refine ⟨l, hl, ?_⟩
  rw [flatMap_one] at hs
  subst hl
  exact hs

end Go.Proofs.Ytjfaihpiohccbaa

namespace Go.Proofs.Ytjfaihpiohccbaa
open Go.RowKit

/-- what comes in at this type is this data, for some y -/
structure Opn (P : Program) (t : TypeId) {α : Type} (p : α → Prop) (f : α → List D) : Prop where
  len : ∀ y, p y → (f y).length = P.cellsOf t
  h : ∀ {H : Type} {enc : TypeId × Value → H} {w : World} {base : Nat} {spare : Nat → Bool} {held : Bool} {fuel : Nat} {cs : List Value} {x : DataW H × List MemPlace}, DataW.trod enc P w base spare held fuel t cs = some x →
    ∃ y, p y ∧ (∀ B, dreps B (fun _ => True) w (f y) cs) ∧ ∀ u ∈ cs, u.oneCell' = true
section
variable {P : Program} {t e : TypeId} {α β : Type} {p : α → Prop} {q : β → Prop} {f : α → List D} {g : β → List D}
theorem Opn.map (h : Opn P t p f) (k : ∀ y, p y → ∃ z, q z ∧ g z = f y) (hl : ∀ z, q z → (g z).length = P.cellsOf t) : Opn P t q g := ⟨hl, fun hx => by
  obtain ⟨y, h1, h2, h3⟩ := h.h hx
  obtain ⟨z, k1, k2⟩ := k y h1
  exact ⟨z, k1, by rw [k2]; exact h2, h3⟩⟩
theorem Opn.int {k : IntKind} (ht : P.underlying t = some (.int k)) (hs : P.cellsOf t = 1) : Opn P t (fun n : Int => (Lit.int k n).wf = true) (fun n => [.lit (.int k n)]) := ⟨fun _ _ => by simp [hs], fun hx => by
  obtain ⟨n, rfl, _, hw⟩ := DataW.trod_int ht hx
  exact ⟨n, hw, fun B => by simp [dreps, drep], by simp [Value.oneCell']⟩⟩
theorem Opn.i64 (ht : P.underlying t = some (.int .i64)) (hs : P.cellsOf t = 1) : Opn P t (fun n : Int => -9223372036854775808 ≤ n ∧ n ≤ 9223372036854775807) (fun n => [.lit (.int .i64 n)]) :=
  (Opn.int ht hs).map (fun n hn => ⟨n, bounds_i64 hn, rfl⟩) (fun _ _ => by simp [hs])
theorem Opn.u8 (ht : P.underlying t = some (.int .u8)) (hs : P.cellsOf t = 1) : Opn P t (fun _ : UInt8 => True) (fun y => [.lit (vb y)]) :=
  (Opn.int ht hs).map (fun n hn => by
    have hb := bounds_u8 hn
    refine ⟨UInt8.ofNat n.toNat, trivial, ?_⟩
    simp only [vb, List.cons.injEq, and_true, D.lit.injEq, Value.int.injEq, true_and]
    simp
    omega) (fun _ _ => by simp [hs])
theorem Opn.bool (ht : P.underlying t = some .bool) (hs : P.cellsOf t = 1) : Opn P t (fun _ : Bool => True) (fun b => [.lit (.bool b)]) := ⟨fun _ _ => by simp [hs], fun hx => by
  obtain ⟨n, rfl, _⟩ := DataW.trod_bool ht hx
  exact ⟨n, trivial, fun B => by simp [dreps, drep], by simp [Value.oneCell']⟩⟩
theorem drepss_flat {B : Nat} {U : Nat → Prop} {w : World} {γ : Type} (a : γ → List D) (b : γ → List Value) : ∀ {l : List γ}, (∀ y ∈ l, dreps B U w (a y) (b y)) → drepss B U w (l.map a) (l.flatMap b)
  | [], _ => by simp [drepss]
  | y :: l, h => by
    simp only [List.map_cons, List.flatMap_cons, drepss]
    exact ⟨_, _, rfl, h y (by simp), drepss_flat a b fun z hz => h z (by simp [hz])⟩
theorem Opn.slice (h : Opn P e p f) (ht : P.underlying t = some (.slice e)) (hpos : 0 < P.cellsOf e) (hs : P.cellsOf t = 1) : Opn P t (fun l : List α => (∀ y ∈ l, p y) ∧ l.length ≤ 9223372036854775807) (fun l => [.sl false false (l.map f)]) := ⟨fun _ _ => by simp [hs], fun {H enc w base spare held fuel cs x} hx => by
  rcases Deep.open_slice ht hx with ⟨rfl, _⟩ | ⟨ad, n, cap, m, k, D', Pl, rfl, hb, hl, hm, hmm, _, hx⟩
  · exact ⟨[], ⟨by simp, by simp⟩, fun B => by simp only [dreps, List.map_nil]; exact ⟨_, [], rfl, dle_nil false false B _ _ _ (by simp only [drep]), rfl⟩, by simp [Value.oneCell']⟩
  · have hnm : n ≤ m := by rw [hmm]; split <;> omega
    obtain ⟨L, hl1, hp⟩ := list_of_fn (α := { z : α × List Value // z.2.length = P.cellsOf e }) n (fun i z => p z.1.1 ∧ (∀ B, dreps B (fun _ => True) w (f z.1.1) z.1.2) ∧ (∀ u ∈ z.1.2, u.oneCell' = true) ∧ ∀ j v, z.1.2[j]? = some v → w.cell? (ad.add (i * P.cellsOf e + j)) = some v) (fun i hi => by
      obtain ⟨cs', h1, h2⟩ := hx i (by omega)
      obtain ⟨y, k1, k2, k3⟩ := h.h h2
      obtain ⟨h0, h3, h4⟩ := World.cells?_some h1
      have hlen : cs'.length = P.cellsOf e := by rw [dreps_len (k2 0), h.len y k1]
      refine ⟨⟨(y, cs'), hlen⟩, k1, k2, k3, fun j v hv => ?_⟩
      have hj := (List.getElem?_eq_some_iff.1 hv).1
      simp only at hj hv
      rw [← Deep.add_add, h4 j (by omega)]
      exact hv)
    have hp' : ∀ z ∈ L, p z.1.1 ∧ (∀ B, dreps B (fun _ => True) w (f z.1.1) z.1.2) ∧ ∀ u ∈ z.1.2, u.oneCell' = true := fun z hz => by
      obtain ⟨i, hi, rfl⟩ := List.mem_iff_getElem.1 hz
      exact ⟨(hp i hi).1, (hp i hi).2.1, (hp i hi).2.2.1⟩
    have hlm : (L.map fun z => z.1.1).length = n := by rw [List.length_map, hl1]
    refine ⟨L.map fun z => z.1.1, ⟨fun y hy => ?_, by rw [hlm]; unfold maxLen at hm; omega⟩, fun B => ?_, by simp [Value.oneCell']⟩
    · obtain ⟨z, hz, rfl⟩ := List.mem_map.1 hy
      exact (hp' z hz).1
    simp only [dreps, drep]
    refine ⟨_, [], rfl, ⟨some ad, cap, L.flatMap fun z => z.1.2, by rw [List.length_map, hlm], by rw [List.length_map, hlm]; exact hl, hm, (fun h => by cases h), (fun h => by cases h), ⟨P.cellsOf e, fun x hx => ?_⟩, fun u hu => ?_, fun j u hu => ?_, ?_⟩, rfl⟩
    · obtain ⟨y, hy, rfl⟩ := List.mem_map.1 hx
      obtain ⟨z, hz, rfl⟩ := List.mem_map.1 hy
      exact h.len _ (hp' z hz).1
    · obtain ⟨z, hz, hu⟩ := List.mem_flatMap.1 hu
      exact (hp' z hz).2.2 u hu
    · have hj := (List.getElem?_eq_some_iff.1 hu).1
      have hz2 : ∀ z : { z : α × List Value // z.2.length = P.cellsOf e }, z.1.2.length = P.cellsOf e := fun z => z.2
      rw [flatMap_len (fun z : { z : α × List Value // z.2.length = P.cellsOf e } => z.1.2) (P.cellsOf e) hz2 L] at hj
      have hd : j / P.cellsOf e < L.length := Nat.div_lt_of_lt_mul (by rwa [Nat.mul_comm])
      have hmd : j % P.cellsOf e < P.cellsOf e := Nat.mod_lt _ hpos
      have hjj : j / P.cellsOf e * P.cellsOf e + j % P.cellsOf e = j := by rw [Nat.mul_comm]; exact Nat.div_add_mod j _
      have hc0 := (hp (j / P.cellsOf e) hd).2.2.2 (j % P.cellsOf e) u (by rw [← flatMap_get (fun z : { z : α × List Value // z.2.length = P.cellsOf e } => z.1.2) (P.cellsOf e) hz2 L _ _ hd hmd, hjj]; exact hu)
      rw [hjj] at hc0
      have hl0 : 0 < L.length := Nat.lt_of_le_of_lt (Nat.zero_le _) hd
      obtain ⟨v0, hv0⟩ : ∃ v0, (L[0].1.2)[0]? = some v0 := ⟨_, List.getElem?_eq_getElem (l := L[0].1.2) (by rw [L[0].2]; exact hpos)⟩
      have hc1 := (hp 0 (by omega)).2.2.2 0 v0 hv0
      simp only [Nat.zero_mul, Nat.add_zero] at hc1
      have hs := World.cell?_spot hc1
      obtain ⟨b, o, sp⟩ := ad
      simp only [Addr.add, if_pos] at hs
      subst hs
      refine ⟨b, o, rfl, ⟨trivial, fun h => by cases h⟩, ?_⟩
      have hadd : (⟨b, o, none⟩ : Addr).add j = ⟨b, o + j, none⟩ := by unfold Addr.add; split <;> simp_all
      rw [hadd] at hc0
      exact hc0
    · rw [List.map_map]
      exact drepss_flat (fun z => f z.1.1) (fun z => z.1.2) fun z hz => (hp' z hz).2.1 B⟩
/-- fields, from a cell on -/
structure OpnF (P : Program) (tot off : Nat) (fs : List Field) {α : Type} (p : α → Prop) (f : α → List D) : Prop where
  len : ∀ y, p y → off + (f y).length = tot
  h : ∀ {H : Type} {enc : TypeId × Value → H} {w : World} {base : Nat} {spare : Nat → Bool} {held : Bool} {n : Nat} {cs : List Value}, cs.length = tot → (∀ fl ∈ fs, ∃ x, DataW.trod enc P w base spare held n fl.type ((cs.drop fl.offset).take (P.cellsOf fl.type)) = some x) →
    ∃ y, p y ∧ (∀ B, dreps B (fun _ => True) w (f y) (cs.drop off)) ∧ ∀ u ∈ cs.drop off, u.oneCell' = true
theorem OpnF.nil {tot off : Nat} (h : off = tot) : OpnF P tot off [] (fun _ : Unit => True) (fun _ => []) := ⟨fun _ _ => by simp [h], fun hc _ => ⟨(), trivial, fun B => by simp [dreps]; omega, by rw [List.drop_eq_nil_of_le (by omega)]; simp⟩⟩
theorem OpnF.cons {tot off : Nat} {fl : Field} {fs : List Field} (h : Opn P fl.type p f) (ho : fl.offset = off) (hr : OpnF P tot (off + P.cellsOf fl.type) fs q g) : OpnF P tot off (fl :: fs) (fun y : α × β => p y.1 ∧ q y.2) (fun y => f y.1 ++ g y.2) := ⟨fun y hy => by
  have h1 := h.len y.1 hy.1
  have h2 := hr.len y.2 hy.2
  simp only [List.length_append]; omega, fun {H enc w base spare held n cs} hc hx => by
  obtain ⟨x, hx0⟩ := hx fl (by simp)
  obtain ⟨y, k1, k2, k3⟩ := h.h hx0
  obtain ⟨z, m1, m2, m3⟩ := hr.h hc fun fl hfl => hx fl (by simp [hfl])
  subst ho
  have e := List.take_append_drop (P.cellsOf fl.type) (List.drop fl.offset cs)
  rw [List.drop_drop] at e
  refine ⟨(y, z), ⟨k1, m1⟩, fun B => ?_, fun u hu => ?_⟩
  · rw [← e]; exact dreps_app (k2 B) (m2 B)
  · rw [← e] at hu
    rcases List.mem_append.1 hu with hu | hu
    · exact k3 u hu
    · exact m3 u hu⟩
theorem Opn.struct {fs : Array Field} {tot : Nat} (ht : P.underlying t = some (.struct fs)) (hs : P.cellsOf t = tot) (h : OpnF P tot 0 fs.toList p f) : Opn P t p f := ⟨fun y hy => by have := h.len y hy; omega, fun hx => by
  obtain ⟨xs, n, _, _, hl, hlen, hf⟩ := DataW.trod_struct ht hx
  obtain ⟨y, k1, k2, k3⟩ := h.h (hl.trans hs) fun fl hfl => by
    obtain ⟨i, hi, rfl⟩ := List.mem_iff_getElem.1 hfl
    have hi' : i < fs.size := by simpa using hi
    refine ⟨xs[i]'(by omega), ?_⟩
    have := hf i (fs.toList[i]) (by simp [hi'])
    rw [this, List.getElem?_eq_getElem]
  exact ⟨y, k1, by simpa using k2, by simpa using k3⟩⟩
theorem opn_rows {H : Type} {enc : TypeId × Value → H} {w : World} {base : Nat} {spare : Nat → Bool} {held : Bool} {m : Nat} (h : Opn P e p f) : ∀ (n : Nat) (cs : List Value), cs.length = n * P.cellsOf e → (∀ i, i < n → ∃ x, DataW.trod enc P w base spare held m e ((cs.drop (i * P.cellsOf e)).take (P.cellsOf e)) = some x) →
    ∃ l : List α, l.length = n ∧ (∀ y ∈ l, p y) ∧ (∀ B, dreps B (fun _ => True) w (l.flatMap f) cs) ∧ ∀ u ∈ cs, u.oneCell' = true
  | 0, cs, hc, _ => by
    have : cs = [] := List.eq_nil_of_length_eq_zero (by simpa using hc)
    subst this
    exact ⟨[], rfl, by simp, fun B => by simp [dreps], by simp⟩
  | n + 1, cs, hc, hx => by
    obtain ⟨x, h0⟩ := hx 0 (by omega)
    simp only [Nat.zero_mul, List.drop_zero] at h0
    obtain ⟨y, k1, k2, k3⟩ := h.h h0
    have e1 : (n + 1) * P.cellsOf e = P.cellsOf e + n * P.cellsOf e := by rw [Nat.add_mul]; omega
    obtain ⟨l, m1, m2, m3, m4⟩ := opn_rows h n (cs.drop (P.cellsOf e)) (by rw [List.length_drop, hc]; omega) fun i hi => by
      obtain ⟨x, hx⟩ := hx (i + 1) (by omega)
      refine ⟨x, ?_⟩
      rw [List.drop_drop, ← hx, show (i + 1) * P.cellsOf e = P.cellsOf e + i * P.cellsOf e by rw [Nat.add_mul]; omega]
    have e2 := List.take_append_drop (P.cellsOf e) cs
    refine ⟨y :: l, by simp [m1], fun z hz => ?_, fun B => ?_, fun u hu => ?_⟩
    · rcases List.mem_cons.1 hz with rfl | hz
      · exact k1
      · exact m2 z hz
    · rw [List.flatMap_cons, ← e2]; exact dreps_app (k2 B) (m3 B)
    · rw [← e2] at hu
      rcases List.mem_append.1 hu with hu | hu
      · exact k3 u hu
      · exact m4 u hu
theorem opn_flat (h : Opn P e p f) : ∀ {l : List α}, (∀ y ∈ l, p y) → (l.flatMap f).length = l.length * P.cellsOf e
  | [], _ => by simp
  | y :: l, hl => by
    have := h.len y (hl y (by simp))
    rw [List.flatMap_cons, List.length_append, opn_flat h fun z hz => hl z (by simp [hz]), this, List.length_cons, Nat.add_mul]; omega
theorem Opn.array {n : Nat} (h : Opn P e p f) (ht : P.underlying t = some (.array n e)) (hs : P.cellsOf t = n * P.cellsOf e) : Opn P t (fun l : List α => l.length = n ∧ ∀ y ∈ l, p y) (fun l => l.flatMap f) := ⟨fun y hy => by rw [opn_flat h hy.2, hy.1, hs], fun hx => by
  obtain ⟨xs, m, _, _, hl, hlen, hf⟩ := DataW.trod_array ht hx
  obtain ⟨l, k1, k2, k3, k4⟩ := opn_rows h n _ (hl.trans hs) fun i hi => ⟨xs[i]'(by omega), by rw [hf i hi, List.getElem?_eq_getElem]⟩
  exact ⟨l, ⟨k1, k2⟩, k3, k4⟩⟩

/-! ### an argument -/
variable {H : Type} {enc : TypeId × Value → H} {w : World} {base b0 : Nat} {spare : Nat → Bool} {held : Bool} {r : Reach} {v : Value} {d : DataW H} {ps : List MemPlace}
theorem arg_struct (h : Opn P t p f) {fs : Array Field} (ht : P.underlying t = some (.struct fs)) (hv : Value.okWide P w r b0 t v) (hx : DataW.Trod enc P w base spare held t v d ps) : ∃ y, p y ∧ ∀ B, drep B (fun _ => True) w (.agg (f y)) v := by
  unfold Value.okWide at hv
  rw [ht] at hv
  obtain ⟨cs, rfl, _, _⟩ := hv
  obtain ⟨fuel, hx⟩ := hx
  obtain ⟨y, k1, k2, _⟩ := h.h hx
  exact ⟨y, k1, fun B => by simp only [drep]; exact ⟨cs.toList, rfl, k2 B⟩⟩
theorem arg_array (h : Opn P t p f) {n : Nat} (ht : P.underlying t = some (.array n e)) (hv : Value.okWide P w r b0 t v) (hx : DataW.Trod enc P w base spare held t v d ps) : ∃ y, p y ∧ ∀ B, drep B (fun _ => True) w (.agg (f y)) v := by
  unfold Value.okWide at hv
  rw [ht] at hv
  obtain ⟨cs, rfl, _, _⟩ := hv
  obtain ⟨fuel, hx⟩ := hx
  obtain ⟨y, k1, k2, _⟩ := h.h hx
  exact ⟨y, k1, fun B => by simp only [drep]; exact ⟨cs.toList, rfl, k2 B⟩⟩
theorem arg_cell {f : α → D} (h : Opn P t p fun y => [f y]) (hn : v.cells.toList = [v]) (hx : DataW.Trod enc P w base spare held t v d ps) : ∃ y, p y ∧ ∀ B, drep B (fun _ => True) w (f y) v := by
  obtain ⟨fuel, hx⟩ := hx
  rw [hn] at hx
  obtain ⟨y, k1, k2, _⟩ := h.h hx
  refine ⟨y, k1, fun B => ?_⟩
  have := k2 B
  simp only [dreps] at this
  obtain ⟨u, us, e, h1, _⟩ := this
  cases e; exact h1
end
end Go.Proofs.Ytjfaihpiohccbaa

namespace Go.Proofs.Ytjfaihpiohccbaa
open Go.RowKit
def I64 (n : Int) : Prop := -9223372036854775808 ≤ n ∧ n ≤ 9223372036854775807
theorem opn_int : Opn Try.prog 3 I64 (fun n => [.lit (.int .i64 n)]) := Opn.i64 Try.underlying3 (by kernel_rfl)
theorem opn_bool : Opn Try.prog 4 (fun _ : Bool => True) (fun b => [.lit (.bool b)]) := Opn.bool Try.underlying4 (by kernel_rfl)
theorem opn_by : Opn Try.prog 22 (fun b : List UInt8 => b.length ≤ 9223372036854775807) (fun b => [.sl false false (byD b)]) :=
  (Opn.slice (Opn.u8 Try.underlying5 (by kernel_rfl)) Try.underlying22 (by rw [show Try.prog.cellsOf 5 = 1 by kernel_rfl]; omega) (by kernel_rfl)).map (fun y h => ⟨y, h.2, rfl⟩) (fun z hz => by rw [show Try.prog.cellsOf 22 = 1 by kernel_rfl]; rfl)
theorem opn_op : Opn Try.prog 43 (fun o : DOp => I64 o.k ∧ I64 o.f) opD :=
  (Opn.struct (tot := 3) Try.underlying43 (by kernel_rfl) (OpnF.cons opn_int rfl (OpnF.cons opn_int (by kernel_rfl) (OpnF.cons opn_by (by kernel_rfl) (OpnF.nil (by kernel_rfl)))))).map
    (fun y h => ⟨⟨y.1, y.2.1, y.2.2.1⟩, ⟨h.1, h.2.1⟩, rfl⟩) (fun z hz => by rw [show Try.prog.cellsOf 43 = 3 by kernel_rfl]; rfl)
theorem opn_ops : Opn Try.prog 24 (fun _ : List DOp => True) (fun l => [.sl false false (l.map opD)]) :=
  (Opn.slice opn_op Try.underlying24 (by rw [show Try.prog.cellsOf 43 = 3 by kernel_rfl]; omega) (by kernel_rfl)).map (fun y h => ⟨y, trivial, rfl⟩) (fun z hz => by rw [show Try.prog.cellsOf 24 = 1 by kernel_rfl]; rfl)
theorem opn_files : Opn Try.prog 23 (fun _ : List UInt8 × List UInt8 × List UInt8 × List UInt8 => True) (fun x => [.sl false false (byD x.1), .sl false false (byD x.2.1), .sl false false (byD x.2.2.1), .sl false false (byD x.2.2.2)]) :=
  (Opn.array (n := 4) opn_by Try.underlying23 (by kernel_rfl)).map (fun y h => by
    obtain ⟨h1, _⟩ := h
    match y, h1 with
    | [a, b, c, d], _ => exact ⟨(a, b, c, d), trivial, rfl⟩) (fun z hz => by rw [show Try.prog.cellsOf 23 = 4 by kernel_rfl]; rfl)
theorem opn_dk : Opn Try.prog 26 (fun _ : Dk => True) dkD :=
  (Opn.struct (tot := 8) Try.underlying26 (by kernel_rfl) (OpnF.cons opn_files rfl (OpnF.cons opn_int (by kernel_rfl) (OpnF.cons opn_ops (by kernel_rfl) (OpnF.cons opn_bool (by kernel_rfl) (OpnF.cons opn_int (by kernel_rfl) (OpnF.nil (by kernel_rfl)))))))).map
    (fun y h => ⟨⟨y.1.1, y.1.2.1, y.1.2.2.1, y.1.2.2.2, y.2.1, y.2.2.1, y.2.2.2.1, y.2.2.2.2.1⟩, trivial, rfl⟩) (fun z hz => by rw [show Try.prog.cellsOf 26 = 8 by kernel_rfl]; rfl)
theorem opn_two : Opn Try.prog 31 (fun x : Int × Int => I64 x.1 ∧ I64 x.2) (fun x => [.lit (.int .i64 x.1), .lit (.int .i64 x.2)]) :=
  (Opn.array (n := 2) opn_int Try.underlying31 (by kernel_rfl)).map (fun y h => by
    obtain ⟨h1, h2⟩ := h
    match y, h1, h2 with
    | [a, b], _, h2 => exact ⟨(a, b), ⟨h2 a (by simp), h2 b (by simp)⟩, rfl⟩) (fun z hz => by rw [show Try.prog.cellsOf 31 = 2 by kernel_rfl]; rfl)
theorem opn_twos : Opn Try.prog 27 (fun l : List (Int × Int) => ∀ x ∈ l, I64 x.1 ∧ I64 x.2) (fun l => [.sl false false (l.map fun x => [.lit (.int .i64 x.1), .lit (.int .i64 x.2)])]) :=
  (Opn.slice opn_two Try.underlying27 (by rw [show Try.prog.cellsOf 31 = 2 by kernel_rfl]; omega) (by kernel_rfl)).map (fun y h => ⟨y, h.1, rfl⟩) (fun z hz => by rw [show Try.prog.cellsOf 27 = 1 by kernel_rfl]; rfl)
theorem opn_ints : Opn Try.prog 61 (fun l : List Int => ∀ x ∈ l, I64 x) (fun l => [.sl false false (l.map fun x => [.lit (.int .i64 x)])]) :=
  (Opn.slice opn_int Try.underlying61 (by rw [show Try.prog.cellsOf 3 = 1 by kernel_rfl]; omega) (by kernel_rfl)).map (fun y h => ⟨y, h.1, rfl⟩) (fun z hz => by rw [show Try.prog.cellsOf 61 = 1 by kernel_rfl]; rfl)
end Go.Proofs.Ytjfaihpiohccbaa

namespace Go.Proofs.Ytjfaihpiohccbaa
open Go.RowKit
set_option maxRecDepth 10000
set_option maxHeartbeats 4000000
abbrev dkR (x : Dk × Int) : D := .tup [.agg (dkD x.1), .lit (.int .i64 x.2)]
theorem fits_may {d : Dk} {o : DOp} (hc : checkB d = true) (hm : mayD o = true) : d.fits o = (decide (d.waits.length < 4096) && decide ((((d.doAll d.waits).file o.f).length : Int) + o.b.length ≤ 4194304)) := by
  have h := hc
  simp only [checkB, Bool.and_eq_true] at h
  have hs := doAll_sz d.waits d h.1.1.2
  have hin := aftL_in _ _ (fits4_in d h.1.2) h.1.1.2 h.2
  have hkf := (may_kf o hm).2
  have hg : ((d.doAll d.waits).file o.f).length = (aftL (sz4 d) d.waits).get o.f := by
    rw [← hs]
    have h4 : o.f = 0 ∨ o.f = 1 ∨ o.f = 2 ∨ o.f = 3 := by omega
    rcases h4 with e | e | e | e <;> rw [e] <;> simp [Dk.file, sz4, S4.get]
  have ha : (aftL (sz4 d) (d.waits ++ [o])).get o.f = aft1 o ((aftL (sz4 d) d.waits).get o.f) := by
    rw [← aft_get]; simp [aftL]
  have hb := S4.get_in hin o.f
  simp only [Dk.fits, ha, hg]
  congr 1
  refine decide_eq_decide.2 ?_
  unfold aft1
  rcases may_cases o hm with ⟨e, _⟩ | ⟨e, e2⟩ | ⟨e, e2⟩
  · rw [if_neg (by omega)]
  · rw [if_pos e, e2]; simp; omega
  · rw [if_neg (by omega)]
theorem rdo_v (d : Dk) (o : DOp) (hc : checkB d = true) (hob : o.b.length ≤ 1000000000) : VP Try.prog 27 [.agg (dkD d), .agg (opD o)] (· = .ret (dkR (d.doOp o))) := by
  have hop := rop_v o
  have hwb := check_wb d hc
  have hfu := check_fuse d hc
  have hwl : (d.waits.map opD).length = d.waits.length := List.length_map _
  have hbl := byD_len o.b
  have hsn := rseen_v d hc
  refine VP.le ?_
  have hdo : d.doOp o = match d.step o with
    | .pan e => (.zero, e)
    | .ok up d' => (d', if up then 0 else 321) := by
    unfold Dk.doOp; rw [hc]; simp only [Bool.true_eq_false, if_false]; cases d.step o <;> rfl
  rw [hdo]
  clear hdo
  cases hA : (mayD o || syncB o) with
  | false =>
    rw [hA] at hop
    have hs : d.step o = .pan 2 := by unfold Dk.step; simp [hA]
    rw [hs]
    simp only [opD, dkD] at hop ⊢
    refine vp_of Try.func27 rfl Try.ntmps27 rfl Try.results27 fun B => ?_
    repeat' (first | fail | fail | refine nzl ?_ | refine nzd ?_ | ((first | with_reducible refine vl_id ?_ | with_reducible refine vd_id ?_); first | refine cz (hop) ?_) | refine nzo ?_ | refine nc ?_ ?_ | (with_reducible intro _ <;> (try (exfalso; omega))) | refine vs_eqnil ?_ | refine vs_nenil ?_ | (refine nd ?_ ?_ <;> intro hg <;> (first | (exfalso; (try simp only [decide_eq_true_eq, decide_eq_false_iff_not] at hg); omega) | rw [hg])) | fail)
    all_goals first | (simp only [dkR, dkD, Dk.zero, List.map_nil, show byD ([] : List UInt8) = [] from rfl, leR]; infer_instance) | (exfalso; omega) | trace_state
  | true =>
    rw [hA] at hop
    cases hd : d.down with
    | true =>
      have hs : d.step o = .ok false d := by unfold Dk.step; simp [hA, hd]
      rw [hs]
      simp only [opD, dkD, hd] at hop ⊢
      refine vp_of Try.func27 rfl Try.ntmps27 rfl Try.results27 fun B => ?_
      repeat' (first | fail | fail | refine nzl ?_ | refine nzd ?_ | ((first | with_reducible refine vl_id ?_ | with_reducible refine vd_id ?_); first | refine cz (hop) ?_) | refine nzo ?_ | refine nc ?_ ?_ | (with_reducible intro _ <;> (try (exfalso; omega))) | refine vs_eqnil ?_ | refine vs_nenil ?_ | (refine nd ?_ ?_ <;> intro hg <;> (first | (exfalso; (try simp only [decide_eq_true_eq, decide_eq_false_iff_not] at hg); omega) | rw [hg])) | fail)
      all_goals first | (simp only [dkR, dkD, leR, hd, Bool.false_eq_true, if_false]; infer_instance) | (exfalso; omega) | trace_state
    | false =>
      cases hS : syncB o with
      | true =>
        have ho : o = ⟨4, 0, []⟩ := by
          cases o; simp [syncB] at hS; simp [hS]
        subst ho
        by_cases hf1 : d.fuse = 1
        · have hs : d.step ⟨4, 0, []⟩ = .ok false { d with down := true, fuse := 0 } := by unfold Dk.step; simp [hd, hS, hf1]
          rw [hs]
          simp only [opD, dkD, hd, hf1] at hop hsn ⊢
          refine vp_of Try.func27 rfl Try.ntmps27 rfl Try.results27 fun B => ?_
          repeat' (first | fail | fail | refine nzl ?_ | refine nzd ?_ | ((first | with_reducible refine vl_id ?_ | with_reducible refine vd_id ?_); first | refine cz (hop) ?_) | refine nzo ?_ | refine nc ?_ ?_ | (with_reducible intro _ <;> (try (exfalso; omega))) | refine vs_eqnil ?_ | refine vs_nenil ?_ | (refine nd ?_ ?_ <;> intro hg <;> (first | (exfalso; (try simp only [decide_eq_true_eq, decide_eq_false_iff_not] at hg); omega) | rw [hg])) | fail)
          all_goals first | (simp only [dkR, dkD, leR, Bool.false_eq_true, if_false]; infer_instance) | (exfalso; omega) | trace_state
        · obtain ⟨z, hz, hs⟩ : ∃ z : Int, z = max (d.fuse - 1) 0 ∧ d.step ⟨4, 0, []⟩ = .ok true ({ d.doAll d.waits with waits := [], fuse := z } : Dk) := by
            refine ⟨_, rfl, ?_⟩
            unfold Dk.step
            rw [if_neg (by rw [hA]; simp), if_neg (by rw [hd]; simp), if_neg (by rw [hS]; simp), if_neg hf1, if_pos hS]
            rw [keptL_all _ _ _ _ (by omega)]
            have := doAll_fuse (max (d.fuse - 1) 0) d.down d.waits d.waits d
            rw [show ({ d with fuse := max (d.fuse - 1) 0 } : Dk) = { d with waits := d.waits, down := d.down, fuse := max (d.fuse - 1) 0 } from rfl, this]
            have hfl := doAll_flat d.waits d
            simp only [Dk.clear, hfl.2.1]
          rw [hs]
          have hsn2 := rseen_v { d with fuse := z } (by
            have h := hc
            simp only [checkB, flatK, Bool.and_eq_true, decide_eq_true_eq] at h
            have g1 := h.1.1.1.1.1.1.1
            have g2 := h.1.1.1.1.1.1.2
            refine check_mk _ ?_ h.1.1.2 (fits4_in d h.1.2) h.2
            have g3 : 0 ≤ z := by omega
            have g4 : z ≤ 4096 := by omega
            simp only [flatK, g1, g2, g3, g4, hd, decide_true, Bool.not_false, Bool.true_or, Bool.and_self])
          have hdf := doAll_fuse z d.down d.waits d.waits d
          rw [show ({ d with waits := d.waits, down := d.down, fuse := z } : Dk) = { d with fuse := z } from rfl] at hdf
          simp only [hdf] at hsn2
          have hfl := doAll_flat d.waits d
          by_cases hz0 : d.fuse = 0
          · have hz1 : z = 0 := by omega
            simp only [opD, dkD, hd, hz0, hz1, show byD ([] : List UInt8) = [] from rfl] at hop hsn2 ⊢
            refine vp_of Try.func27 rfl Try.ntmps27 rfl Try.results27 fun B => ?_
            repeat' (first | fail | fail | refine nzl ?_ | refine nzd ?_ | ((first | with_reducible refine vl_id ?_ | with_reducible refine vd_id ?_); first | refine cz (hop) ?_ | refine cz (hsn2) ?_) | refine nzo ?_ | refine nc ?_ ?_ | (with_reducible intro _ <;> (try (exfalso; omega))) | refine vs_eqnil ?_ | refine vs_nenil ?_ | (refine nd ?_ ?_ <;> intro hg <;> (first | (exfalso; (try simp only [decide_eq_true_eq, decide_eq_false_iff_not] at hg); omega) | rw [hg])) | fail)
            all_goals first | (exfalso; omega) | (simp only [dkR, dkD, List.map_nil, leR, hfl.2.1, hd, if_true]; infer_instance) | trace_state
          · have hz1 : d.fuse - 1 = z := by omega
            simp only [opD, dkD, hd, show byD ([] : List UInt8) = [] from rfl] at hop hsn2 ⊢
            refine vp_of Try.func27 rfl Try.ntmps27 rfl Try.results27 fun B => ?_
            repeat' (first | fail | fail | refine nzl ?_ | refine nzd ?_ | ((first | with_reducible refine vl_id ?_ | with_reducible refine vd_id ?_); first | refine cz (hop) ?_ | (rw [hz1]; first | refine cz (hsn2) ?_)) | refine nzo ?_ | refine nc ?_ ?_ | (with_reducible intro _ <;> (try (exfalso; omega))) | refine vs_eqnil ?_ | refine vs_nenil ?_ | (refine nd ?_ ?_ <;> intro hg <;> (first | (exfalso; (try simp only [decide_eq_true_eq, decide_eq_false_iff_not] at hg); omega) | rw [hg])) | fail)
            all_goals first | (exfalso; omega) | (simp only [dkR, dkD, List.map_nil, leR, hfl.2.1, hd, if_true]; infer_instance) | trace_state
      | false =>
        have hm : mayD o = true := by rw [hS] at hA; simpa using hA
        have hkf := may_kf o hm
        have hfit := fits_may hc hm
        have m0 := byD_len (d.doAll d.waits).f0
        have m1 := byD_len (d.doAll d.waits).f1
        have m2 := byD_len (d.doAll d.waits).f2
        have m3 := byD_len (d.doAll d.waits).f3
        have hsin := seen_check d hc
        have hsl := check_len _ hsin
        simp only [Dk.len, Dk.seen, Dk.clear] at hsl
        cases hfv : d.fits o with
        | false =>
          have hs : d.step o = .pan 6 := by
            unfold Dk.step
            rw [if_neg (by rw [hA]; simp), if_neg (by rw [hd]; simp), if_pos ⟨hS, hfv⟩]
          rw [hs]
          rw [hfv] at hfit
          have hfit' : ¬ (d.waits.length < 4096 ∧ ((((d.doAll d.waits).file o.f).length : Int) + o.b.length ≤ 4194304)) := fun h => by
            rw [decide_eq_true h.1, decide_eq_true h.2] at hfit; cases hfit
          clear hfit hsin hfv hs hS hA
          obtain ⟨k, f, b⟩ := o
          simp only at hkf hbl hob hfit'
          have h4 : f = 0 ∨ f = 1 ∨ f = 2 ∨ f = 3 := by omega
          rcases h4 with rfl | rfl | rfl | rfl
          all_goals
            simp only [Dk.file, if_true, Int.reduceEq, if_false] at hfit'
            simp only [opD, dkD, hd] at hop hsn ⊢
            refine vp_of Try.func27 rfl Try.ntmps27 rfl Try.results27 fun B => ?_
            repeat' (first | fail | fail | refine nzl ?_ | refine nzd ?_ | ((first | with_reducible refine vl_id ?_ | with_reducible refine vd_id ?_); first | refine cz (hop) ?_ | refine cz (hsn) ?_) | refine nzo ?_ | refine nc ?_ ?_ | (with_reducible intro _ <;> (try (exfalso; omega))) | refine vs_eqnil ?_ | refine vs_nenil ?_ | (refine nd ?_ ?_ <;> intro hg <;> (first | (exfalso; (try simp only [decide_eq_true_eq, decide_eq_false_iff_not] at hg); omega) | rw [hg])) | fail)
            all_goals first | (exfalso; omega) | (exfalso; simp only [decide_eq_true_eq, decide_eq_false_iff_not] at *; omega) | (simp only [dkR, dkD, Dk.zero, List.map_nil, show byD ([] : List UInt8) = [] from rfl, leR]; infer_instance) | trace_state
        | true =>
          rw [hfv] at hfit
          have hfit' : d.waits.length < 4096 ∧ ((((d.doAll d.waits).file o.f).length : Int) + o.b.length ≤ 4194304) := by
            simpa using hfit.symm
          by_cases hf1 : d.fuse = 1
          · have hs : d.step o = .ok false { d with down := true, fuse := 0 } := by
              unfold Dk.step
              rw [if_neg (by rw [hA]; simp), if_neg (by rw [hd]; simp), if_neg (by rw [hfv]; simp), if_pos hf1]
            rw [hs]
            clear hfit hsin hfv hs hS hA
            obtain ⟨k, f, b⟩ := o
            simp only at hkf hbl hob hfit'
            have h4 : f = 0 ∨ f = 1 ∨ f = 2 ∨ f = 3 := by omega
            rcases h4 with rfl | rfl | rfl | rfl
            all_goals
              simp only [Dk.file, if_true, Int.reduceEq, if_false] at hfit'
              simp only [opD, dkD, hd, hf1] at hop hsn ⊢
              refine vp_of Try.func27 rfl Try.ntmps27 rfl Try.results27 fun B => ?_
              repeat' (first | fail | fail | refine nzl ?_ | refine nzd ?_ | ((first | with_reducible refine vl_id ?_ | with_reducible refine vd_id ?_); first | refine cz (hop) ?_ | refine cz (hsn) ?_) | refine nzo ?_ | refine nc ?_ ?_ | (with_reducible intro _ <;> (try (exfalso; omega))) | refine vs_eqnil ?_ | refine vs_nenil ?_ | (refine nd ?_ ?_ <;> intro hg <;> (first | (exfalso; (try simp only [decide_eq_true_eq, decide_eq_false_iff_not] at hg); omega) | rw [hg])) | fail)
              all_goals first | (exfalso; omega) | (simp only [dkR, dkD, leR, Bool.false_eq_true, if_false]; infer_instance) | trace_state
          · have hs : d.step o = .ok true { d with fuse := max (d.fuse - 1) 0, waits := d.waits ++ [o] } := by
              unfold Dk.step
              rw [if_neg (by rw [hA]; simp), if_neg (by rw [hd]; simp), if_neg (by rw [hfv]; simp), if_neg hf1, if_neg (by rw [hS]; simp)]
            rw [hs]
            clear hfit hsin hfv hs hS hA
            obtain ⟨k, f, b⟩ := o
            simp only at hkf hbl hob hfit'
            have h4 : f = 0 ∨ f = 1 ∨ f = 2 ∨ f = 3 := by omega
            rcases h4 with rfl | rfl | rfl | rfl
            all_goals
              simp only [Dk.file, if_true, Int.reduceEq, if_false] at hfit'
              simp only [opD, dkD, hd] at hop hsn ⊢
              refine vp_of Try.func27 rfl Try.ntmps27 rfl Try.results27 fun B => ?_
              repeat' (first | fail | fail | refine nzl ?_ | refine nzd ?_ | ((first | with_reducible refine vl_id ?_ | with_reducible refine vd_id ?_); first | refine cz (hop) ?_ | refine cz (hsn) ?_) | refine nzo ?_ | refine nc ?_ ?_ | (with_reducible intro _ <;> (try (exfalso; omega))) | refine vs_eqnil ?_ | refine vs_nenil ?_ | (refine nd ?_ ?_ <;> intro hg <;> (first | (exfalso; (try simp only [decide_eq_true_eq, decide_eq_false_iff_not] at hg); omega) | rw [hg])) | fail)
              all_goals first
                | (exfalso; omega)
                | (exfalso; simp only [decide_eq_true_eq, decide_eq_false_iff_not] at *; omega)
                | (rw [show max (d.fuse - 1) 0 = d.fuse - 1 by omega]; simp only [dkR, dkD, opD, cellsD, leR, if_true, List.map_append, List.map_cons, List.map_nil, List.nil_append]; infer_instance)
                | (rw [show max (d.fuse - 1) 0 = d.fuse by omega]; simp only [dkR, dkD, opD, cellsD, leR, if_true, List.map_append, List.map_cons, List.map_nil, List.nil_append]; infer_instance)
                | trace_state
end Go.Proofs.Ytjfaihpiohccbaa

namespace Go.Proofs.Ytjfaihpiohccbaa
open Go.RowKit
set_option maxRecDepth 10000
set_option maxHeartbeats 4000000
theorem step_pan_ne {d : Dk} {o : DOp} {e : Int} (h : d.step o = .pan e) : e ≠ 0 := by
  unfold Dk.step at h
  repeat' (first | split at h | (cases h; fail_if_success (focus skip)) | (cases h; omega))
theorem runL_do {d : Dk} {o : DOp} {l : List DOp} {i : Nat} (hc : checkB d = true) : d.runL (o :: l) i = if (d.doOp o).2 = 0 then (d.doOp o).1.runL l (i + 1) else ((d.doOp o).1, i, (d.doOp o).2) := by
  simp only [Dk.runL, Dk.doOp, hc, Bool.true_eq_false, if_false]
  cases hs : d.step o with
  | pan e => simp only; rw [if_neg (step_pan_ne hs)]
  | ok up d' => cases up <;> simp
abbrev dkR3 (x : Dk × Nat × Int) : D := .tup [.agg (dkD x.1), .lit (.int .i64 x.2.1), .lit (.int .i64 x.2.2)]
theorem rrun_v (d : Dk) (l : List DOp) (hc : checkB d = true) (hlb : ∀ o ∈ l, o.b.length ≤ 1000000000) : VP Try.prog 29 [.agg (dkD d), .sl false false (l.map opD)] (· = .ret (dkR3 (d.runL l 0))) := by
  refine vp_of Try.func29 rfl Try.ntmps29 rfl Try.results29 fun B => ?_
  simp only [dkD]
  repeat' (first | fail | fail | refine nzl ?_ | refine nzd ?_ | ((first | with_reducible refine vl_id ?_ | with_reducible refine vd_id ?_); first | fail) | refine nzo ?_ | refine nc ?_ ?_ | (with_reducible intro _ <;> (try (exfalso; omega))) | refine vs_eqnil ?_ | refine vs_nenil ?_ | (refine nd ?_ ?_ <;> intro hg <;> (first | (exfalso; (try simp only [decide_eq_true_eq, decide_eq_false_iff_not] at hg); omega) | rw [hg])) | fail)
  refine vw_join (fun z : Dk => ⟨[(1, .d (.sl false false (l.map opD))), (2, .ptr 0 0), (4, .ptr 1 0)], [.c 1 0 zcV, .c 0 0 ((dkD z).map .d)], 2⟩) (fun z => d.runL l 0 = (z, l.length, 0)) ?_ fun z hz => ?_
  · refine vw_each 11 l opD (fun (i : Nat) (z : Dk) => ⟨[(13, I .i64 i), (12, I .i64 (l.map opD).length), (11, .d (.sl false false (l.map opD))), (1, .d (.sl false false (l.map opD))), (2, .ptr 0 0), (4, .ptr 1 0)], [.c 1 0 zcV, .c 0 0 ((dkD z).map .d)], 2⟩) (fun i z => checkB z = true ∧ d.runL l 0 = z.runL (l.drop i) i) d (sub_z) ⟨hc, rfl⟩ (fun i y x hT hi hx hx' hlt hlm hlen hdr => ?_) (fun y hT hlt hlm => ?_)
    · have hxb := hlb x (List.mem_of_getElem? hx)
      obtain ⟨hyc, hT2⟩ := hT
      have cd := rdo_v y x hyc hxb
      rw [hdr, runL_do hyc] at hT2
      have hst : ∀ n, y.doOp x = (n, 0) → checkB n = true := fun n h => by
        obtain ⟨up, h1, _⟩ := do_ok hyc h (.inr rfl)
        exact step_check y x up n hyc h1
      obtain ⟨⟨n, e⟩, he⟩ : ∃ z, y.doOp x = z := ⟨_, rfl⟩
      rw [he] at cd hT2 hst
      simp only at hT2
      simp only [dkD, opD, dkR] at cd hx'
      by_cases h0 : e = 0
      · subst h0
        rw [if_pos rfl] at hT2
        repeat' (first | fail | fail | refine nzl ?_ | refine nzd ?_ | ((first | with_reducible refine vl_id ?_ | with_reducible refine vd_id ?_); first | refine cz (cd) ?_) | refine nzo ?_ | refine nc ?_ ?_ | (with_reducible intro _ <;> (try (exfalso; omega))) | refine vs_eqnil ?_ | refine vs_nenil ?_ | (refine nd ?_ ?_ <;> intro hg <;> (first | (exfalso; (try simp only [decide_eq_true_eq, decide_eq_false_iff_not] at hg); omega) | rw [hg])) | fail)
        exact nx_each n hi ⟨hst n rfl, hT2⟩ (sub_z)
      · rw [if_neg h0] at hT2
        rw [hT2]
        repeat' (first | fail | fail | refine nzl ?_ | refine nzd ?_ | ((first | with_reducible refine vl_id ?_ | with_reducible refine vd_id ?_); first | refine cz (cd) ?_) | refine nzo ?_ | refine nc ?_ ?_ | (with_reducible intro _ <;> (try (exfalso; omega))) | refine vs_eqnil ?_ | refine vs_nenil ?_ | (refine nd ?_ ?_ <;> intro hg <;> (first | (exfalso; (try simp only [decide_eq_true_eq, decide_eq_false_iff_not] at hg); omega) | rw [hg])) | fail)
        rfl
    · repeat' (first | fail | fail | refine nzl ?_ | refine nzd ?_ | ((first | with_reducible refine vl_id ?_ | with_reducible refine vd_id ?_); first | fail) | refine nzo ?_ | refine nc ?_ ?_ | (with_reducible intro _ <;> (try (exfalso; omega))) | refine vs_eqnil ?_ | refine vs_nenil ?_ | (refine nd ?_ ?_ <;> intro hg <;> (first | (exfalso; (try simp only [decide_eq_true_eq, decide_eq_false_iff_not] at hg); omega) | rw [hg])) | fail)
      have hT2 := hT.2
      rw [List.drop_eq_nil_of_le (Nat.le_refl _)] at hT2
      exact nx_cut y hT2 (sub_z)
  · rw [hz]
    have hlm : (l.map opD).length = l.length := List.length_map _
    repeat' (first | fail | fail | refine nzl ?_ | refine nzd ?_ | ((first | with_reducible refine vl_id ?_ | with_reducible refine vd_id ?_); first | fail) | refine nzo ?_ | refine nc ?_ ?_ | (with_reducible intro _ <;> (try (exfalso; omega))) | refine vs_eqnil ?_ | refine vs_nenil ?_ | (refine nd ?_ ?_ <;> intro hg <;> (first | (exfalso; (try simp only [decide_eq_true_eq, decide_eq_false_iff_not] at hg); omega) | rw [hg])) | fail)
    simp only [dkR3, hlm]
theorem deq_v (x y : DOp) : VP Try.prog 31 [.agg (opD x), .agg (opD y)] (· = .ret (.lit (.bool (decide (x.b = y.b) && true)))) := by
  have c := equal_v x.b y.b
  refine vp_of Try.func31 rfl Try.ntmps31 rfl Try.results31 fun B => ?_
  simp only [opD]
  repeat' (first | fail | fail | refine nzl ?_ | refine nzd ?_ | ((first | with_reducible refine vl_id ?_ | with_reducible refine vd_id ?_); first | refine cz (c) ?_) | refine nzo ?_ | refine nc ?_ ?_ | (with_reducible intro _ <;> (try (exfalso; omega))) | refine vs_eqnil ?_ | refine vs_nenil ?_ | (refine nd ?_ ?_ <;> intro hg <;> (first | (exfalso; (try simp only [decide_eq_true_eq, decide_eq_false_iff_not] at hg); omega) | rw [hg])) | fail)
  simp
theorem eqF_self {α : Type} (p : α → α → Bool) (h : ∀ x, p x x = true) : ∀ l : List α, eqF p l l = true
  | [] => rfl
  | x :: l => by simp only [eqF, h x, Bool.true_and]; exact eqF_self p h l
theorem deqs_v (l : List DOp) : VP Try.prog 30 [.sl false false (l.map opD), .sl false false (l.map opD), .fn 31 [] []] (· = .ret (.lit (.bool true))) := by
  have c := eqf_v (f := 31) (fun x y => decide (x.b = y.b) && true) l l deq_v
  rw [eqF_self _ (fun x => by simp)] at c
  exact c
end Go.Proofs.Ytjfaihpiohccbaa

namespace Go.Proofs.Ytjfaihpiohccbaa
open Go.RowKit
theorem cutOp_idem (o : DOp) : cutOp (cutOp o) = cutOp o := by simp [cutOp, List.take_take]
theorem cutOps_idem (l : List DOp) : cutOps (cutOps l) = cutOps l := by
  simp only [cutOps, ← List.map_take, List.take_take, Nat.min_self, List.map_map]
  refine List.map_congr_left fun o _ => ?_
  exact cutOp_idem o
theorem own_idem (d : Dk) : d.own.own = d.own := by simp only [Dk.own, List.take_take, Nat.min_self, cutOps_idem]
theorem may_cut {o : DOp} (h : mayD o = true) : mayD (cutOp o) = true := by
  rcases may_cases o h with ⟨h1, h2⟩ | ⟨h1, h2⟩ | ⟨h1, h2⟩
  · have : 0 < (cutOp o).b.length := by simp only [cutOp, List.length_take]; omega
    have hf := (may_kf o h).2
    simp only [mayD, mayOp, isFile, cutOp] at h this ⊢
    simp_all
  · have : cutOp o = o := by cases o; simp only at h2; subst h2; rfl
    rw [this]; exact h
  · have : cutOp o = o := by cases o; simp only at h2; subst h2; rfl
    rw [this]; exact h
def S4.le (s : S4) (n : Int) : Prop := (0 ≤ s.a ∧ s.a ≤ n) ∧ (0 ≤ s.b ∧ s.b ≤ n) ∧ (0 ≤ s.c ∧ s.c ≤ n) ∧ (0 ≤ s.d ∧ s.d ≤ n)
theorem aft_le {s : S4} {o : DOp} {n : Int} (hs : s.le n) (ho : o.b.length ≤ 100) : (aft o s).le (n + 100) := by
  have h1 : ∀ m, 0 ≤ m ∧ m ≤ n → 0 ≤ aft1 o m ∧ aft1 o m ≤ n + 100 := fun m hm => by unfold aft1; split <;> omega
  simp only [S4.le] at hs
  unfold aft
  repeat' split
  all_goals
    simp only [S4.le]
    have ha := h1 _ hs.1
    have hb := h1 _ hs.2.1
    have hc := h1 _ hs.2.2.1
    have hd := h1 _ hs.2.2.2
    omega
theorem steps_small : ∀ (l : List DOp) (s : S4) (n : Int), s.le n → (∀ o ∈ l, o.b.length ≤ 100) → n + 100 * l.length ≤ 4194304 → stepsOk s l = true
  | [], _, _, _, _, _ => rfl
  | o :: l, s, n, hs, ho, hn => by
    have h := aft_le hs (ho o (by simp))
    simp only [List.length_cons] at hn
    simp only [stepsOk, Bool.and_eq_true]
    refine ⟨(fits_iff _).2 ?_, steps_small l _ _ h (fun x hx => ho x (by simp [hx])) (by omega)⟩
    simp only [S4.le] at h
    unfold S4.get
    split
    · omega
    · split
      · omega
      · split <;> omega
theorem own_check {d : Dk} (h : checkB d = true) : checkB d.own = true := by
  have hf : flatK d = true := by simp only [checkB, Bool.and_eq_true] at h; exact h.1.1.1
  have hm := check_may d h
  refine check_mk _ ?_ ?_ ?_ ?_
  · simp only [flatK, Bool.and_eq_true, Dk.own] at hf ⊢
    have := cutOps_few d.waits
    exact ⟨⟨⟨⟨hf.1.1.1.1, decide_eq_true (by omega)⟩, hf.1.1.2⟩, hf.1.2⟩, hf.2⟩
  · rw [List.all_eq_true]
    intro o ho
    simp only [Dk.own, cutOps, List.mem_map] at ho
    obtain ⟨x, hx, rfl⟩ := ho
    exact may_cut (hm x (List.mem_of_mem_take hx))
  · simp only [S4.in, sz4, Dk.own, List.length_take]; omega
  · refine steps_small _ _ 300 ?_ (cutOps_len d.waits) ?_
    · simp only [S4.le, sz4, Dk.own, List.length_take]; omega
    · have := cutOps_few d.waits
      simp only [Dk.own]; omega
end Go.Proofs.Ytjfaihpiohccbaa

namespace Go.Proofs.Ytjfaihpiohccbaa
open Go.RowKit
set_option maxRecDepth 10000
set_option maxHeartbeats 4000000
abbrev dsT (y : List DOp) (c : Bool) : List (Nat × V) := [(6, .d (.sl false true ((cutOps y).map opN))), (7, .d (.lit (.bool c))), (8, .ptr 2 0), (5, .ptr 1 0), (2, .ptr 0 0), (1, .d (.sl false false (y.map opD)))]
abbrev dsL (x d a : Dk) : List E := [.c 2 0 ((dkN a).map .d), .c 1 0 ((dkN d).map .d), .c 0 0 ((dkD x).map .d)]
abbrev dsI (x d a : Dk) (y : List DOp) (c : Bool) (i : Int) : St := ⟨(35, .d (.lit (.int .i64 i))) :: (34, .d (.lit (.int .i64 ((cutOps y).map opN).length))) :: (33, .d (.sl false true ((cutOps y).map opN))) :: dsT y c, dsL x d a, 3⟩
theorem does_end (B : Nat) (x d a : Dk) (hd : x.own = d) (y : List DOp) : VW Try.prog ⟨123, none, B, 0, some B, []⟩ (sndC 6 (bodyC Try.f6)) ⟨dsT y (checkB d), dsL x d a, 3⟩ (retQ Try.prog [.tmp 4] (· = .ret (.lit (.bool true)))) := by
  have hwb := own_wb x
  have co := lown_v x
  rw [hd] at hwb co
  have hlb : ∀ o ∈ cutOps y, o.b.length ≤ 1000000000 := fun o ho => by have := cutOps_len y o ho; omega
  have hlf := cutOps_few y
  have crn := run_v d (cutOps y) hwb hlb (by omega)
  have cops := lops_v y
  have ceq := deqs_v (cutOps y)
  obtain ⟨⟨n, k, e⟩, hr⟩ : ∃ z, d.run (cutOps y) = z := ⟨_, rfl⟩
  rw [hr] at crn
  have cn := rsame_v n n
  have cs := rsame_v d d
  rw [Dk.beq_self] at cn cs
  have sn := spoil_s n
  cases hc : checkB d with
  | false =>
    rw [show d.run (cutOps y) = (.zero, 0, 320) by simp [Dk.run, hc]] at hr
    cases hr
    simp only [dkD, dkN, dkE3, Dk.zero, List.map_nil, show byD ([] : List UInt8) = [] from rfl] at co crn cn cs sn cops
    refine vw_seq ?_
    repeat' (first | fail | fail | refine nzl ?_ | refine nzd ?_ | ((first | with_reducible refine vl_id ?_ | with_reducible refine vd_id ?_); first | refine cz (co) ?_ | (refine vs_pool crn ?_) | refine cz (cn) ?_ | (refine vs_spoil sn ?_; simp only [blurT, blurS, blurV, blurVs, List.map_cons, List.map_nil]) | refine cz (cs) ?_ | refine cz (cops) ?_ | refine cz (ceq) ?_) | refine nzo ?_ | refine nc ?_ ?_ | (with_reducible intro _ <;> (try (exfalso; omega))) | refine vs_eqnil ?_ | refine vs_nenil ?_ | (refine nd ?_ ?_ <;> intro hg <;> (first | (exfalso; (try simp only [decide_eq_true_eq, decide_eq_false_iff_not] at hg); omega) | rw [hg])) | fail)
    all_goals first | with_reducible rfl | (exfalso; omega) | (simp at hg; fail_if_success (focus skip)) | trace_state
  | true =>
    have crr := rrun_v d (cutOps y) hc hlb
    rw [show d.runL (cutOps y) 0 = (n, k, e) by rw [← hr]; simp [Dk.run, hc]] at crr
    simp only [dkD, dkN, dkE3, dkR3] at co crn cn cs sn crr cops
    refine vw_seq ?_
    repeat' (first | fail | fail | refine nzl ?_ | refine nzd ?_ | ((first | with_reducible refine vl_id ?_ | with_reducible refine vd_id ?_); first | refine cz (co) ?_ | (refine vs_pool crn ?_) | refine cz (crr) ?_ | refine cz (cn) ?_ | (refine vs_spoil sn ?_; simp only [blurT, blurS, blurV, blurVs, List.map_cons, List.map_nil]) | refine cz (cs) ?_ | refine cz (cops) ?_ | refine cz (ceq) ?_) | refine nzo ?_ | refine nc ?_ ?_ | (with_reducible intro _ <;> (try (exfalso; omega))) | refine vs_eqnil ?_ | refine vs_nenil ?_ | (refine nd ?_ ?_ <;> intro hg <;> (first | (exfalso; (try simp only [decide_eq_true_eq, decide_eq_false_iff_not] at hg); omega) | rw [hg])) | fail)
    all_goals first | with_reducible rfl | (exfalso; omega) | (simp at hg; fail_if_success (focus skip)) | trace_state
theorem does_loop (B : Nat) (w d : Dk) (hd : w.own = d) (L : List DOp) (Q : VE → St → Prop) :
    VW Try.prog ⟨123, none, B, 0, some B, []⟩ (blkC (sndC 1 (fstC (sndC 5 (bodyC Try.f6))))) (dsI w d d L (checkB d) 0) (blockV 0 (cutV ⟨123, none, B, 0, some B, []⟩ (fun a : Dk => ⟨dsT L (checkB d), dsL w d a, 3⟩) (fun _ => True) Q)) := by
  have hdo : d.own = d := by rw [← hd]; exact own_idem w
  refine vw_each 33 (cutOps L) opN (fun (i : Nat) (a : Dk) => dsI w d a L (checkB d) i) (fun _ a => a.own = a ∧ checkB a = checkB d) d (sub_z) ⟨hdo, rfl⟩ (fun i y x hT hi hx hx' hlt hlm hlen hdr => ?_) (fun y hT hlt hlm => ?_)
  · obtain ⟨a, rfl⟩ : ∃ a, a = y := ⟨y, rfl⟩
    have hxb : x.b.length ≤ 1000000000 := by have := cutOps_len L x (List.mem_of_getElem? hx); omega
    obtain ⟨hao, hac⟩ := hT
    have hwb : ∀ o ∈ a.waits, o.b.length ≤ 1000000000 := by rw [← hao]; exact own_wb a
    have cd := do_v a x hwb hxb
    have co := lown_v a
    rw [hao] at co
    obtain ⟨⟨n, e⟩, hn⟩ : ∃ z, a.doOp x = z := ⟨_, rfl⟩
    rw [hn] at cd
    have cn := rsame_v n n
    have ca := rsame_v a a
    rw [Dk.beq_self] at cn ca
    have sn := spoil_s n
    have con := lown_v n
    simp only [opN] at hx'
    clear hx hdr
    cases hc : checkB d with
    | false =>
      rw [hc] at hac
      rw [show a.doOp x = (.zero, 320) by simp [Dk.doOp, hac]] at hn
      cases hn
      simp only [dkD, dkN, dkE, opD, Dk.zero, List.map_nil, show byD ([] : List UInt8) = [] from rfl] at co cd cn ca sn
      repeat' (first | fail | fail | refine nzl ?_ | refine nzd ?_ | ((first | with_reducible refine vl_id ?_ | with_reducible refine vd_id ?_); first | refine cz (co) ?_ | (refine vs_pool cd ?_) | refine cz (cn) ?_ | (refine vs_spoil sn ?_; simp only [blurT, blurS, blurV, blurVs, List.map_cons, List.map_nil]) | refine cz (ca) ?_) | refine nzo ?_ | refine nc ?_ ?_ | (with_reducible intro _ <;> (try (exfalso; omega))) | refine vs_eqnil ?_ | refine vs_nenil ?_ | (refine nd ?_ ?_ <;> intro hg <;> (first | (exfalso; (try simp only [decide_eq_true_eq, decide_eq_false_iff_not] at hg); omega) | rw [hg])) | fail)
      exact nx_each a hi ⟨hao, hac⟩ (sub_z)
    | true =>
      rw [hc] at hac
      have crd := rdo_v a x hac hxb
      rw [hn] at crd
      have hst : e = 0 ∨ e = 321 → checkB n = true := fun h => by
        obtain ⟨up, h1, _⟩ := do_ok hac hn h.symm
        exact step_check a x up n hac h1
      simp only [dkD, dkN, dkE, dkR, opD] at co cd cn ca sn crd con
      by_cases he : e = 0 ∨ e = 321
      · have hnc := own_check (hst he)
        rcases he with rfl | rfl
        · repeat' (first | fail | refine vw_drawkx (id := 13) [5] ?_ | refine nzl ?_ | refine nzd ?_ | ((first | with_reducible refine vl_id ?_ | with_reducible refine vd_id ?_); first | refine cz (co) ?_ | (refine vs_pool cd ?_) | refine cz (crd) ?_ | refine cz (cn) ?_ | refine cz (con) ?_ | (refine vs_spoil sn ?_; simp only [blurT, blurS, blurV, blurVs, List.map_cons, List.map_nil]) | refine cz (ca) ?_) | refine nzo ?_ | refine nc ?_ ?_ | (with_reducible intro _ <;> (try (exfalso; omega))) | refine vs_eqnil ?_ | refine vs_nenil ?_ | (refine nd ?_ ?_ <;> intro hg <;> (first | (exfalso; (try simp only [decide_eq_true_eq, decide_eq_false_iff_not] at hg); omega) | rw [hg])) | fail)
          exact nx_each n.own hi ⟨own_idem n, hnc⟩ (sub_z)
        · repeat' (first | fail | refine vw_drawkx (id := 13) [5] ?_ | refine nzl ?_ | refine nzd ?_ | ((first | with_reducible refine vl_id ?_ | with_reducible refine vd_id ?_); first | refine cz (co) ?_ | (refine vs_pool cd ?_) | refine cz (crd) ?_ | refine cz (cn) ?_ | refine cz (con) ?_ | (refine vs_spoil sn ?_; simp only [blurT, blurS, blurV, blurVs, List.map_cons, List.map_nil]) | refine cz (ca) ?_) | refine nzo ?_ | refine nc ?_ ?_ | (with_reducible intro _ <;> (try (exfalso; omega))) | refine vs_eqnil ?_ | refine vs_nenil ?_ | (refine nd ?_ ?_ <;> intro hg <;> (first | (exfalso; (try simp only [decide_eq_true_eq, decide_eq_false_iff_not] at hg); omega) | rw [hg])) | fail)
          exact nx_each n.own hi ⟨own_idem n, hnc⟩ (sub_z)
      · have he1 : ¬ e = 0 := fun h => he (.inl h)
        have he2 : ¬ e = 321 := fun h => he (.inr h)
        repeat' (first | fail | refine vw_drawkx (id := 13) [5] ?_ | refine nzl ?_ | refine nzd ?_ | ((first | with_reducible refine vl_id ?_ | with_reducible refine vd_id ?_); first | refine cz (co) ?_ | (refine vs_pool cd ?_) | refine cz (crd) ?_ | refine cz (cn) ?_ | (refine vs_spoil sn ?_; simp only [blurT, blurS, blurV, blurVs, List.map_cons, List.map_nil]) | refine cz (ca) ?_) | refine nzo ?_ | refine nc ?_ ?_ | (with_reducible intro _ <;> (try (exfalso; omega))) | refine vs_eqnil ?_ | refine vs_nenil ?_ | (refine nd ?_ ?_ <;> intro hg <;> (first | (exfalso; (try simp only [decide_eq_true_eq, decide_eq_false_iff_not] at hg); omega) | rw [hg])) | fail)
        exact nx_each a hi ⟨hao, hac⟩ (sub_z)
  · repeat' (first | fail | fail | refine nzl ?_ | refine nzd ?_ | ((first | with_reducible refine vl_id ?_ | with_reducible refine vd_id ?_); first | fail) | refine nzo ?_ | refine nc ?_ ?_ | (with_reducible intro _ <;> (try (exfalso; omega))) | refine vs_eqnil ?_ | refine vs_nenil ?_ | (refine nd ?_ ?_ <;> intro hg <;> (first | (exfalso; (try simp only [decide_eq_true_eq, decide_eq_false_iff_not] at hg); omega) | rw [hg])) | fail)
    exact nx_cut y trivial (sub_z)
theorem does_law (x : Dk) (y : List DOp) : VP Try.prog 6 [.agg (dkD x), .sl false false (y.map opD)] (· = .ret (.lit (.bool true))) := by
  have co := lown_v x
  have cr := rright_v x.own (own_len x) (own_wb x)
  have cops := lops_v y
  have hend := fun B a => does_end B x x.own a rfl y
  have hloop := fun B Q => does_loop B x x.own rfl y Q
  generalize x.own = d at *
  simp only [dkD, dkN] at co cr
  refine vp_of Try.func6 rfl Try.ntmps6 rfl Try.results6 fun B => ?_
  simp only [dkD]
  repeat' (first | fail | fail | refine nzl ?_ | refine nzd ?_ | ((first | with_reducible refine vl_id ?_ | with_reducible refine vd_id ?_); first | refine cz (wakes_v) ?_ | refine cz (co) ?_ | refine cz (cops) ?_ | refine cz (cr) ?_) | refine nzo ?_ | refine nc ?_ ?_ | (with_reducible intro _ <;> (try (exfalso; omega))) | refine vs_eqnil ?_ | refine vs_nenil ?_ | (refine nd ?_ ?_ <;> intro hg <;> (first | (exfalso; (try simp only [decide_eq_true_eq, decide_eq_false_iff_not] at hg); omega) | rw [hg])) | fail)
  refine vw_join (fun a : Dk => ⟨dsT y (checkB d), dsL x d a, 3⟩) (fun _ => True) ?_ fun a _ => hend B a
  exact vw_sub (sub_z) (hloop B _)
end Go.Proofs.Ytjfaihpiohccbaa

namespace Go.Proofs.Ytjfaihpiohccbaa
open Go.RowKit

/-- what comes later has all that was there: an order on worlds -/
theorem Below.up {a b c : World} (h : Below a.heap.size a b) (k : Below b.heap.size b c) : Below a.heap.size a c := h.trans (k.mono h.size)
theorem Below.upA {a b : World} (h : Below a.heap.size a b) (o : Obj) : Below a.heap.size a (b.alloc o) := h.alloc h.size o
theorem Below.new (w : World) (o : Obj) : Below w.heap.size w (w.alloc o) := (Below.refl _ _).alloc (Nat.le_refl _) o
theorem Blk.up {w w' : World} {b : Nat} {cs : Array Value} {t : TypeId} (h : Blk w b cs t) (hb : Below w.heap.size w w') : Blk w' b cs t := h.below hb h.lt

/-- the world of a call is taken as a variable of which this is known -/
theorem gen_calls {P : Program} {f : FuncId} {args : Array Value} {Q : Ending → World → Prop} {w : World} (F : World → Prop) (hF : F w) (h : ∀ W, F W → Calls P f args W Q) : Calls P f args w Q := h w hF

/-- min of two, as a number k that is one of them -/
theorem wl_min {P : Program} {ops : Array Oper} {Q : Exit → Act → World → Prop} {rest : List Oper} {a : Act} {w : World} {dst : Option Tmp} {p q : Operand} {t1 t2 ty : TypeId} {pos : String} {af : Array Edge} {g : Option (Nat × Bool)} (n m : Nat)
    (hw : Region.wanted ⟨dst, .call { callee := .builtin .min, args := #[p, q], argTypes := #[t1, t2] }, ty, pos, af, g⟩ (yielded ops a.tmps) = true) (hp : a.eval p = .int .i64 n) (hq : a.eval q = .int .i64 m)
    (h : ∀ k : Nat, k ≤ n → k ≤ m → Hid (k = min n m) → wpList P ops Q rest (a.put dst (.int .i64 k)) w) :
    wpList P ops Q (⟨dst, .call { callee := .builtin .min, args := #[p, q], argTypes := #[t1, t2] }, ty, pos, af, g⟩ :: rest) a w := by
  refine wl_of hw ?_ (h (min n m) (Nat.min_le_left _ _) (Nat.min_le_right _ _) (Lib.hid rfl))
  have hmin : ∀ ats ty, (Builtin.min_ ats ty #[.int .i64 n, .int .i64 m]).run P w = .ok (.int .i64 ((min n m : Nat) : Int)) w := by
    intro ats ty
    simp [Builtin.min_, Builtin.min2]
    split <;> omega
  simp only [execOp, resolve, invoke, builtin, Sem.run_bind, Sem.run_pure, Result.andThen_ok, List.map_toArray, List.map_cons, List.map_nil, hp, hq, hmin]

/-- the same in a region that draws its order -/
theorem wq_min {P : Program} {ops : Array Oper} {C : World → Prop} {Q : Act → Prop} {rest : List Oper} {a : Act} {dst : Option Tmp} {p q : Operand} {t1 t2 ty : TypeId} {pos : String} {af : Array Edge} {g : Option (Nat × Bool)} (n m : Nat)
    (hw : Region.wanted ⟨dst, .call { callee := .builtin .min, args := #[p, q], argTypes := #[t1, t2] }, ty, pos, af, g⟩ (yielded ops a.tmps) = true) (hp : a.eval p = .int .i64 n) (hq : a.eval q = .int .i64 m)
    (h : ∀ k : Nat, k ≤ n → k ≤ m → Hid (k = min n m) → wpQuiet P ops C Q rest (a.put dst (.int .i64 k))) :
    wpQuiet P ops C Q (⟨dst, .call { callee := .builtin .min, args := #[p, q], argTypes := #[t1, t2] }, ty, pos, af, g⟩ :: rest) a := by
  refine wq_of hw (fun w _ => ?_) (h (min n m) (Nat.min_le_left _ _) (Nat.min_le_right _ _) (Lib.hid rfl))
  have hmin : ∀ ats ty, (Builtin.min_ ats ty #[.int .i64 n, .int .i64 m]).run P w = .ok (.int .i64 ((min n m : Nat) : Int)) w := by
    intro ats ty
    simp [Builtin.min_, Builtin.min2]
    split <;> omega
  simp only [execOp, resolve, invoke, builtin, Sem.run_bind, Sem.run_pure, Result.andThen_ok, List.map_toArray, List.map_cons, List.map_nil, hp, hq, hmin]

theorem IsSl.part {w : World} {a : Option Addr} {n n' c k : Nat} {cs cs' : List Value} (h : IsSl w (.slice a n c) n' cs) (hk : k ≤ n) (hcs : ∀ (j : Nat) (u : Value), cs'[j]? = some u → cs[j]? = some u) : IsSl w (.slice a k c) k cs' := by
  obtain ⟨a', c', e, h1, h2, h3, h4⟩ := h
  cases e
  exact ⟨a, c, rfl, by omega, h2, h3, fun j u hu => h4 j u (hcs j u hu)⟩

theorem Bytes.part {w : World} {a : Option Addr} {n c k : Nat} {l : List UInt8} (h : Bytes w (.slice a n c) l) (hk : k ≤ l.length) : Bytes w (.slice a k c) (l.take k) := by
  have h' := h
  obtain ⟨a', c', e, h1, h2, h3, h4⟩ := h'
  cases e
  have := IsSl.part (k := k) (cs' := (l.take k).map vb) h hk (fun j u hu => by
    rw [List.map_take, List.getElem?_take] at hu
    split at hu
    · exact hu
    · cases hu)
  unfold Bytes
  rw [List.length_take, Nat.min_eq_left hk]
  exact this

end Go.Proofs.Ytjfaihpiohccbaa

namespace Go.Proofs.Ytjfaihpiohccbaa
open Go.ChangeShapes Go.WideShapes Go.ChangeAt Go.RowKit

theorem l_own : ownKnob Try.prog.godebug = none := by kernel_rfl
theorem l_laidOut : laidOutB Try.prog = true := by kernel_rfl

theorem byte_of_wf {a : Int} (h : (Lit.int .u8 a).wf = true) : ∃ y : UInt8, a = (y.toNat : Int) := by
  have hb := bounds_u8 h
  refine ⟨UInt8.ofNat a.toNat, ?_⟩
  simp
  omega

end Go.Proofs.Ytjfaihpiohccbaa

namespace Go.Proofs.Ytjfaihpiohccbaa
open Go.ChangeShapes Go.WideShapes Go.ChangeAt Go.RowKit

set_option maxRecDepth 100000 in
theorem diskDoes_lifted (os : Os) (started : os.Started) (H : Type) (enc : TypeId × Value → H) :
    ReturnsInHanded {} Try.checked os 6 .any (Rows.diskDoesSpec.pre6 enc Try.prog Try.f6 Rows.diskDoesRow.domain false) (Rows.diskDoesSpec.post enc Try.prog Try.f6 false true false false) := by
  refine returnsInHanded_of_change (C := Try.checked) l_own started (by kernel_rfl) Try.func6
    (ChangeSpec.witness6 (enc := enc) (C := Try.checked) false ⟨#[], #[.agg #[.slice none 0 0, .slice none 0 0, .slice none 0 0, .slice none 0 0, .int .i64 0, .slice none 0 0, .bool false, .int .i64 0], .slice none 0 0], []⟩ 8 (by kernel_rfl) (by kernel_rfl) (by kernel_rfl) (by kernel_rfl)) ?_
  intro W base args ds gs before hval0 hW hcnd _
  have hval : ∀ (j : Nat) t v, Try.f6.params[j]? = some t → args[j]? = some v → Value.okWide Try.prog W .any base t v := hval0
  have hW' := hW
  obtain ⟨p, q, hA0, hV, rfl, hfz, hnd⟩ := hW
  have hA : DataW.TrodAll enc Try.prog W 0 (fun _ => true) true Try.f6.params.toList args.toList ds p := hA0
  rw [Try.params6] at hA hval
  obtain ⟨v0, vs0, e0, ds0, p0, q0, hargs, rfl, rfl, h0, r0⟩ := trodAll_cons hA
  obtain ⟨v1, vs1, e1, ds1, p1, q1, rfl, rfl, rfl, h1, r1⟩ := trodAll_cons r0
  obtain ⟨rfl, rfl, rfl⟩ := trodAll_nil r1
  obtain rfl : args = #[v0, v1] := by cases args; simp_all
  obtain ⟨rfl, rfl⟩ := trodVars_none hV
  have k0 := h0
  have lt0 : ∀ x ∈ p0, x.block < W.heap.size := by obtain ⟨m, hm⟩ := k0; exact DataW.trod_lt m _ _ _ hm
  obtain ⟨y0, z0, d0⟩ := arg_struct opn_dk Try.underlying26 (hval 0 26 v0 rfl rfl) h0
  have k1 := h1
  have lt1 : ∀ x ∈ p1, x.block < W.heap.size := by obtain ⟨m, hm⟩ := k1; exact DataW.trod_lt m _ _ _ hm
  obtain ⟨a1, n1, c1, rfl⟩ := okWide_slice Try.underlying24 (hval 1 24 v1 rfl rfl)
  obtain ⟨y1, z1, d1⟩ := arg_cell opn_ops rfl h1
  clear hA0 hval0
  refine ((does_law y0 y1).2 (fun _ => True) W _ (by simp only [dreps]; exact ⟨_, _, rfl, d0 _, ⟨_, _, rfl, d1 _, rfl⟩⟩)).mono fun e W' ⟨bel, r, he, hr⟩ => ?_
  subst he
  obtain ⟨u, rfl, hu⟩ := hr
  simp only [drep] at hu
  subst hu
  exact ⟨_, rfl, _, _, _, [], _, [], hW', trodAll_mk1 (shut_bool Try.underlying4 _), (trodAll_cons_mk (Below.trod l_laidOut (by kernel_rfl) (of_decide_eq_true (by kernel_rfl)) k0 bel lt0) (trodAll_cons_mk (Below.trod l_laidOut (by kernel_rfl) (of_decide_eq_true (by kernel_rfl)) k1 bel lt1) trodAll_mk0)), rfl, bel.frame _, fun h => by cases h⟩

theorem diskDoes_over : Rows.diskDoesRow.holds Try.pinned (OpenSpec.ofChange Rows.diskDoesSpec) :=
  OpenClaim.holds_of_wide 6 Try.f6 rfl rfl rfl rfl rfl rfl rfl ⟨rfl, rfl, rfl, rfl, rfl⟩ rfl rfl rfl rfl rfl (by kernel_rfl) Try.func6 (by kernel_rfl)
    (of_decide_eq_true (by kernel_rfl)) (by unfold Func.isWrapper; first | (rw [if_pos (by decide +kernel)]; kernel_rfl) | (rw [if_neg (by decide +kernel)]; exact ⟨rfl, rfl⟩))
    (fun os started H enc _ => diskDoes_lifted os started H enc)

/-- DiskDoes holds as it is stated. -/
theorem diskDoes_holds : Rows.DiskDoesSaid := diskDoes_over
#print axioms diskDoes_holds

end Go.Proofs.Ytjfaihpiohccbaa
