/- DiskFronts: for every input the law returns true, and turns nothing that was there; no condition. -/
import Derived.ProofKit
import Derived.OpenShut
import Derived.Deep.Slices
import Derived.Lib.SmallJoins
import Derived.ShutString
import Derived.ChangeOld
import Derived.Test.YtjfaihpiohccbaaRows
import Derived.Test.YtjfaihpiohccbaaPk6
namespace Go.Proofs.Ytjfaihpiohccbaa
open Go.RowKit

set_option maxHeartbeats 400000 in
theorem clone_bytes (v : Value) (l : List UInt8) (w : World) (h : Bytes w v l) (hlen : l.length ≤ 140737488355328) :
    Calls Try.prog 38 #[v] w fun e w' => ∃ v', e = .returned v' ∧ OwnB w.heap.size w' v' l ∧ Below w.heap.size w w' := by
  have h' := h
  obtain ⟨a, c, rfl, hc, hm, hnil, r⟩ := h'
  cases a with
  | none =>
    obtain rfl : c = 0 := hnil rfl
    obtain rfl : l = [] := List.eq_nil_of_length_eq_zero (by omega)
    have hq := Lib.run_eql_slice_nil (P := Try.prog) w 22 5 none 0 0 0 0 Try.underlying22
    go_enter Try.func38, Try.ntmps38
    go_wp2
    go_ret
    exact ⟨_, rfl, World.ownsRow_nil _ _ _ _, Below.refl _ _⟩
  | some ad =>
    have hq := Lib.run_eql_slice_nil (P := Try.prog) w 22 5 (some ad) l.length c 0 0 Try.underlying22
    have H := Lib.hid h
    clear h
    go_enter Try.func38, Try.ntmps38
    go_wp2_with (refine wl_append (w.heap.size) elem_byte rfl rfl rfl (World.ownsRow_lit (base := w.heap.size) (e := 5) (size := 1) w #[] 0 (Nat.le_refl _) (by unfold maxLen; omega) rfl) (H.out.below ((Below.refl _ w).alloc (Nat.le_refl _) _)) (by simp) (one_bytes l) (by simpa using Nat.le_trans hc hm) (by omega) (by simp) ?_; intro v' w1 hown hg)
    go_ret
    exact ⟨_, rfl, by simpa [OwnB] using hown, by
      refine below_append (base := w.heap.size) ((Below.refl _ w).alloc (Nat.le_refl _) _) (Nat.le_refl _) (by simp) (World.ownsRow_lit (base := w.heap.size) (e := 5) (size := 1) w #[] 0 (Nat.le_refl _) (by unfold maxLen; omega) rfl) hg⟩

/-- do bytes begin with others? -/
def beginsB : List UInt8 → List UInt8 → Bool
  | _, [] => true
  | [], _ :: _ => false
  | x :: l, y :: m => x == y && beginsB l m

end Go.Proofs.Ytjfaihpiohccbaa

namespace Go.Proofs.Ytjfaihpiohccbaa
open Go.RowKit

section
variable {H : Type} {enc : TypeId × Value → H} {P : Program} {w : World} {base : Nat} {spare : Nat → Bool} {held : Bool}

theorem list_of_fn {α : Type} (n : Nat) (p : Nat → α → Prop) (h : ∀ i, i < n → ∃ y, p i y) : ∃ l : List α, l.length = n ∧ ∀ i (hi : i < l.length), p i l[i] := by
  induction n with
  | zero => exact ⟨[], rfl, fun i hi => by simp at hi⟩
  | succ n ih =>
    obtain ⟨l, hl, hp⟩ := ih (fun i hi => h i (by omega))
    obtain ⟨y, hy⟩ := h n (by omega)
    refine ⟨l ++ [y], by simp [hl], fun i hi => ?_⟩
    by_cases e : i < l.length
    · rw [List.getElem_append_left e]; exact hp i e
    · obtain rfl : i = l.length := by simp at hi; omega
      simp
      rw [hl]; exact hy

theorem flatMap_get {α : Type} (f : α → List Value) (size : Nat) (hf : ∀ y, (f y).length = size) (l : List α) (i j : Nat) (hi : i < l.length) (hj : j < size) : (l.flatMap f)[i * size + j]? = (f l[i])[j]? := by
  induction l generalizing i with
  | nil => simp at hi
  | cons x l ih =>
    rw [List.flatMap_cons]
    cases i with
    | zero => rw [Nat.zero_mul, Nat.zero_add, List.getElem?_append_left (by rw [hf]; exact hj)]; rfl
    | succ i =>
      rw [List.getElem?_append_right (by rw [hf, Nat.add_mul]; omega), hf, show (i + 1) * size + j - size = i * size + j from by rw [Nat.add_mul]; omega]
      exact ih i (by simpa using hi)
theorem flatMap_len {α : Type} (f : α → List Value) (size : Nat) (hf : ∀ y, (f y).length = size) (l : List α) : (l.flatMap f).length = l.length * size := by
  induction l with
  | nil => simp
  | cons x l ih => rw [List.flatMap_cons, List.length_append, ih, hf, List.length_cons, Nat.add_mul]; omega

/-- a slice of plain elements (of a known number of cells each) that came in -/
theorem rows_of_trod {α : Type} (f : α → List Value) (size : Nat) {t e : TypeId} {fuel : Nat} {a : Option Addr} {n c : Nat} {x : DataW H × List MemPlace} (hpos : 0 < size) (hf : ∀ y, (f y).length = size) (hsz : P.cellsOf e = size) (ht : P.underlying t = some (.slice e))
    (hel : ∀ (fuel : Nat) (cs : List Value) (x : DataW H × List MemPlace), DataW.trod enc P w base spare held fuel e cs = some x → ∃ y, cs = f y) (h : DataW.trod enc P w base spare held fuel t [.slice a n c] = some x) :
    ∃ l : List α, l.length = n ∧ IsSl w (.slice a n c) n (l.flatMap f) := by
  rcases Deep.open_slice ht h with ⟨hcs, _⟩ | ⟨ad, len, cap, m, k, D, Pl, hcs, hb, hl, hm, hmm, _, hx⟩
  · simp only [List.cons.injEq, and_true, Value.slice.injEq] at hcs
    obtain ⟨rfl, rfl, rfl⟩ := hcs
    exact ⟨[], rfl, IsSl.nil w⟩
  · simp only [List.cons.injEq, and_true, Value.slice.injEq] at hcs
    obtain ⟨rfl, rfl, rfl⟩ := hcs
    have hnm : n ≤ m := by rw [hmm]; split <;> omega
    rw [hsz] at hx
    obtain ⟨l, hl1, hp⟩ := list_of_fn n (fun i y => ∀ j v, (f y)[j]? = some v → w.cell? (ad.add (i * size + j)) = some v) (fun i hi => by
      obtain ⟨cs', h1, h2⟩ := hx i (by omega)
      obtain ⟨y, rfl⟩ := hel _ _ _ h2
      obtain ⟨_, h3, h4⟩ := World.cells?_some h1
      refine ⟨y, fun j v hv => ?_⟩
      have hj := (List.getElem?_eq_some_iff.1 hv).1
      rw [← Deep.add_add, h4 j (by omega)]
      exact hv)
    refine ⟨l, hl1, some ad, c, rfl, hl, hm, by simp, fun j u hu => ?_⟩
    have hj := (List.getElem?_eq_some_iff.1 hu).1
    rw [flatMap_len f size hf] at hj
    have hd : j / size < l.length := Nat.div_lt_of_lt_mul (by rwa [Nat.mul_comm])
    have hmd : j % size < size := Nat.mod_lt _ hpos
    have hjj : j / size * size + j % size = j := by rw [Nat.mul_comm]; exact Nat.div_add_mod j size
    have hc0 := hp (j / size) hd (j % size) u (by rw [← flatMap_get f size hf l _ _ hd hmd, hjj]; exact hu)
    rw [hjj] at hc0
    have hl0 : 0 < l.length := Nat.lt_of_le_of_lt (Nat.zero_le _) hd
    obtain ⟨v0, hv0⟩ : ∃ v0, (f l[0])[0]? = some v0 := ⟨_, List.getElem?_eq_getElem (l := f l[0]) (by rw [hf]; exact hpos)⟩
    have hc1 := hp 0 (by omega) 0 v0 hv0
    simp only [Nat.zero_mul, Nat.add_zero] at hc1
    have hs := World.cell?_spot hc1
    obtain ⟨b, o, sp⟩ := ad
    simp only [Addr.add, if_pos] at hs
    subst hs
    refine ⟨b, o, rfl, ?_⟩
    have hadd : (⟨b, o, none⟩ : Addr).add j = ⟨b, o + j, none⟩ := by unfold Addr.add; split <;> simp_all
    rw [hadd] at hc0
    exact hc0

theorem byte_of_trod {fuel : Nat} {cs : List Value} {x : DataW H × List MemPlace} {e : TypeId} (he : P.underlying e = some (.int .u8)) (h : DataW.trod enc P w base spare held fuel e cs = some x) : ∃ y : UInt8, cs = [vb y] := by
  obtain ⟨n, rfl, _, hw⟩ := DataW.trod_int he h
  have hb := bounds_u8 hw
  refine ⟨UInt8.ofNat n.toNat, ?_⟩
  simp only [vb, List.cons.injEq, and_true, Value.int.injEq, true_and]
  simp
  omega

theorem flatMap_one {α : Type} (f : α → Value) (l : List α) : l.flatMap (fun y => [f y]) = l.map f := by
  induction l with
  | nil => rfl
  | cons x l ih => simp [List.flatMap_cons, ih]

end

theorem bytes_of_trod {H : Type} {enc : TypeId × Value → H} {w : World} {base : Nat} {spare : Nat → Bool} {held : Bool} {fuel : Nat} {a : Option Addr} {n c : Nat} {x : DataW H × List MemPlace} (h : DataW.trod enc Try.prog w base spare held fuel 22 [.slice a n c] = some x) :
    ∃ l : List UInt8, l.length = n ∧ Bytes w (.slice a n c) l := by
  obtain ⟨l, hl, hs⟩ := rows_of_trod (fun y : UInt8 => [vb y]) 1 (by decide) (fun _ => rfl) (by kernel_rfl) Try.underlying22 (fun _ _ _ h => byte_of_trod Try.underlying5 h) h
  refine ⟨l, hl, ?_⟩
  rw [flatMap_one] at hs
  subst hl
  exact hs

end Go.Proofs.Ytjfaihpiohccbaa

namespace Go.Proofs.Ytjfaihpiohccbaa
open Go.RowKit

/-- what comes in at this type is this data, for some y -/
structure Opn (P : Program) (t : TypeId) {α : Type} (p : α → Prop) (f : α → List D) : Prop where
  len : ∀ y, p y → (f y).length = P.cellsOf t
  h : ∀ {H : Type} {enc : TypeId × Value → H} {w : World} {base : Nat} {spare : Nat → Bool} {held : Bool} {fuel : Nat} {cs : List Value} {x : DataW H × List MemPlace}, DataW.trod enc P w base spare held fuel t cs = some x →
    ∃ y, p y ∧ (∀ B, dreps B (fun _ => True) w (f y) cs) ∧ ∀ u ∈ cs, u.oneCell' = true
section
variable {P : Program} {t e : TypeId} {α β : Type} {p : α → Prop} {q : β → Prop} {f : α → List D} {g : β → List D}
theorem Opn.map (h : Opn P t p f) (k : ∀ y, p y → ∃ z, q z ∧ g z = f y) (hl : ∀ z, q z → (g z).length = P.cellsOf t) : Opn P t q g := ⟨hl, fun hx => by
  obtain ⟨y, h1, h2, h3⟩ := h.h hx
  obtain ⟨z, k1, k2⟩ := k y h1
  exact ⟨z, k1, by rw [k2]; exact h2, h3⟩⟩
theorem Opn.int {k : IntKind} (ht : P.underlying t = some (.int k)) (hs : P.cellsOf t = 1) : Opn P t (fun n : Int => (Lit.int k n).wf = true) (fun n => [.lit (.int k n)]) := ⟨fun _ _ => by simp [hs], fun hx => by
  obtain ⟨n, rfl, _, hw⟩ := DataW.trod_int ht hx
  exact ⟨n, hw, fun B => by simp [dreps, drep], by simp [Value.oneCell']⟩⟩
theorem Opn.i64 (ht : P.underlying t = some (.int .i64)) (hs : P.cellsOf t = 1) : Opn P t (fun n : Int => -9223372036854775808 ≤ n ∧ n ≤ 9223372036854775807) (fun n => [.lit (.int .i64 n)]) :=
  (Opn.int ht hs).map (fun n hn => ⟨n, bounds_i64 hn, rfl⟩) (fun _ _ => by simp [hs])
theorem Opn.u8 (ht : P.underlying t = some (.int .u8)) (hs : P.cellsOf t = 1) : Opn P t (fun _ : UInt8 => True) (fun y => [.lit (vb y)]) :=
  (Opn.int ht hs).map (fun n hn => by
    have hb := bounds_u8 hn
    refine ⟨UInt8.ofNat n.toNat, trivial, ?_⟩
    simp only [vb, List.cons.injEq, and_true, D.lit.injEq, Value.int.injEq, true_and]
    simp
    omega) (fun _ _ => by simp [hs])
theorem Opn.bool (ht : P.underlying t = some .bool) (hs : P.cellsOf t = 1) : Opn P t (fun _ : Bool => True) (fun b => [.lit (.bool b)]) := ⟨fun _ _ => by simp [hs], fun hx => by
  obtain ⟨n, rfl, _⟩ := DataW.trod_bool ht hx
  exact ⟨n, trivial, fun B => by simp [dreps, drep], by simp [Value.oneCell']⟩⟩
theorem drepss_flat {B : Nat} {U : Nat → Prop} {w : World} {γ : Type} (a : γ → List D) (b : γ → List Value) : ∀ {l : List γ}, (∀ y ∈ l, dreps B U w (a y) (b y)) → drepss B U w (l.map a) (l.flatMap b)
  | [], _ => by simp [drepss]
  | y :: l, h => by
    simp only [List.map_cons, List.flatMap_cons, drepss]
    exact ⟨_, _, rfl, h y (by simp), drepss_flat a b fun z hz => h z (by simp [hz])⟩
theorem Opn.slice (h : Opn P e p f) (ht : P.underlying t = some (.slice e)) (hpos : 0 < P.cellsOf e) (hs : P.cellsOf t = 1) : Opn P t (fun l : List α => (∀ y ∈ l, p y) ∧ l.length ≤ 9223372036854775807) (fun l => [.sl false false (l.map f)]) := ⟨fun _ _ => by simp [hs], fun {H enc w base spare held fuel cs x} hx => by
  rcases Deep.open_slice ht hx with ⟨rfl, _⟩ | ⟨ad, n, cap, m, k, D', Pl, rfl, hb, hl, hm, hmm, _, hx⟩
  · exact ⟨[], ⟨by simp, by simp⟩, fun B => by simp only [dreps, List.map_nil]; exact ⟨_, [], rfl, dle_nil false false B _ _ _ (by simp only [drep]), rfl⟩, by simp [Value.oneCell']⟩
  · have hnm : n ≤ m := by rw [hmm]; split <;> omega
    obtain ⟨L, hl1, hp⟩ := list_of_fn (α := { z : α × List Value // z.2.length = P.cellsOf e }) n (fun i z => p z.1.1 ∧ (∀ B, dreps B (fun _ => True) w (f z.1.1) z.1.2) ∧ (∀ u ∈ z.1.2, u.oneCell' = true) ∧ ∀ j v, z.1.2[j]? = some v → w.cell? (ad.add (i * P.cellsOf e + j)) = some v) (fun i hi => by
      obtain ⟨cs', h1, h2⟩ := hx i (by omega)
      obtain ⟨y, k1, k2, k3⟩ := h.h h2
      obtain ⟨h0, h3, h4⟩ := World.cells?_some h1
      have hlen : cs'.length = P.cellsOf e := by rw [dreps_len (k2 0), h.len y k1]
      refine ⟨⟨(y, cs'), hlen⟩, k1, k2, k3, fun j v hv => ?_⟩
      have hj := (List.getElem?_eq_some_iff.1 hv).1
      simp only at hj hv
      rw [← Deep.add_add, h4 j (by omega)]
      exact hv)
    have hp' : ∀ z ∈ L, p z.1.1 ∧ (∀ B, dreps B (fun _ => True) w (f z.1.1) z.1.2) ∧ ∀ u ∈ z.1.2, u.oneCell' = true := fun z hz => by
      obtain ⟨i, hi, rfl⟩ := List.mem_iff_getElem.1 hz
      exact ⟨(hp i hi).1, (hp i hi).2.1, (hp i hi).2.2.1⟩
    have hlm : (L.map fun z => z.1.1).length = n := by rw [List.length_map, hl1]
    refine ⟨L.map fun z => z.1.1, ⟨fun y hy => ?_, by rw [hlm]; unfold maxLen at hm; omega⟩, fun B => ?_, by simp [Value.oneCell']⟩
    · obtain ⟨z, hz, rfl⟩ := List.mem_map.1 hy
      exact (hp' z hz).1
    simp only [dreps, drep]
    refine ⟨_, [], rfl, ⟨some ad, cap, L.flatMap fun z => z.1.2, by rw [List.length_map, hlm], by rw [List.length_map, hlm]; exact hl, hm, (fun h => by cases h), (fun h => by cases h), ⟨P.cellsOf e, fun x hx => ?_⟩, fun u hu => ?_, fun j u hu => ?_, ?_⟩, rfl⟩
    · obtain ⟨y, hy, rfl⟩ := List.mem_map.1 hx
      obtain ⟨z, hz, rfl⟩ := List.mem_map.1 hy
      exact h.len _ (hp' z hz).1
    · obtain ⟨z, hz, hu⟩ := List.mem_flatMap.1 hu
      exact (hp' z hz).2.2 u hu
    · have hj := (List.getElem?_eq_some_iff.1 hu).1
      have hz2 : ∀ z : { z : α × List Value // z.2.length = P.cellsOf e }, z.1.2.length = P.cellsOf e := fun z => z.2
      rw [flatMap_len (fun z : { z : α × List Value // z.2.length = P.cellsOf e } => z.1.2) (P.cellsOf e) hz2 L] at hj
      have hd : j / P.cellsOf e < L.length := Nat.div_lt_of_lt_mul (by rwa [Nat.mul_comm])
      have hmd : j % P.cellsOf e < P.cellsOf e := Nat.mod_lt _ hpos
      have hjj : j / P.cellsOf e * P.cellsOf e + j % P.cellsOf e = j := by rw [Nat.mul_comm]; exact Nat.div_add_mod j _
      have hc0 := (hp (j / P.cellsOf e) hd).2.2.2 (j % P.cellsOf e) u (by rw [← flatMap_get (fun z : { z : α × List Value // z.2.length = P.cellsOf e } => z.1.2) (P.cellsOf e) hz2 L _ _ hd hmd, hjj]; exact hu)
      rw [hjj] at hc0
      have hl0 : 0 < L.length := Nat.lt_of_le_of_lt (Nat.zero_le _) hd
      obtain ⟨v0, hv0⟩ : ∃ v0, (L[0].1.2)[0]? = some v0 := ⟨_, List.getElem?_eq_getElem (l := L[0].1.2) (by rw [L[0].2]; exact hpos)⟩
      have hc1 := (hp 0 (by omega)).2.2.2 0 v0 hv0
      simp only [Nat.zero_mul, Nat.add_zero] at hc1
      have hs := World.cell?_spot hc1
      obtain ⟨b, o, sp⟩ := ad
      simp only [Addr.add, if_pos] at hs
      subst hs
      refine ⟨b, o, rfl, ⟨trivial, fun h => by cases h⟩, ?_⟩
      have hadd : (⟨b, o, none⟩ : Addr).add j = ⟨b, o + j, none⟩ := by unfold Addr.add; split <;> simp_all
      rw [hadd] at hc0
      exact hc0
    · rw [List.map_map]
      exact drepss_flat (fun z => f z.1.1) (fun z => z.1.2) fun z hz => (hp' z hz).2.1 B⟩
/-- fields, from a cell on -/
structure OpnF (P : Program) (tot off : Nat) (fs : List Field) {α : Type} (p : α → Prop) (f : α → List D) : Prop where
  len : ∀ y, p y → off + (f y).length = tot
  h : ∀ {H : Type} {enc : TypeId × Value → H} {w : World} {base : Nat} {spare : Nat → Bool} {held : Bool} {n : Nat} {cs : List Value}, cs.length = tot → (∀ fl ∈ fs, ∃ x, DataW.trod enc P w base spare held n fl.type ((cs.drop fl.offset).take (P.cellsOf fl.type)) = some x) →
    ∃ y, p y ∧ (∀ B, dreps B (fun _ => True) w (f y) (cs.drop off)) ∧ ∀ u ∈ cs.drop off, u.oneCell' = true
theorem OpnF.nil {tot off : Nat} (h : off = tot) : OpnF P tot off [] (fun _ : Unit => True) (fun _ => []) := ⟨fun _ _ => by simp [h], fun hc _ => ⟨(), trivial, fun B => by simp [dreps]; omega, by rw [List.drop_eq_nil_of_le (by omega)]; simp⟩⟩
theorem OpnF.cons {tot off : Nat} {fl : Field} {fs : List Field} (h : Opn P fl.type p f) (ho : fl.offset = off) (hr : OpnF P tot (off + P.cellsOf fl.type) fs q g) : OpnF P tot off (fl :: fs) (fun y : α × β => p y.1 ∧ q y.2) (fun y => f y.1 ++ g y.2) := ⟨fun y hy => by
  have h1 := h.len y.1 hy.1
  have h2 := hr.len y.2 hy.2
  simp only [List.length_append]; omega, fun {H enc w base spare held n cs} hc hx => by
  obtain ⟨x, hx0⟩ := hx fl (by simp)
  obtain ⟨y, k1, k2, k3⟩ := h.h hx0
  obtain ⟨z, m1, m2, m3⟩ := hr.h hc fun fl hfl => hx fl (by simp [hfl])
  subst ho
  have e := List.take_append_drop (P.cellsOf fl.type) (List.drop fl.offset cs)
  rw [List.drop_drop] at e
  refine ⟨(y, z), ⟨k1, m1⟩, fun B => ?_, fun u hu => ?_⟩
  · rw [← e]; exact dreps_app (k2 B) (m2 B)
  · rw [← e] at hu
    rcases List.mem_append.1 hu with hu | hu
    · exact k3 u hu
    · exact m3 u hu⟩
theorem Opn.struct {fs : Array Field} {tot : Nat} (ht : P.underlying t = some (.struct fs)) (hs : P.cellsOf t = tot) (h : OpnF P tot 0 fs.toList p f) : Opn P t p f := ⟨fun y hy => by have := h.len y hy; omega, fun hx => by
  obtain ⟨xs, n, _, _, hl, hlen, hf⟩ := DataW.trod_struct ht hx
  obtain ⟨y, k1, k2, k3⟩ := h.h (hl.trans hs) fun fl hfl => by
    obtain ⟨i, hi, rfl⟩ := List.mem_iff_getElem.1 hfl
    have hi' : i < fs.size := by simpa using hi
    refine ⟨xs[i]'(by omega), ?_⟩
    have := hf i (fs.toList[i]) (by simp [hi'])
    rw [this, List.getElem?_eq_getElem]
  exact ⟨y, k1, by simpa using k2, by simpa using k3⟩⟩
theorem opn_rows {H : Type} {enc : TypeId × Value → H} {w : World} {base : Nat} {spare : Nat → Bool} {held : Bool} {m : Nat} (h : Opn P e p f) : ∀ (n : Nat) (cs : List Value), cs.length = n * P.cellsOf e → (∀ i, i < n → ∃ x, DataW.trod enc P w base spare held m e ((cs.drop (i * P.cellsOf e)).take (P.cellsOf e)) = some x) →
    ∃ l : List α, l.length = n ∧ (∀ y ∈ l, p y) ∧ (∀ B, dreps B (fun _ => True) w (l.flatMap f) cs) ∧ ∀ u ∈ cs, u.oneCell' = true
  | 0, cs, hc, _ => by
    have : cs = [] := List.eq_nil_of_length_eq_zero (by simpa using hc)
    subst this
    exact ⟨[], rfl, by simp, fun B => by simp [dreps], by simp⟩
  | n + 1, cs, hc, hx => by
    obtain ⟨x, h0⟩ := hx 0 (by omega)
    simp only [Nat.zero_mul, List.drop_zero] at h0
    obtain ⟨y, k1, k2, k3⟩ := h.h h0
    have e1 : (n + 1) * P.cellsOf e = P.cellsOf e + n * P.cellsOf e := by rw [Nat.add_mul]; omega
    obtain ⟨l, m1, m2, m3, m4⟩ := opn_rows h n (cs.drop (P.cellsOf e)) (by rw [List.length_drop, hc]; omega) fun i hi => by
      obtain ⟨x, hx⟩ := hx (i + 1) (by omega)
      refine ⟨x, ?_⟩
      rw [List.drop_drop, ← hx, show (i + 1) * P.cellsOf e = P.cellsOf e + i * P.cellsOf e by rw [Nat.add_mul]; omega]
    have e2 := List.take_append_drop (P.cellsOf e) cs
    refine ⟨y :: l, by simp [m1], fun z hz => ?_, fun B => ?_, fun u hu => ?_⟩
    · rcases List.mem_cons.1 hz with rfl | hz
      · exact k1
      · exact m2 z hz
    · rw [List.flatMap_cons, ← e2]; exact dreps_app (k2 B) (m3 B)
    · rw [← e2] at hu
      rcases List.mem_append.1 hu with hu | hu
      · exact k3 u hu
      · exact m4 u hu
theorem opn_flat (h : Opn P e p f) : ∀ {l : List α}, (∀ y ∈ l, p y) → (l.flatMap f).length = l.length * P.cellsOf e
  | [], _ => by simp
  | y :: l, hl => by
    have := h.len y (hl y (by simp))
    rw [List.flatMap_cons, List.length_append, opn_flat h fun z hz => hl z (by simp [hz]), this, List.length_cons, Nat.add_mul]; omega
theorem Opn.array {n : Nat} (h : Opn P e p f) (ht : P.underlying t = some (.array n e)) (hs : P.cellsOf t = n * P.cellsOf e) : Opn P t (fun l : List α => l.length = n ∧ ∀ y ∈ l, p y) (fun l => l.flatMap f) := ⟨fun y hy => by rw [opn_flat h hy.2, hy.1, hs], fun hx => by
  obtain ⟨xs, m, _, _, hl, hlen, hf⟩ := DataW.trod_array ht hx
  obtain ⟨l, k1, k2, k3, k4⟩ := opn_rows h n _ (hl.trans hs) fun i hi => ⟨xs[i]'(by omega), by rw [hf i hi, List.getElem?_eq_getElem]⟩
  exact ⟨l, ⟨k1, k2⟩, k3, k4⟩⟩

/-! ### an argument -/
variable {H : Type} {enc : TypeId × Value → H} {w : World} {base b0 : Nat} {spare : Nat → Bool} {held : Bool} {r : Reach} {v : Value} {d : DataW H} {ps : List MemPlace}
theorem arg_struct (h : Opn P t p f) {fs : Array Field} (ht : P.underlying t = some (.struct fs)) (hv : Value.okWide P w r b0 t v) (hx : DataW.Trod enc P w base spare held t v d ps) : ∃ y, p y ∧ ∀ B, drep B (fun _ => True) w (.agg (f y)) v := by
  unfold Value.okWide at hv
  rw [ht] at hv
  obtain ⟨cs, rfl, _, _⟩ := hv
  obtain ⟨fuel, hx⟩ := hx
  obtain ⟨y, k1, k2, _⟩ := h.h hx
  exact ⟨y, k1, fun B => by simp only [drep]; exact ⟨cs.toList, rfl, k2 B⟩⟩
theorem arg_array (h : Opn P t p f) {n : Nat} (ht : P.underlying t = some (.array n e)) (hv : Value.okWide P w r b0 t v) (hx : DataW.Trod enc P w base spare held t v d ps) : ∃ y, p y ∧ ∀ B, drep B (fun _ => True) w (.agg (f y)) v := by
  unfold Value.okWide at hv
  rw [ht] at hv
  obtain ⟨cs, rfl, _, _⟩ := hv
  obtain ⟨fuel, hx⟩ := hx
  obtain ⟨y, k1, k2, _⟩ := h.h hx
  exact ⟨y, k1, fun B => by simp only [drep]; exact ⟨cs.toList, rfl, k2 B⟩⟩
theorem arg_cell {f : α → D} (h : Opn P t p fun y => [f y]) (hn : v.cells.toList = [v]) (hx : DataW.Trod enc P w base spare held t v d ps) : ∃ y, p y ∧ ∀ B, drep B (fun _ => True) w (f y) v := by
  obtain ⟨fuel, hx⟩ := hx
  rw [hn] at hx
  obtain ⟨y, k1, k2, _⟩ := h.h hx
  refine ⟨y, k1, fun B => ?_⟩
  have := k2 B
  simp only [dreps] at this
  obtain ⟨u, us, e, h1, _⟩ := this
  cases e; exact h1
end
end Go.Proofs.Ytjfaihpiohccbaa

namespace Go.Proofs.Ytjfaihpiohccbaa
open Go.RowKit
def I64 (n : Int) : Prop := -9223372036854775808 ≤ n ∧ n ≤ 9223372036854775807
theorem opn_int : Opn Try.prog 3 I64 (fun n => [.lit (.int .i64 n)]) := Opn.i64 Try.underlying3 (by kernel_rfl)
theorem opn_bool : Opn Try.prog 4 (fun _ : Bool => True) (fun b => [.lit (.bool b)]) := Opn.bool Try.underlying4 (by kernel_rfl)
theorem opn_by : Opn Try.prog 22 (fun b : List UInt8 => b.length ≤ 9223372036854775807) (fun b => [.sl false false (byD b)]) :=
  (Opn.slice (Opn.u8 Try.underlying5 (by kernel_rfl)) Try.underlying22 (by rw [show Try.prog.cellsOf 5 = 1 by kernel_rfl]; omega) (by kernel_rfl)).map (fun y h => ⟨y, h.2, rfl⟩) (fun z hz => by rw [show Try.prog.cellsOf 22 = 1 by kernel_rfl]; rfl)
theorem opn_op : Opn Try.prog 43 (fun o : DOp => I64 o.k ∧ I64 o.f) opD :=
  (Opn.struct (tot := 3) Try.underlying43 (by kernel_rfl) (OpnF.cons opn_int rfl (OpnF.cons opn_int (by kernel_rfl) (OpnF.cons opn_by (by kernel_rfl) (OpnF.nil (by kernel_rfl)))))).map
    (fun y h => ⟨⟨y.1, y.2.1, y.2.2.1⟩, ⟨h.1, h.2.1⟩, rfl⟩) (fun z hz => by rw [show Try.prog.cellsOf 43 = 3 by kernel_rfl]; rfl)
theorem opn_ops : Opn Try.prog 24 (fun _ : List DOp => True) (fun l => [.sl false false (l.map opD)]) :=
  (Opn.slice opn_op Try.underlying24 (by rw [show Try.prog.cellsOf 43 = 3 by kernel_rfl]; omega) (by kernel_rfl)).map (fun y h => ⟨y, trivial, rfl⟩) (fun z hz => by rw [show Try.prog.cellsOf 24 = 1 by kernel_rfl]; rfl)
theorem opn_files : Opn Try.prog 23 (fun _ : List UInt8 × List UInt8 × List UInt8 × List UInt8 => True) (fun x => [.sl false false (byD x.1), .sl false false (byD x.2.1), .sl false false (byD x.2.2.1), .sl false false (byD x.2.2.2)]) :=
  (Opn.array (n := 4) opn_by Try.underlying23 (by kernel_rfl)).map (fun y h => by
    obtain ⟨h1, _⟩ := h
    match y, h1 with
    | [a, b, c, d], _ => exact ⟨(a, b, c, d), trivial, rfl⟩) (fun z hz => by rw [show Try.prog.cellsOf 23 = 4 by kernel_rfl]; rfl)
theorem opn_dk : Opn Try.prog 26 (fun _ : Dk => True) dkD :=
  (Opn.struct (tot := 8) Try.underlying26 (by kernel_rfl) (OpnF.cons opn_files rfl (OpnF.cons opn_int (by kernel_rfl) (OpnF.cons opn_ops (by kernel_rfl) (OpnF.cons opn_bool (by kernel_rfl) (OpnF.cons opn_int (by kernel_rfl) (OpnF.nil (by kernel_rfl)))))))).map
    (fun y h => ⟨⟨y.1.1, y.1.2.1, y.1.2.2.1, y.1.2.2.2, y.2.1, y.2.2.1, y.2.2.2.1, y.2.2.2.2.1⟩, trivial, rfl⟩) (fun z hz => by rw [show Try.prog.cellsOf 26 = 8 by kernel_rfl]; rfl)
theorem opn_two : Opn Try.prog 31 (fun x : Int × Int => I64 x.1 ∧ I64 x.2) (fun x => [.lit (.int .i64 x.1), .lit (.int .i64 x.2)]) :=
  (Opn.array (n := 2) opn_int Try.underlying31 (by kernel_rfl)).map (fun y h => by
    obtain ⟨h1, h2⟩ := h
    match y, h1, h2 with
    | [a, b], _, h2 => exact ⟨(a, b), ⟨h2 a (by simp), h2 b (by simp)⟩, rfl⟩) (fun z hz => by rw [show Try.prog.cellsOf 31 = 2 by kernel_rfl]; rfl)
theorem opn_twos : Opn Try.prog 27 (fun l : List (Int × Int) => ∀ x ∈ l, I64 x.1 ∧ I64 x.2) (fun l => [.sl false false (l.map fun x => [.lit (.int .i64 x.1), .lit (.int .i64 x.2)])]) :=
  (Opn.slice opn_two Try.underlying27 (by rw [show Try.prog.cellsOf 31 = 2 by kernel_rfl]; omega) (by kernel_rfl)).map (fun y h => ⟨y, h.1, rfl⟩) (fun z hz => by rw [show Try.prog.cellsOf 27 = 1 by kernel_rfl]; rfl)
theorem opn_ints : Opn Try.prog 61 (fun l : List Int => ∀ x ∈ l, I64 x) (fun l => [.sl false false (l.map fun x => [.lit (.int .i64 x)])]) :=
  (Opn.slice opn_int Try.underlying61 (by rw [show Try.prog.cellsOf 3 = 1 by kernel_rfl]; omega) (by kernel_rfl)).map (fun y h => ⟨y, h.1, rfl⟩) (fun z hz => by rw [show Try.prog.cellsOf 61 = 1 by kernel_rfl]; rfl)
end Go.Proofs.Ytjfaihpiohccbaa

namespace Go.Proofs.Ytjfaihpiohccbaa
open Go.RowKit
set_option maxRecDepth 10000
set_option maxHeartbeats 4000000
theorem file4 {P : Int → Prop} (h0 : P 0) (h1 : P 1) (h2 : P 2) (h3 : P 3) : ∀ f, 0 ≤ f → f < 4 → P f := fun f a b => by
  have h4 : f = 0 ∨ f = 1 ∨ f = 2 ∨ f = 3 := by omega
  rcases h4 with rfl | rfl | rfl | rfl <;> assumption
theorem done_file (d : Dk) (o : DOp) (hf : 0 ≤ o.f ∧ o.f < 4) : ∀ f, 0 ≤ f → f < 4 → (d.done o).file f = if o.f = f then (if o.k = 1 then d.file f ++ o.b else if o.k = 2 then [] else d.file f) else d.file f := fun f h0 h1 => by
  obtain ⟨k, g, b⟩ := o
  simp only at hf ⊢
  have hg : g = 0 ∨ g = 1 ∨ g = 2 ∨ g = 3 := by omega
  have h4 : f = 0 ∨ f = 1 ∨ f = 2 ∨ f = 3 := by omega
  by_cases k1 : k = 1
  · subst k1; rcases hg with rfl | rfl | rfl | rfl <;> rcases h4 with rfl | rfl | rfl | rfl <;> simp [Dk.done, Dk.put, Dk.file]
  · by_cases k2 : k = 2
    · subst k2; rcases hg with rfl | rfl | rfl | rfl <;> rcases h4 with rfl | rfl | rfl | rfl <;> simp [Dk.done, Dk.empty, Dk.file]
    · rcases hg with rfl | rfl | rfl | rfl <;> rcases h4 with rfl | rfl | rfl | rfl <;> simp [Dk.done, Dk.file, k1, k2]
theorem done_pre (d : Dk) (o : DOp) (hf : 0 ≤ o.f ∧ o.f < 4) {f : Int} (h0 : 0 ≤ f) (h1 : f < 4) {w : List UInt8} (h : w <+: d.file f) (ho : ¬ (o.k = 2 ∧ o.f = f)) : w <+: (d.done o).file f := by
  rw [done_file d o hf f h0 h1]
  split
  · rename_i e
    split
    · exact h.trans (List.prefix_append _ _)
    · split
      · rename_i k; exact absurd ⟨k, e⟩ ho
      · exact h
  · exact h
theorem doAll_pre {f : Int} (h0 : 0 ≤ f) (h1 : f < 4) {w : List UInt8} : ∀ (l : List DOp) (d : Dk), (∀ o ∈ l, (0 ≤ o.f ∧ o.f < 4) ∧ ¬ (o.k = 2 ∧ o.f = f)) → w <+: d.file f → w <+: (d.doAll l).file f
  | [], d, _, h => h
  | o :: l, d, hl, h => doAll_pre h0 h1 l (d.done o) (fun o ho => hl o (by simp [ho])) (done_pre d o (hl o (by simp)).1 h0 h1 h (hl o (by simp)).2)
/-- the operation that a fall tears -/
def tornL (k : Nat) (torn : Int) (l : List DOp) : List DOp := match l[k]? with
  | some o => if o.k = 1 then [o.cut torn] else []
  | none => []
theorem keptL_eq (torn : Int) (k : Nat) : ∀ (l : List DOp) (i : Nat), i ≤ k → keptL k torn i l = l.take (k - i) ++ tornL (k - i) torn l
  | [], i, _ => by simp [keptL, tornL]
  | o :: l, i, h => by
    simp only [keptL]
    by_cases e : i = k
    · subst e; simp [tornL]
    · rw [if_neg (by omega), if_neg (by omega), keptL_eq torn k l (i + 1) (by omega), show k - i = k - (i + 1) + 1 by omega]
      simp [tornL]
theorem keptL_nat (keep torn : Int) (h : 0 ≤ keep) (l : List DOp) : keptL keep torn 0 l = l.take keep.toNat ++ tornL keep.toNat torn l := by
  have := keptL_eq torn keep.toNat l 0 (Nat.zero_le _)
  rw [show ((keep.toNat : Nat) : Int) = keep by omega] at this
  simpa using this
theorem tornL_mem {k : Nat} {torn : Int} {l : List DOp} {o : DOp} (h : o ∈ tornL k torn l) : ∃ x ∈ l, l[k]? = some x ∧ x.k = 1 ∧ o = x.cut torn := by
  unfold tornL at h
  split at h
  · rename_i x hx
    split at h
    · rename_i hk; simp at h; exact ⟨x, List.mem_of_getElem? hx, hx, hk, h⟩
    · simp at h
  · simp at h
theorem keptL_mem {keep torn : Int} (hk : 0 ≤ keep) {l : List DOp} {o : DOp} (h : o ∈ keptL keep torn 0 l) : ∃ x ∈ l, o.k = x.k ∧ o.f = x.f := by
  rw [keptL_nat keep torn hk] at h
  rcases List.mem_append.1 h with h | h
  · exact ⟨o, List.mem_of_mem_take h, rfl, rfl⟩
  · obtain ⟨x, h1, _, _, rfl⟩ := tornL_mem h; exact ⟨x, h1, rfl, rfl⟩
theorem steps_take : ∀ (l : List DOp) (s : S4) (n : Nat), stepsOk s l = true → stepsOk s (l.take n) = true
  | [], s, n, _ => by simp [stepsOk]
  | o :: l, s, 0, _ => rfl
  | o :: l, s, n + 1, h => by
    simp only [stepsOk, List.take_succ_cons, Bool.and_eq_true] at h ⊢
    exact ⟨h.1, steps_take l _ n h.2⟩
theorem doAll_app (d : Dk) (l m : List DOp) : d.doAll (l ++ m) = (d.doAll l).doAll m := by simp [Dk.doAll, List.foldl_append]
theorem all_take {l : List DOp} (h : l.all mayD = true) (n : Nat) : (l.take n).all mayD = true := by
  rw [List.all_eq_true] at h ⊢; exact fun o ho => h o (List.mem_of_mem_take ho)
theorem done_sz1 (d : Dk) (o : DOp) (hk : o.k = 1) (hf : 0 ≤ o.f ∧ o.f < 4) : sz4 (d.done o) = aft o (sz4 d) := by
  obtain ⟨k, f, b⟩ := o
  simp only at hf hk
  subst hk
  have h4 : f = 0 ∨ f = 1 ∨ f = 2 ∨ f = 3 := by omega
  rcases h4 with rfl | rfl | rfl | rfl <;> simp [Dk.done, Dk.put, sz4, aft, aft1]
theorem aft_cut_in (s : S4) (o : DOp) (t : Int) (hk : o.k = 1) (hf : 0 ≤ o.f ∧ o.f < 4) (hs : s.in) (h : (aft o s).in) : (aft (o.cut t) s).in := by
  obtain ⟨k, f, b⟩ := o
  simp only at hf hk
  subst hk
  have h4 : f = 0 ∨ f = 1 ∨ f = 2 ∨ f = 3 := by omega
  have hl : (b.take t.toNat).length ≤ b.length := by simp; omega
  rcases h4 with rfl | rfl | rfl | rfl <;> simp only [DOp.cut, aft, aft1, S4.in, if_true, if_false, Int.reduceEq, show ¬ ((1 : Int) = 2) by omega] at h hs ⊢ <;> omega
theorem steps_at : ∀ (l : List DOp) (s : S4) (n : Nat) (o : DOp), stepsOk s l = true → l[n]? = some o → fits ((aft o (aftL s (l.take n))).get o.f) = true
  | [], s, n, o, _, h => by simp at h
  | x :: l, s, 0, o, hs, h => by simp at h; subst h; simp only [stepsOk, Bool.and_eq_true] at hs; exact hs.1
  | x :: l, s, n + 1, o, hs, h => by
    simp only [stepsOk, Bool.and_eq_true] at hs
    exact steps_at l _ n o hs.2 (by simpa using h)
/-- what a fall leaves is no more than may be -/
theorem kept_in (d : Dk) (h : checkB d = true) (keep torn : Int) (hk : 0 ≤ keep) : (sz4 (d.doAll (keptL keep torn 0 d.waits))).in ∧ isFile (d.doAll (keptL keep torn 0 d.waits)).head = true := by
  have hc := h
  simp only [checkB, flatK, Bool.and_eq_true, decide_eq_true_eq] at h
  have hin := fits4_in d h.1.2
  have hm : d.waits.all mayD = true := h.1.1.2
  rw [keptL_nat keep torn hk, doAll_app]
  have h1 := doAll_sz (d.waits.take keep.toNat) d (all_take hm _)
  have h2 := aftL_in _ _ hin (all_take hm keep.toNat) (steps_take _ _ keep.toNat h.2)
  have h3 := doAll_head _ d (all_take hm keep.toNat) h.1.1.1.1.1.1.1
  cases ht : tornL keep.toNat torn d.waits with
  | nil =>
    refine ⟨?_, h3⟩
    show (sz4 (d.doAll _)).in
    rw [h1]; exact h2
  | cons o r =>
    obtain ⟨x, hx, hx2, hx3, rfl⟩ := tornL_mem (o := o) (by rw [ht]; simp)
    have hr : r = [] := by
      unfold tornL at ht
      rw [hx2] at ht
      simp only [hx3, if_true] at ht
      injection ht with _ ht; exact ht.symm
    subst hr
    have hkf := (may_kf x (check_may d hc x hx)).2
    show (sz4 ((d.doAll _).done (x.cut torn))).in ∧ isFile ((d.doAll _).done (x.cut torn)).head = true
    rw [done_sz1 _ (x.cut torn) hx3 hkf, h1]
    refine ⟨aft_cut_in _ x torn hx3 hkf h2 (aft_in _ x h2 (steps_at _ _ _ x h.2 hx2) hkf), ?_⟩
    simp only [Dk.done, DOp.cut, hx3, if_true, Dk.put]
    split <;> (try split) <;> (try split) <;> exact h3
/-- a disk that fell, and rose -/
def Dk.rose (d : Dk) (keep torn : Int) : Dk := { (d.doAll (keptL keep torn 0 d.waits)).clear with down := false, fuse := 0 }
theorem rose_check (d : Dk) (h : checkB d = true) (keep torn : Int) (hk : 0 ≤ keep) : checkB (d.rose keep torn) = true := by
  obtain ⟨h1, h2⟩ := kept_in d h keep torn hk
  exact check_mk _ (by simp [flatK, Dk.rose, Dk.clear, h2]) rfl h1 rfl
theorem fell_check (d : Dk) (h : checkB d = true) (keep torn : Int) (hk : 0 ≤ keep) : checkB { (d.doAll (keptL keep torn 0 d.waits)).clear with down := true, fuse := 0 } = true := by
  obtain ⟨h1, h2⟩ := kept_in d h keep torn hk
  exact check_mk _ (by simp [flatK, Dk.clear, h2]) rfl h1 rfl
theorem fall_eq (d : Dk) (h : checkB d = true) (keep torn : Int) : d.fall keep torn = if 0 ≤ keep ∧ 0 ≤ torn then ({ (d.doAll (keptL keep torn 0 d.waits)).clear with down := true, fuse := 0 }, 0) else (.zero, 2) := by
  unfold Dk.fall
  rw [h]
  by_cases h1 : 0 ≤ keep <;> by_cases h2 : 0 ≤ torn <;> simp [h1, h2]
theorem rise_eq (d : Dk) (h : checkB d = true) (keep torn : Int) (hk : 0 ≤ keep) : Dk.rise { (d.doAll (keptL keep torn 0 d.waits)).clear with down := true, fuse := 0 } = (d.rose keep torn, 0) := by
  unfold Dk.rise
  rw [fell_check d h keep torn hk]
  rfl
theorem read_still (d : Dk) (h : checkB d = true) (hw : d.waits = []) : ∀ f, 0 ≤ f → f < 4 → d.readE f = (d.file f, 0) := fun f h0 h1 => by
  have hf : isFile f = true := by simp [isFile]; omega
  simp only [Dk.readE, h, hf, Dk.seen, hw]
  simp only [Bool.true_eq_false, if_false]
  rfl
structure KInv (w d : Dk) (em : S4) : Prop where
  ck : checkB d = true
  pre : ∀ f, 0 ≤ f → f < 4 → em.get f = 0 → w.file f <+: d.file f ∧ ∀ o ∈ d.waits, ¬ (o.k = 2 ∧ o.f = f)
theorem KInv.here {w : Dk} {em : S4} (h : checkB w = true) (hw : w.waits = []) : KInv w w em := ⟨h, fun f _ _ _ => ⟨List.prefix_refl _, by rw [hw]; simp⟩⟩
theorem do_ok {d n : Dk} {o : DOp} {e : Int} (hc : checkB d = true) (h : d.doOp o = (n, e)) (he : e = 321 ∨ e = 0) : ∃ up, d.step o = .ok up n ∧ (e = 0 ↔ up = true) := by
  unfold Dk.doOp at h
  rw [hc] at h
  simp only [Bool.true_eq_false, if_false] at h
  split at h
  · rename_i e' hs
    cases h
    exfalso
    unfold Dk.step at hs
    split at hs
    · cases hs; omega
    · split at hs
      · cases hs
      · split at hs
        · cases hs; omega
        · split at hs
          · cases hs
          · split at hs <;> cases hs
  · rename_i up d' hs
    cases h
    exact ⟨up, hs, by cases up <;> simp⟩
theorem step_shape {d n : Dk} {o : DOp} {up : Bool} (hc : checkB d = true) (h : d.step o = .ok up n) : (up = false ∧ n.waits = d.waits ∧ (∀ f, n.file f = d.file f)) ∨
    (up = true ∧ syncB o = true ∧ n.waits = [] ∧ ∀ f, n.file f = (d.doAll d.waits).file f) ∨ (up = true ∧ mayD o = true ∧ n.waits = d.waits ++ [o] ∧ ∀ f, n.file f = d.file f) := by
  unfold Dk.step at h
  split at h
  · cases h
  · rename_i hm
    split at h
    · cases h; exact .inl ⟨rfl, rfl, fun _ => rfl⟩
    · split at h
      · cases h
      · split at h
        · cases h; exact .inl ⟨rfl, rfl, fun _ => rfl⟩
        · split at h
          · rename_i hs
            cases h
            refine .inr (.inl ⟨rfl, hs, rfl, fun f => ?_⟩)
            rw [keptL_all _ _ _ _ (by omega)]
            have key : ∀ (l : List DOp) (d : Dk) (z : Int), (Dk.doAll { d with fuse := z } l) = { d.doAll l with fuse := z } := by
              intro l
              induction l with
              | nil => intro d z; rfl
              | cons o l ih =>
                intro d z
                show (Dk.doAll (Dk.done { d with fuse := z } o) l) = _
                have : Dk.done { d with fuse := z } o = { d.done o with fuse := z } := by
                  simp only [Dk.done, Dk.put, Dk.empty]
                  split <;> (try split) <;> (try split) <;> (try split) <;> (try split) <;> rfl
                rw [this, ih]; rfl
            rw [key]; rfl
          · rename_i hs
            cases h
            refine .inr (.inr ⟨rfl, ?_, rfl, fun _ => rfl⟩)
            simp only [Bool.not_eq_true] at hs
            rw [hs] at hm
            simpa using hm
theorem KInv.step {w d n : Dk} {em em' : S4} {o : DOp} {e : Int} (h : KInv w d em) (he : d.doOp o = (n, e)) (h2 : e = 321 ∨ e = 0) (hem : ∀ f, 0 ≤ f → f < 4 → em'.get f = 0 → em.get f = 0 ∧ ¬ (o.k = 2 ∧ o.f = f)) : KInv w n em' := by
  obtain ⟨up, hs, _⟩ := do_ok h.ck he h2
  refine ⟨step_check d o up n h.ck hs, fun f h0 h1 hz => ?_⟩
  obtain ⟨k1, k2⟩ := hem f h0 h1 hz
  obtain ⟨p1, p2⟩ := h.pre f h0 h1 k1
  rcases step_shape h.ck hs with ⟨_, e1, e2⟩ | ⟨_, _, e1, e2⟩ | ⟨_, _, e1, e2⟩
  · rw [e1, e2]; exact ⟨p1, p2⟩
  · rw [e1, e2]; exact ⟨doAll_pre h0 h1 _ _ (fun x hx => ⟨(may_kf x (check_may d h.ck x hx)).2, p2 x hx⟩) p1, by simp⟩
  · rw [e1, e2]
    refine ⟨p1, fun x hx => ?_⟩
    rcases List.mem_append.1 hx with hx | hx
    · exact p2 x hx
    · simp at hx; subst hx; exact k2
theorem KInv.rose {w d : Dk} {em : S4} (h : KInv w d em) (keep torn : Int) (hk : 0 ≤ keep) : ∀ f, 0 ≤ f → f < 4 → em.get f = 0 → w.file f <+: (d.rose keep torn).file f := fun f h0 h1 hz => by
  obtain ⟨p1, p2⟩ := h.pre f h0 h1 hz
  show _ <+: (d.doAll (keptL keep torn 0 d.waits)).file f
  refine doAll_pre h0 h1 _ _ (fun o ho => ?_) p1
  obtain ⟨x, hx, e1, e2⟩ := keptL_mem hk ho
  rw [e1, e2]
  exact ⟨(may_kf x (check_may d h.ck x hx)).2, p2 x hx⟩
/-- synced -/
theorem sync_ok {d n : Dk} (hc : checkB d = true) (h : d.doOp ⟨4, 0, []⟩ = (n, 0)) : checkB n = true ∧ n.waits = [] := by
  obtain ⟨up, hs, hu⟩ := do_ok hc h (.inr rfl)
  have : up = true := hu.1 rfl
  subst this
  refine ⟨step_check _ _ _ _ hc hs, ?_⟩
  rcases step_shape hc hs with ⟨h, _⟩ | ⟨_, _, e1, _⟩ | ⟨_, h, _⟩
  · cases h
  · exact e1
  · simp [mayD, mayOp] at h
theorem do_none {d n : Dk} {o : DOp} {e : Int} (hc : checkB d = false) (h : d.doOp o = (n, e)) : e = 320 := by
  unfold Dk.doOp at h
  rw [hc] at h
  simp at h; omega
theorem own_wb (x : Dk) : ∀ o ∈ x.own.waits, o.b.length ≤ 1000000000 := fun o ho => by have := cutOps_len x.waits o ho; omega
end Go.Proofs.Ytjfaihpiohccbaa

namespace Go.Proofs.Ytjfaihpiohccbaa
open Go.RowKit
set_option maxRecDepth 10000
set_option maxHeartbeats 4000000
theorem done_fuse (d : Dk) (o : DOp) (z : Int) (u : Bool) (W : List DOp) : Dk.done { d with waits := W, down := u, fuse := z } o = { d.done o with waits := W, down := u, fuse := z } := by
  simp only [Dk.done, Dk.put, Dk.empty]
  split <;> (try split) <;> (try split) <;> (try split) <;> (try split) <;> rfl
theorem doAll_fuse (z : Int) (u : Bool) (W : List DOp) : ∀ (l : List DOp) (d : Dk), Dk.doAll { d with waits := W, down := u, fuse := z } l = { d.doAll l with waits := W, down := u, fuse := z }
  | [], d => rfl
  | o :: l, d => by
    show Dk.doAll (Dk.done _ o) l = { (d.done o).doAll l with waits := W, down := u, fuse := z }
    rw [done_fuse, doAll_fuse z u W l]
/-- an operation of a disk whose fuse does not burn -/
theorem step_free {d : Dk} (hd : d.down = false) (hf : d.fuse = 0) (o : DOp) : (∃ e, d.step o = .pan e ∧ ∀ m, Dk.step { d with fuse := m } o = .pan e) ∨
    ∃ d', d.step o = .ok true d' ∧ d'.down = false ∧ d'.fuse = 0 ∧ Dk.step { d with fuse := 1 } o = .ok false { d with down := true, fuse := 0 } ∧ ∀ m, 1 < m → Dk.step { d with fuse := m } o = .ok true { d' with fuse := m - 1 } := by
  obtain ⟨f0, f1, f2, f3, head, w, dn, fu⟩ := d
  simp only at hd hf
  subst hd hf
  obtain ⟨ff, hfit⟩ : ∃ ff, ∀ m, Dk.fits ⟨f0, f1, f2, f3, head, w, false, m⟩ o = ff := ⟨Dk.fits ⟨f0, f1, f2, f3, head, w, false, 0⟩ o, fun _ => rfl⟩
  obtain ⟨dd, hkey⟩ : ∃ dd : Dk, ∀ m, Dk.doAll ⟨f0, f1, f2, f3, head, w, false, m⟩ (keptL w.length 0 0 w) = { dd with waits := w, down := false, fuse := m } := ⟨Dk.doAll ⟨f0, f1, f2, f3, head, w, false, 0⟩ (keptL w.length 0 0 w), fun m => doAll_fuse m false w _ ⟨f0, f1, f2, f3, head, w, false, 0⟩⟩
  unfold Dk.step
  simp only [hfit, hkey]
  cases hA : (mayD o || syncB o) with
  | false => exact .inl ⟨2, by simp, fun m => by simp⟩
  | true =>
    cases hS : syncB o with
    | true =>
      right
      refine ⟨{ dd with waits := [], down := false, fuse := 0 }, by simp [Dk.clear, show max (-1 : Int) 0 = 0 from rfl], rfl, rfl, by simp, fun m hm => ?_⟩
      have h1 : ¬ m = 1 := by omega
      have h2 : max (m - 1) 0 = m - 1 := by omega
      simp [h1, h2, Dk.clear]
    | false =>
      cases ff with
      | false => exact .inl ⟨6, by simp, fun m => by simp⟩
      | true =>
        right
        refine ⟨⟨f0, f1, f2, f3, head, w ++ [o], false, 0⟩, by simp [show max (-1 : Int) 0 = 0 from rfl], rfl, rfl, by simp, fun m hm => ?_⟩
        have h1 : ¬ m = 1 := by omega
        have h2 : max (m - 1) 0 = m - 1 := by omega
        simp [h1, h2]
/-- what happens to a disk that is armed, by what happens to one that is not -/
theorem run_fuse : ∀ (l : List DOp) (d : Dk) (i : Nat) (m : Nat), d.down = false → d.fuse = 0 → 1 ≤ m → ∀ a k g, d.runL l i = (a, k, g) → i ≤ k ∧ g ≠ 321 ∧
    (k < i + m → ∃ b, Dk.runL { d with fuse := m } l i = (b, k, g) ∧ (g = 0 → b = { a with fuse := (i + m - k : Nat) } ∧ a.down = false)) ∧
    (i + m ≤ k → ∃ b, Dk.runL { d with fuse := m } l i = ({ b with down := true }, i + m - 1, 321) ∧ d.runL (l.take (m - 1)) i = (b, i + m - 1, 0))
  | [], d, i, m, hd, hf, hm, a, k, g, h => by
    simp only [Dk.runL, Prod.mk.injEq] at h
    obtain ⟨rfl, rfl, rfl⟩ := h
    refine ⟨Nat.le_refl _, by omega, fun _ => ⟨_, rfl, fun _ => ⟨?_, hd⟩⟩, fun h => by omega⟩
    rw [show i + m - i = m by omega]
  | o :: l, d, i, m, hd, hf, hm, a, k, g, h => by
    rcases step_free hd hf o with ⟨e, h1, h2⟩ | ⟨d', h1, h2, h3, h4, h5⟩
    · simp only [Dk.runL, h1, Prod.mk.injEq] at h
      obtain ⟨rfl, rfl, rfl⟩ := h
      have hne : e = 2 ∨ e = 6 := by
        unfold Dk.step at h1
        split at h1
        · cases h1; exact .inl rfl
        · split at h1
          · cases h1
          · split at h1
            · cases h1; exact .inr rfl
            · split at h1
              · cases h1
              · split at h1 <;> cases h1
      refine ⟨Nat.le_refl _, by omega, fun _ => ⟨_, by simp only [Dk.runL, h2 m]; rfl, fun hg => by omega⟩, fun h => by omega⟩
    · simp only [Dk.runL, h1, if_true] at h
      rcases Nat.lt_or_ge 1 m with hm1 | hm1
      · obtain ⟨k1, k2, k3, k4⟩ := run_fuse l d' (i + 1) (m - 1) h2 h3 (by omega) a k g h
        have hs := h5 m (by omega)
        have hr : Dk.runL { d with fuse := (m : Int) } (o :: l) i = Dk.runL { d' with fuse := ((m - 1 : Nat) : Int) } l (i + 1) := by
          simp only [Dk.runL, hs, if_true]
          rw [show (m : Int) - 1 = ((m - 1 : Nat) : Int) by omega]
        refine ⟨by omega, k2, fun hk => ?_, fun hk => ?_⟩
        · rw [hr]
          obtain ⟨b, q1, q2⟩ := k3 (by omega)
          refine ⟨b, q1, fun hg => ?_⟩
          obtain ⟨q3, q4⟩ := q2 hg
          rw [show i + 1 + (m - 1) - k = i + m - k by omega] at q3
          exact ⟨q3, q4⟩
        · rw [hr]
          obtain ⟨b, q1, q2⟩ := k4 (by omega)
          refine ⟨b, by rw [q1, show i + 1 + (m - 1) - 1 = i + m - 1 by omega], ?_⟩
          rw [show m - 1 = (m - 1 - 1) + 1 by omega, List.take_succ_cons]
          simp only [Dk.runL, h1, if_true]
          rw [q2]; exact congrArg (fun n => (b, n, (0 : Int))) (by omega)
      · have hm' : m = 1 := by omega
        subst hm'
        have hik : i + 1 ≤ k := by
          have := run_fuse l d' (i + 1) 1 h2 h3 (by omega) a k g h
          exact this.1
        have hg : g ≠ 321 := (run_fuse l d' (i + 1) 1 h2 h3 (by omega) a k g h).2.1
        refine ⟨by omega, hg, fun hk => by omega, fun _ => ⟨d, ?_, ?_⟩⟩
        · have h4' : Dk.step { d with fuse := ((1 : Nat) : Int) } o = .ok false { d with down := true, fuse := 0 } := h4
          simp only [Dk.runL, h4']
          rw [show i + 1 - 1 = i by omega]
          cases d; simp only at hf ⊢; subst hf; rfl
        · simp only [Nat.sub_self, List.take_zero, Dk.runL]
          rw [show i + 1 - 1 = i by omega]
end Go.Proofs.Ytjfaihpiohccbaa

namespace Go.Proofs.Ytjfaihpiohccbaa
open Go.RowKit
set_option maxRecDepth 10000
set_option maxHeartbeats 4000000
theorem sync_seen (d : Dk) (hc : checkB d = true) (hd : d.down = false) (hf : d.fuse = 0) : d.doOp ⟨4, 0, []⟩ = (d.seen, 0) := by
  have hs : d.step ⟨4, 0, []⟩ = .ok true d.seen := by
    have h1 : mayD ⟨4, 0, []⟩ = false := by decide
    have h2 : syncB ⟨4, 0, []⟩ = true := by decide
    have e : ({ d with fuse := max (d.fuse - 1) 0 } : Dk) = d := by
      cases d; simp only at hf; subst hf; rfl
    unfold Dk.step
    rw [e]
    simp only [h1, h2, hd, hf]
    rw [keptL_all _ _ _ _ (by omega)]
    simp [Dk.seen]
  simp only [Dk.doOp, hc, hs]; simp
theorem seen_flat (d : Dk) (h : d.waits = []) : d.seen = d := by
  unfold Dk.seen Dk.clear Dk.doAll
  rw [h]
  cases d; simp only at h; subst h; rfl
theorem head_of {d : Dk} (hc : checkB d = true) : d.headI = d.seen.head := by simp [Dk.headI, hc]
theorem read_of {d : Dk} (hc : checkB d = true) (f : Int) (h0 : 0 ≤ f) (h4 : f < 4) : d.readE f = (d.seen.file f, 0) := by
  have hf : isFile f = true := by simp [isFile]; omega
  simp only [Dk.readE, hc, hf]; simp
/-- with other operations that wait -/
def Dk.on (d : Dk) (W : List DOp) : Dk := { d with waits := W }
theorem on_seen (d : Dk) (W : List DOp) : (d.on W).seen = (d.doAll W).clear := by
  have h := doAll_fuse d.fuse d.down W W d
  obtain ⟨f1, f2, f3⟩ := doAll_flat W d
  show (Dk.doAll (d.on W) W).clear = _
  have e : d.on W = { d with waits := W, down := d.down, fuse := d.fuse } := rfl
  rw [e, h]
  simp only [Dk.clear, ← f2, ← f3]
theorem on_check {d : Dk} (hc : checkB d = true) (n : Nat) : checkB (d.on (d.waits.take n)) = true := by
  have h := hc
  simp only [checkB, flatK, Bool.and_eq_true, decide_eq_true_eq] at h
  refine check_mk _ ?_ (all_take h.1.1.2 n) (fits4_in d h.1.2) (steps_take _ _ n h.2)
  have g1 := h.1.1.1.1.1.1.1
  have g2 := h.1.1.1.1.1.1.2
  have g3 := h.1.1.1.1.1.2
  have g4 := h.1.1.1.1.2
  have g5 := h.1.1.1.2
  simp only [flatK, Dk.on, g1, g3, g4, g5, decide_true, Bool.true_and, Bool.and_true]
  have : (d.waits.take n).length ≤ 4096 := by simp; omega
  simp only [this, decide_true, Bool.true_and]
  exact g5
theorem on_do {d : Dk} {W : List DOp} {o : DOp} (hc : checkB (d.on W) = true) (hd : d.down = false) (hf : d.fuse = 0) (hm : mayD o = true) (hw : W.length < 4096) (hs : fits ((aft o (aftL (sz4 d) W)).get o.f) = true) : (d.on W).doOp o = (d.on (W ++ [o]), 0) := by
  have hsy : syncB o = false := by
    have := (may_kf o hm).1
    simp [syncB]; omega
  have hfit : (d.on W).fits o = true := by
    have h2 := (fits_iff _).1 hs
    have h3 : (aftL (sz4 d) (W ++ [o])).get o.f ≤ 4194304 := by simpa [aftL] using h2
    have h4 : sz4 (d.on W) = sz4 d := rfl
    simp only [Dk.fits, h4, show (d.on W).waits = W from rfl, hw, h3, decide_true, Bool.and_self]
  have hst : (d.on W).step o = .ok true (d.on (W ++ [o])) := by
    obtain ⟨f0, f1, f2, f3, head, w, dn, fu⟩ := d
    simp only at hd hf
    subst hd hf
    unfold Dk.step
    rw [hfit, hsy, hm]
    simp only [Dk.on]
    simp
    rfl
  simp only [Dk.doOp, hc, hst]; simp
theorem on_take {d : Dk} (hc : checkB d = true) (hd : d.down = false) (hf : d.fuse = 0) {n : Nat} {o : DOp} (ho : d.waits[n]? = some o) : (d.on (d.waits.take n)).doOp o = (d.on (d.waits.take (n + 1)), 0) := by
  have h := hc
  simp only [checkB, flatK, Bool.and_eq_true, decide_eq_true_eq] at h
  have hn := (List.getElem?_eq_some_iff.1 ho).1
  have hl := h.1.1.1.1.1.1.2
  rw [on_do (on_check hc n) hd hf (check_may d hc o (List.mem_of_getElem? ho)) (by simp; omega) (steps_at _ _ _ o h.2 ho), List.take_add_one, ho]
  rfl
theorem on_torn {d : Dk} (hc : checkB d = true) (hd : d.down = false) (hf : d.fuse = 0) {n : Nat} {o : DOp} (ho : d.waits[n]? = some o) (hk : o.k = 1) {t : Int} (ht : 0 < t) : (d.on (d.waits.take n)).doOp (o.cut t) = (d.on (d.waits.take n ++ [o.cut t]), 0) := by
  have h := hc
  simp only [checkB, flatK, Bool.and_eq_true, decide_eq_true_eq] at h
  have hn := (List.getElem?_eq_some_iff.1 ho).1
  have hl := h.1.1.1.1.1.1.2
  have hm := check_may d hc o (List.mem_of_getElem? ho)
  have hkf := (may_kf o hm).2
  have hin := aftL_in _ _ (fits4_in d h.1.2) (all_take h.1.1.2 n) (steps_take _ _ n h.2)
  refine on_do (on_check hc n) hd hf ?_ (by simp; omega) ?_
  · rcases may_cases o hm with ⟨_, h⟩ | ⟨h, _⟩ | ⟨h, _⟩
    · simp only [mayD, mayOp, DOp.cut, hk, isFile]
      simp; omega
    · omega
    · omega
  · have := aft_cut_in _ o t hk hkf hin (aft_in _ o hin (steps_at _ _ _ o h.2 ho) hkf)
    exact (fits_iff _).2 (S4.get_in this _).2
/-- what a front has that a fall leaves -/
def frontL (k : Nat) (torn : Int) (l : List DOp) : List DOp := l.take k ++ if torn = 0 then [] else tornL k torn l
theorem done_none (d : Dk) (f : Int) (h : 0 ≤ f ∧ f < 4) : d.done ⟨1, f, []⟩ = d := by
  have h4 : f = 0 ∨ f = 1 ∨ f = 2 ∨ f = 3 := by omega
  cases d
  rcases h4 with rfl | rfl | rfl | rfl <;> simp [Dk.done, Dk.put]
theorem front_kept {d : Dk} (hc : checkB d = true) (keep torn : Int) (hk : 0 ≤ keep) : d.doAll (keptL keep torn 0 d.waits) = d.doAll (frontL keep.toNat torn d.waits) := by
  rw [keptL_nat keep torn hk, frontL]
  by_cases ht : torn = 0
  · rw [if_pos ht, List.append_nil, doAll_app]
    unfold tornL
    split
    · rename_i o ho
      split
      · rename_i hk1
        have hm := may_kf o (check_may d hc o (List.mem_of_getElem? ho))
        show Dk.done _ (o.cut torn) = _
        have : o.cut torn = ⟨1, o.f, []⟩ := by simp [DOp.cut, ht, hk1]
        rw [this, done_none _ _ hm.2]
      · rfl
    · rfl
  · rw [if_neg ht]
theorem front_check {d : Dk} (hc : checkB d = true) (hd : d.down = false) (hf : d.fuse = 0) (k : Nat) (torn : Int) (ht : 0 ≤ torn) : checkB (d.on (frontL k torn d.waits)) = true := by
  unfold frontL
  by_cases h0 : torn = 0
  · rw [if_pos h0, List.append_nil]; exact on_check hc k
  · rw [if_neg h0]
    unfold tornL
    split
    · rename_i o ho
      split
      · rename_i hk1
        have h1 := on_torn hc hd hf ho hk1 (t := torn) (by omega)
        obtain ⟨up, hs, _⟩ := do_ok (on_check hc k) h1 (.inr rfl)
        exact step_check _ _ _ _ (on_check hc k) hs
      · rw [List.append_nil]; exact on_check hc k
    · rw [List.append_nil]; exact on_check hc k
/-- how far the front is -/
def FrT (d : Dk) (k : Nat) (torn : Int) (i : Nat) (W : List DOp) : Prop := (i ≤ k → W = d.waits.take i) ∧ (k < i → W = frontL k torn d.waits)
theorem FrT.zero (d : Dk) (k : Nat) (torn : Int) : FrT d k torn 0 [] := ⟨fun _ => by simp, fun h => by omega⟩
theorem FrT.end' {d : Dk} {k : Nat} {torn : Int} {W : List DOp} (h : FrT d k torn d.waits.length W) : W = frontL k torn d.waits := by
  rcases Nat.lt_or_ge k d.waits.length with hk | hk
  · exact h.2 hk
  · rw [h.1 hk, frontL, List.take_of_length_le (Nat.le_refl _), List.take_of_length_le hk]
    have : tornL k torn d.waits = [] := by
      unfold tornL
      rw [List.getElem?_eq_none hk]
    rw [this]; simp
theorem FrT.stop {d : Dk} {k : Nat} {torn : Int} {W : List DOp} {o : DOp} (h : FrT d k torn k W) (ho : d.waits[k]? = some o) (hs : o.k ≠ 1 ∨ torn = 0) : W = frontL k torn d.waits := by
  rw [h.1 (Nat.le_refl _), frontL]
  rcases hs with hs | hs
  · have : tornL k torn d.waits = [] := by
      unfold tornL
      rw [ho]; simp [hs]
    rw [this]; simp
  · simp [hs]
theorem FrT.go {d : Dk} {k : Nat} {torn : Int} {i : Nat} (h : i < k) : FrT d k torn (i + 1) (d.waits.take (i + 1)) := ⟨fun _ => rfl, fun h => by omega⟩
theorem FrT.cut {d : Dk} {k : Nat} {torn : Int} {o : DOp} (ho : d.waits[k]? = some o) (hk : o.k = 1) (ht : torn ≠ 0) : FrT d k torn (k + 1) (d.waits.take k ++ [o.cut torn]) := ⟨fun h => by omega, fun _ => by
  have : tornL k torn d.waits = [o.cut torn] := by
    unfold tornL
    rw [ho]; simp [hk]
  rw [frontL, if_neg ht, this]⟩
end Go.Proofs.Ytjfaihpiohccbaa

namespace Go.Proofs.Ytjfaihpiohccbaa
open Go.RowKit
/-- pieces of a function's code -/
def bodyC (f : Func) : Code := f.body.getD .skip
def sndC : Nat → Code → Code
  | 0, c => c
  | n + 1, .seq _ y => sndC n y
  | _, c => c
def fstC : Code → Code
  | .seq x _ => x
  | c => c
section
variable {P : Program} {cx : Cx} {s : St} {Q : VE → St → Prop}
/-- the ways that leave a block are joined behind it -/
theorem vw_join {α : Type} (I : α → St) (T : α → Prop) {c y : Code} {id : Nat} (h : VW P cx c s (blockV id (cutV cx I T Q))) (k : ∀ z, T z → VW P cx y (I z) Q) : VW P cx c s (blockV id (thenV P cx y Q)) := by
  have key : ∀ e s', cutV cx I T Q e s' → thenV P cx y Q e s' := fun e s' hq => by
    cases e with
    | normal => obtain ⟨z, h1, h2⟩ := hq; exact vw_sub h2 (k z h1)
    | exit id => exact hq
    | goto id => exact hq
    | ret => exact hq
    | panic v => exact hq
  refine h.mono fun e s' hq => ?_
  cases e with
  | exit i =>
    simp only [blockV] at hq ⊢
    split at hq
    · exact key _ _ hq
    · exact key _ _ hq
  | normal => exact key .normal _ hq
  | goto id => exact key (.goto id) _ hq
  | ret => exact key .ret _ hq
  | panic v => exact key (.panic v) _ hq
theorem rv_sub {c : Code} {s' : St} : ∀ {m : Nat}, Sub cx s s' → RV P cx c Q m s' → RV P cx c Q m s
  | 0, _, h => h
  | _ + 1, hs, h => vw_sub hs h
/-- the ways through a round are joined behind it -/
theorem rv_cut {c : Code} {m : Nat} (I : St) (h : VW P cx c s (thenR (fun s' => Sub cx s' I) Q)) (k : RV P cx c Q m I) : RV P cx c Q (m + 1) s := VW.mono h fun e s' hq => by
  cases e with
  | normal => exact rv_sub hq k
  | exit i => exact hq
  | goto i => exact hq
  | ret => exact hq
  | panic v => exact hq
end
end Go.Proofs.Ytjfaihpiohccbaa

namespace Go.Proofs.Ytjfaihpiohccbaa
open Go.RowKit
set_option maxRecDepth 10000
set_option maxHeartbeats 4000000
abbrev frW (d : Dk) (W : List DOp) : List D := [.sl false true (byD d.f0), .sl false true (byD d.f1), .sl false true (byD d.f2), .sl false true (byD d.f3), .lit (.int .i64 d.head), .sl false true (W.map opN), .lit (.bool false), .lit (.int .i64 0)]
abbrev frLW (d s fl : Dk) (W : List DOp) : List E := [.c 1 0 ((frW d d.waits).map .d), .c 2 0 ((dkN s).map .d), .c 3 0 ((dkN fl).map .d), .c 4 0 ((frW d W).map .d)]
abbrev frT : List (Nat × V) := [(7, .ptr 1 0), (8, .ptr 2 0), (10, .ptr 3 0), (11, .ptr 4 0)]
theorem fronts_end (B : Nat) (d s fl A : Dk) (W : List DOp) (hd : d.down = false) (hf : d.fuse = 0) (h1 : ∀ f, 0 ≤ f → f < 4 → fl.readE f = (A.file f, 0)) (h2 : ∀ f, 0 ≤ f → f < 4 → (d.on W).readE f = (A.file f, 0)) (h3 : ∀ f, 0 ≤ f → f < 4 → s.readE f = (s.file f, 0)) (h4 : ∀ f, 0 ≤ f → f < 4 → d.readE f = (s.file f, 0)) (hh : fl.headI = (d.on W).headI)
    (b1 : ∀ o ∈ fl.waits, o.b.length ≤ 1000000000) (b2 : ∀ o ∈ W, o.b.length ≤ 1000000000) (b3 : ∀ o ∈ s.waits, o.b.length ≤ 1000000000) (b4 : ∀ o ∈ d.waits, o.b.length ≤ 1000000000) :
    VW Try.prog ⟨206, none, B, 0, some B, []⟩ (sndC 10 (bodyC Try.f5)) ⟨(9, .d (.lit (.int .i64 0))) :: frT, frLW d s fl W, 5⟩ (retQ Try.prog [.tmp 6] (· = .ret (.lit (.bool true)))) := by
  have u1 := head_v fl b1
  have u2 := head_v (d.on W) b2
  rw [hh] at u1
  have hsz : ∀ f, 0 ≤ f → f < 4 → d.sizeI f = (s.file f).length := fun f a b => by rw [Dk.sizeI, h4 f a b]
  have x0 := read_v fl 0 b1
  have x1 := read_v fl 1 b1
  have x2 := read_v fl 2 b1
  have x3 := read_v fl 3 b1
  rw [h1 _ (by omega) (by omega)] at x0 x1 x2 x3
  have y0 := read_v (d.on W) 0 b2
  have y1 := read_v (d.on W) 1 b2
  have y2 := read_v (d.on W) 2 b2
  have y3 := read_v (d.on W) 3 b2
  rw [h2 _ (by omega) (by omega)] at y0 y1 y2 y3
  have z0 := read_v s 0 b3
  have z1 := read_v s 1 b3
  have z2 := read_v s 2 b3
  have z3 := read_v s 3 b3
  rw [h3 _ (by omega) (by omega)] at z0 z1 z2 z3
  have w0 := read_v d 0 b4
  have w1 := read_v d 1 b4
  have w2 := read_v d 2 b4
  have w3 := read_v d 3 b4
  rw [h4 _ (by omega) (by omega)] at w0 w1 w2 w3
  have v0 := size_v d 0 b4
  have v1 := size_v d 1 b4
  have v2 := size_v d 2 b4
  have v3 := size_v d 3 b4
  rw [hsz _ (by omega) (by omega)] at v0 v1 v2 v3
  have p0 := beq_v A.f0 A.f0
  have p1 := beq_v A.f1 A.f1
  have p2 := beq_v A.f2 A.f2
  have p3 := beq_v A.f3 A.f3
  have q0 := beq_v s.f0 s.f0
  have q1 := beq_v s.f1 s.f1
  have q2 := beq_v s.f2 s.f2
  have q3 := beq_v s.f3 s.f3
  have l0 := byD_len s.f0
  have l1 := byD_len s.f1
  have l2 := byD_len s.f2
  have l3 := byD_len s.f3
  clear h1 h2 h3 h4 hh b1 b2 b3 b4 hsz
  generalize (d.on W).headI = hI at *
  simp only [dkD, Dk.file, Dk.on, hd, hf, if_true, Int.reduceEq, if_false, decide_true] at u1 u2 x0 x1 x2 x3 y0 y1 y2 y3 z0 z1 z2 z3 w0 w1 w2 w3 v0 v1 v2 v3 p0 p1 p2 p3 q0 q1 q2 q3
  refine vw_seq ?_
  repeat' (first | with_reducible refine vw_seq ?_ | ((with_reducible refine vl_id ?_); first | fail | refine vs_x ?_ | ((with_reducible refine vl_id ?_); refine vq_l (u1) ?_; first | refine vs_call (u1) ?_ | refine vs_pan (u1) ?_ | refine vs_lentp (u1) ?_) | ((with_reducible refine vd_id ?_); refine vq_d (u1) ?_; first | refine vd_ret (u1) ?_ | refine vd_ownp (u1) ?_ | refine vd_own (u1) ?_ | refine vd_lent (u1) ?_) | ((with_reducible refine vl_id ?_); refine vq_l (u2) ?_; first | refine vs_call (u2) ?_ | refine vs_pan (u2) ?_ | refine vs_lentp (u2) ?_) | ((with_reducible refine vd_id ?_); refine vq_d (u2) ?_; first | refine vd_ret (u2) ?_ | refine vd_ownp (u2) ?_ | refine vd_own (u2) ?_ | refine vd_lent (u2) ?_) | refine vs_p ?_ | refine vs_bs0 ?_ | refine vs_eqnil (fun _ _ => ?_) | refine vs_nenil (fun _ _ => ?_) | ((fail_if_success (refine vs_lit ?_)); first | (refine vs_case ?_ ?_ <;> intro _ <;> (try (exfalso; omega))) | (refine vs_caseb ?_ ?_ <;> intro _))) | ((with_reducible refine vd_id ?_); first | with_reducible refine vd_done ?_ | fail | refine vd_q ?_ | refine vd_rp ?_ | refine vd_rp ?_ (h := r_bs0) | refine vd_r ?_ (h := r_bs0) | refine vd_rs ?_ | refine vd_r ?_ | refine vd_appp ?_ | refine vd_appzp ?_ | refine vd_app ?_ | refine vd_appz ?_ | refine vd_store ?_ | refine vd_storez ?_ | refine vd_skip ?_ | ((with_reducible refine vl_id ?_); refine vq_l (u1) ?_; first | refine vs_call (u1) ?_ | refine vs_pan (u1) ?_ | refine vs_lentp (u1) ?_) | ((with_reducible refine vd_id ?_); refine vq_d (u1) ?_; first | refine vd_ret (u1) ?_ | refine vd_ownp (u1) ?_ | refine vd_own (u1) ?_ | refine vd_lent (u1) ?_) | ((with_reducible refine vl_id ?_); refine vq_l (u2) ?_; first | refine vs_call (u2) ?_ | refine vs_pan (u2) ?_ | refine vs_lentp (u2) ?_) | ((with_reducible refine vd_id ?_); refine vq_d (u2) ?_; first | refine vd_ret (u2) ?_ | refine vd_ownp (u2) ?_ | refine vd_own (u2) ?_ | refine vd_lent (u2) ?_) | ((fail_if_success (refine vd_lit ?_)); (refine vd_case ?_ ?_ <;> intro hg <;> (first | (exfalso; (try simp only [decide_eq_true_eq, decide_eq_false_iff_not] at hg); omega) | rw [hg])))) | ((with_reducible refine vw_drid ?_); first | fail | refine vw_drawx ?_) | ((with_reducible refine vw_cid ?_); first | refine vw_condt ?_ | refine vw_condf ?_ | (refine vw_cp ?_ ?_ <;> intro _ <;> (try (exfalso; omega))) | (refine vw_cb ?_ ?_ <;> intro _)) | ((with_reducible refine rt_id ?_); first | refine rt_o ?_ | refine rt_a ?_) | ((with_reducible refine rt_idp ?_); refine rt_pan rfl ?_) | ((with_reducible refine rc_id ?_); refine rc_ret ?_) | ((with_reducible refine nx_tryid ?_); refine nx_try ?_) | ((with_reducible refine nx_resid ?_); refine nx_res ?_) | with_reducible (refine NX.go ?_; constructor) | with_reducible refine nx_blkx rfl ?_ | with_reducible refine nx_blky rfl ?_ | ((with_reducible refine nx_mkid ?_); refine nx_mk ?_) | ((with_reducible refine nx_asgid ?_); refine nx_asg ?_) | ((with_reducible refine nx_rndid ?_); first | refine nx_rnd (by assumption) ?_ | refine nx_rnde ?_ | refine nx_rndr ?_) | ((with_reducible refine nx_rngid ?_); first | refine nx_rng (by assumption) ?_ | refine nx_rngj ?_ | refine nx_rngp ?_) | fail)
  refine vw_rounds 5 ?_
  refine rv_cut ⟨(144, .d (.lit (.int .i64 1))) :: frT, frLW d s fl W, 5⟩ ?_ (rv_cut ⟨(144, .d (.lit (.int .i64 2))) :: frT, frLW d s fl W, 5⟩ ?_ (rv_cut ⟨(144, .d (.lit (.int .i64 3))) :: frT, frLW d s fl W, 5⟩ ?_ (rv_cut ⟨(144, .d (.lit (.int .i64 4))) :: frT, frLW d s fl W, 5⟩ ?_ ?_)))
  · repeat' (first | with_reducible refine vw_seq ?_ | ((with_reducible refine vl_id ?_); first | fail | refine vs_x ?_ | ((with_reducible refine vl_id ?_); refine vq_l (x0) ?_; first | refine vs_call (x0) ?_ | refine vs_pan (x0) ?_ | refine vs_lentp (x0) ?_) | ((with_reducible refine vd_id ?_); refine vq_d (x0) ?_; first | refine vd_ret (x0) ?_ | refine vd_ownp (x0) ?_ | refine vd_own (x0) ?_ | refine vd_lent (x0) ?_) | ((with_reducible refine vl_id ?_); refine vq_l (y0) ?_; first | refine vs_call (y0) ?_ | refine vs_pan (y0) ?_ | refine vs_lentp (y0) ?_) | ((with_reducible refine vd_id ?_); refine vq_d (y0) ?_; first | refine vd_ret (y0) ?_ | refine vd_ownp (y0) ?_ | refine vd_own (y0) ?_ | refine vd_lent (y0) ?_) | ((with_reducible refine vl_id ?_); refine vq_l (z0) ?_; first | refine vs_call (z0) ?_ | refine vs_pan (z0) ?_ | refine vs_lentp (z0) ?_) | ((with_reducible refine vd_id ?_); refine vq_d (z0) ?_; first | refine vd_ret (z0) ?_ | refine vd_ownp (z0) ?_ | refine vd_own (z0) ?_ | refine vd_lent (z0) ?_) | ((with_reducible refine vl_id ?_); refine vq_l (w0) ?_; first | refine vs_call (w0) ?_ | refine vs_pan (w0) ?_ | refine vs_lentp (w0) ?_) | ((with_reducible refine vd_id ?_); refine vq_d (w0) ?_; first | refine vd_ret (w0) ?_ | refine vd_ownp (w0) ?_ | refine vd_own (w0) ?_ | refine vd_lent (w0) ?_) | ((with_reducible refine vl_id ?_); refine vq_l (p0) ?_; first | refine vs_call (p0) ?_ | refine vs_pan (p0) ?_ | refine vs_lentp (p0) ?_) | ((with_reducible refine vd_id ?_); refine vq_d (p0) ?_; first | refine vd_ret (p0) ?_ | refine vd_ownp (p0) ?_ | refine vd_own (p0) ?_ | refine vd_lent (p0) ?_) | ((with_reducible refine vl_id ?_); refine vq_l (q0) ?_; first | refine vs_call (q0) ?_ | refine vs_pan (q0) ?_ | refine vs_lentp (q0) ?_) | ((with_reducible refine vd_id ?_); refine vq_d (q0) ?_; first | refine vd_ret (q0) ?_ | refine vd_ownp (q0) ?_ | refine vd_own (q0) ?_ | refine vd_lent (q0) ?_) | ((with_reducible refine vl_id ?_); refine vq_l (v0) ?_; first | refine vs_call (v0) ?_ | refine vs_pan (v0) ?_ | refine vs_lentp (v0) ?_) | ((with_reducible refine vd_id ?_); refine vq_d (v0) ?_; first | refine vd_ret (v0) ?_ | refine vd_ownp (v0) ?_ | refine vd_own (v0) ?_ | refine vd_lent (v0) ?_) | refine vs_p ?_ | refine vs_bs0 ?_ | refine vs_eqnil (fun _ _ => ?_) | refine vs_nenil (fun _ _ => ?_) | ((fail_if_success (refine vs_lit ?_)); first | (refine vs_case ?_ ?_ <;> intro _ <;> (try (exfalso; omega))) | (refine vs_caseb ?_ ?_ <;> intro _))) | ((with_reducible refine vd_id ?_); first | with_reducible refine vd_done ?_ | fail | refine vd_q ?_ | refine vd_rp ?_ | refine vd_rp ?_ (h := r_bs0) | refine vd_r ?_ (h := r_bs0) | refine vd_rs ?_ | refine vd_r ?_ | refine vd_appp ?_ | refine vd_appzp ?_ | refine vd_app ?_ | refine vd_appz ?_ | refine vd_store ?_ | refine vd_storez ?_ | refine vd_skip ?_ | ((with_reducible refine vl_id ?_); refine vq_l (x0) ?_; first | refine vs_call (x0) ?_ | refine vs_pan (x0) ?_ | refine vs_lentp (x0) ?_) | ((with_reducible refine vd_id ?_); refine vq_d (x0) ?_; first | refine vd_ret (x0) ?_ | refine vd_ownp (x0) ?_ | refine vd_own (x0) ?_ | refine vd_lent (x0) ?_) | ((with_reducible refine vl_id ?_); refine vq_l (y0) ?_; first | refine vs_call (y0) ?_ | refine vs_pan (y0) ?_ | refine vs_lentp (y0) ?_) | ((with_reducible refine vd_id ?_); refine vq_d (y0) ?_; first | refine vd_ret (y0) ?_ | refine vd_ownp (y0) ?_ | refine vd_own (y0) ?_ | refine vd_lent (y0) ?_) | ((with_reducible refine vl_id ?_); refine vq_l (z0) ?_; first | refine vs_call (z0) ?_ | refine vs_pan (z0) ?_ | refine vs_lentp (z0) ?_) | ((with_reducible refine vd_id ?_); refine vq_d (z0) ?_; first | refine vd_ret (z0) ?_ | refine vd_ownp (z0) ?_ | refine vd_own (z0) ?_ | refine vd_lent (z0) ?_) | ((with_reducible refine vl_id ?_); refine vq_l (w0) ?_; first | refine vs_call (w0) ?_ | refine vs_pan (w0) ?_ | refine vs_lentp (w0) ?_) | ((with_reducible refine vd_id ?_); refine vq_d (w0) ?_; first | refine vd_ret (w0) ?_ | refine vd_ownp (w0) ?_ | refine vd_own (w0) ?_ | refine vd_lent (w0) ?_) | ((with_reducible refine vl_id ?_); refine vq_l (p0) ?_; first | refine vs_call (p0) ?_ | refine vs_pan (p0) ?_ | refine vs_lentp (p0) ?_) | ((with_reducible refine vd_id ?_); refine vq_d (p0) ?_; first | refine vd_ret (p0) ?_ | refine vd_ownp (p0) ?_ | refine vd_own (p0) ?_ | refine vd_lent (p0) ?_) | ((with_reducible refine vl_id ?_); refine vq_l (q0) ?_; first | refine vs_call (q0) ?_ | refine vs_pan (q0) ?_ | refine vs_lentp (q0) ?_) | ((with_reducible refine vd_id ?_); refine vq_d (q0) ?_; first | refine vd_ret (q0) ?_ | refine vd_ownp (q0) ?_ | refine vd_own (q0) ?_ | refine vd_lent (q0) ?_) | ((with_reducible refine vl_id ?_); refine vq_l (v0) ?_; first | refine vs_call (v0) ?_ | refine vs_pan (v0) ?_ | refine vs_lentp (v0) ?_) | ((with_reducible refine vd_id ?_); refine vq_d (v0) ?_; first | refine vd_ret (v0) ?_ | refine vd_ownp (v0) ?_ | refine vd_own (v0) ?_ | refine vd_lent (v0) ?_) | ((fail_if_success (refine vd_lit ?_)); (refine vd_case ?_ ?_ <;> intro hg <;> (first | (exfalso; (try simp only [decide_eq_true_eq, decide_eq_false_iff_not] at hg); omega) | rw [hg])))) | ((with_reducible refine vw_drid ?_); first | fail | refine vw_drawx ?_) | ((with_reducible refine vw_cid ?_); first | refine vw_condt ?_ | refine vw_condf ?_ | (refine vw_cp ?_ ?_ <;> intro _ <;> (try (exfalso; omega))) | (refine vw_cb ?_ ?_ <;> intro _)) | ((with_reducible refine rt_id ?_); first | refine rt_o ?_ | refine rt_a ?_) | ((with_reducible refine rt_idp ?_); refine rt_pan rfl ?_) | ((with_reducible refine rc_id ?_); refine rc_ret ?_) | ((with_reducible refine nx_tryid ?_); refine nx_try ?_) | ((with_reducible refine nx_resid ?_); refine nx_res ?_) | with_reducible (refine NX.go ?_; constructor) | with_reducible refine nx_blkx rfl ?_ | with_reducible refine nx_blky rfl ?_ | ((with_reducible refine nx_mkid ?_); refine nx_mk ?_) | ((with_reducible refine nx_asgid ?_); refine nx_asg ?_) | ((with_reducible refine nx_rndid ?_); first | refine nx_rnd (by assumption) ?_ | refine nx_rnde ?_ | refine nx_rndr ?_) | ((with_reducible refine nx_rngid ?_); first | refine nx_rng (by assumption) ?_ | refine nx_rngj ?_ | refine nx_rngp ?_) | fail)
    exact (sub_ren [] (by repeat' (first | exact trivial | exact rle_nil | refine rle_cons ?_ ?_ | exact rle_any | exact rle_dd | exact rle_ptr rfl | exact rle_row rfl rfl | exact rle_rowk rfl rfl | refine rle_agg ?_ | refine rle_tup ?_ | refine rle_ifc ?_ | refine rle_fn ?_ ?_ | exact rle_ep | exact rle_sv rfl | exact rle_yl rfl | refine ⟨⟨rfl, _, rfl, ?_⟩, ?_⟩ | exact rle_d rfl (by infer_instance) | refine ⟨⟨_, rfl, ?_⟩, ?_⟩ | refine ⟨⟨rfl, .inl ⟨rfl, _, _, rfl, rfl⟩⟩, ?_⟩ | refine ⟨⟨rfl, .inr ⟨rfl, rfl, rfl⟩⟩, ?_⟩ | refine ⟨⟨rfl, _, rfl, ?_⟩, ?_⟩ | refine ⟨?_, ?_⟩)) (by repeat' (first | exact trivial | exact rle_nil | refine rle_cons ?_ ?_ | exact rle_any | exact rle_dd | exact rle_ptr rfl | exact rle_row rfl rfl | exact rle_rowk rfl rfl | refine rle_agg ?_ | refine rle_tup ?_ | refine rle_ifc ?_ | refine rle_fn ?_ ?_ | exact rle_ep | exact rle_sv rfl | exact rle_yl rfl | refine ⟨⟨rfl, _, rfl, ?_⟩, ?_⟩ | exact rle_d rfl (by infer_instance) | refine ⟨⟨_, rfl, ?_⟩, ?_⟩ | refine ⟨⟨rfl, .inl ⟨rfl, _, _, rfl, rfl⟩⟩, ?_⟩ | refine ⟨⟨rfl, .inr ⟨rfl, rfl, rfl⟩⟩, ?_⟩ | refine ⟨⟨rfl, _, rfl, ?_⟩, ?_⟩ | refine ⟨?_, ?_⟩)) (by repeat' (first | exact trivial | exact rle_nil | refine rle_cons ?_ ?_ | exact rle_any | exact rle_dd | exact rle_ptr rfl | exact rle_row rfl rfl | exact rle_rowk rfl rfl | refine rle_agg ?_ | refine rle_tup ?_ | refine rle_ifc ?_ | refine rle_fn ?_ ?_ | exact rle_ep | exact rle_sv rfl | exact rle_yl rfl | refine ⟨⟨rfl, _, rfl, ?_⟩, ?_⟩ | exact rle_d rfl (by infer_instance) | refine ⟨⟨_, rfl, ?_⟩, ?_⟩ | refine ⟨⟨rfl, .inl ⟨rfl, _, _, rfl, rfl⟩⟩, ?_⟩ | refine ⟨⟨rfl, .inr ⟨rfl, rfl, rfl⟩⟩, ?_⟩ | refine ⟨⟨rfl, _, rfl, ?_⟩, ?_⟩ | refine ⟨?_, ?_⟩)) rfl rfl)
  · repeat' (first | with_reducible refine vw_seq ?_ | ((with_reducible refine vl_id ?_); first | fail | refine vs_x ?_ | ((with_reducible refine vl_id ?_); refine vq_l (x1) ?_; first | refine vs_call (x1) ?_ | refine vs_pan (x1) ?_ | refine vs_lentp (x1) ?_) | ((with_reducible refine vd_id ?_); refine vq_d (x1) ?_; first | refine vd_ret (x1) ?_ | refine vd_ownp (x1) ?_ | refine vd_own (x1) ?_ | refine vd_lent (x1) ?_) | ((with_reducible refine vl_id ?_); refine vq_l (y1) ?_; first | refine vs_call (y1) ?_ | refine vs_pan (y1) ?_ | refine vs_lentp (y1) ?_) | ((with_reducible refine vd_id ?_); refine vq_d (y1) ?_; first | refine vd_ret (y1) ?_ | refine vd_ownp (y1) ?_ | refine vd_own (y1) ?_ | refine vd_lent (y1) ?_) | ((with_reducible refine vl_id ?_); refine vq_l (z1) ?_; first | refine vs_call (z1) ?_ | refine vs_pan (z1) ?_ | refine vs_lentp (z1) ?_) | ((with_reducible refine vd_id ?_); refine vq_d (z1) ?_; first | refine vd_ret (z1) ?_ | refine vd_ownp (z1) ?_ | refine vd_own (z1) ?_ | refine vd_lent (z1) ?_) | ((with_reducible refine vl_id ?_); refine vq_l (w1) ?_; first | refine vs_call (w1) ?_ | refine vs_pan (w1) ?_ | refine vs_lentp (w1) ?_) | ((with_reducible refine vd_id ?_); refine vq_d (w1) ?_; first | refine vd_ret (w1) ?_ | refine vd_ownp (w1) ?_ | refine vd_own (w1) ?_ | refine vd_lent (w1) ?_) | ((with_reducible refine vl_id ?_); refine vq_l (p1) ?_; first | refine vs_call (p1) ?_ | refine vs_pan (p1) ?_ | refine vs_lentp (p1) ?_) | ((with_reducible refine vd_id ?_); refine vq_d (p1) ?_; first | refine vd_ret (p1) ?_ | refine vd_ownp (p1) ?_ | refine vd_own (p1) ?_ | refine vd_lent (p1) ?_) | ((with_reducible refine vl_id ?_); refine vq_l (q1) ?_; first | refine vs_call (q1) ?_ | refine vs_pan (q1) ?_ | refine vs_lentp (q1) ?_) | ((with_reducible refine vd_id ?_); refine vq_d (q1) ?_; first | refine vd_ret (q1) ?_ | refine vd_ownp (q1) ?_ | refine vd_own (q1) ?_ | refine vd_lent (q1) ?_) | ((with_reducible refine vl_id ?_); refine vq_l (v1) ?_; first | refine vs_call (v1) ?_ | refine vs_pan (v1) ?_ | refine vs_lentp (v1) ?_) | ((with_reducible refine vd_id ?_); refine vq_d (v1) ?_; first | refine vd_ret (v1) ?_ | refine vd_ownp (v1) ?_ | refine vd_own (v1) ?_ | refine vd_lent (v1) ?_) | refine vs_p ?_ | refine vs_bs0 ?_ | refine vs_eqnil (fun _ _ => ?_) | refine vs_nenil (fun _ _ => ?_) | ((fail_if_success (refine vs_lit ?_)); first | (refine vs_case ?_ ?_ <;> intro _ <;> (try (exfalso; omega))) | (refine vs_caseb ?_ ?_ <;> intro _))) | ((with_reducible refine vd_id ?_); first | with_reducible refine vd_done ?_ | fail | refine vd_q ?_ | refine vd_rp ?_ | refine vd_rp ?_ (h := r_bs0) | refine vd_r ?_ (h := r_bs0) | refine vd_rs ?_ | refine vd_r ?_ | refine vd_appp ?_ | refine vd_appzp ?_ | refine vd_app ?_ | refine vd_appz ?_ | refine vd_store ?_ | refine vd_storez ?_ | refine vd_skip ?_ | ((with_reducible refine vl_id ?_); refine vq_l (x1) ?_; first | refine vs_call (x1) ?_ | refine vs_pan (x1) ?_ | refine vs_lentp (x1) ?_) | ((with_reducible refine vd_id ?_); refine vq_d (x1) ?_; first | refine vd_ret (x1) ?_ | refine vd_ownp (x1) ?_ | refine vd_own (x1) ?_ | refine vd_lent (x1) ?_) | ((with_reducible refine vl_id ?_); refine vq_l (y1) ?_; first | refine vs_call (y1) ?_ | refine vs_pan (y1) ?_ | refine vs_lentp (y1) ?_) | ((with_reducible refine vd_id ?_); refine vq_d (y1) ?_; first | refine vd_ret (y1) ?_ | refine vd_ownp (y1) ?_ | refine vd_own (y1) ?_ | refine vd_lent (y1) ?_) | ((with_reducible refine vl_id ?_); refine vq_l (z1) ?_; first | refine vs_call (z1) ?_ | refine vs_pan (z1) ?_ | refine vs_lentp (z1) ?_) | ((with_reducible refine vd_id ?_); refine vq_d (z1) ?_; first | refine vd_ret (z1) ?_ | refine vd_ownp (z1) ?_ | refine vd_own (z1) ?_ | refine vd_lent (z1) ?_) | ((with_reducible refine vl_id ?_); refine vq_l (w1) ?_; first | refine vs_call (w1) ?_ | refine vs_pan (w1) ?_ | refine vs_lentp (w1) ?_) | ((with_reducible refine vd_id ?_); refine vq_d (w1) ?_; first | refine vd_ret (w1) ?_ | refine vd_ownp (w1) ?_ | refine vd_own (w1) ?_ | refine vd_lent (w1) ?_) | ((with_reducible refine vl_id ?_); refine vq_l (p1) ?_; first | refine vs_call (p1) ?_ | refine vs_pan (p1) ?_ | refine vs_lentp (p1) ?_) | ((with_reducible refine vd_id ?_); refine vq_d (p1) ?_; first | refine vd_ret (p1) ?_ | refine vd_ownp (p1) ?_ | refine vd_own (p1) ?_ | refine vd_lent (p1) ?_) | ((with_reducible refine vl_id ?_); refine vq_l (q1) ?_; first | refine vs_call (q1) ?_ | refine vs_pan (q1) ?_ | refine vs_lentp (q1) ?_) | ((with_reducible refine vd_id ?_); refine vq_d (q1) ?_; first | refine vd_ret (q1) ?_ | refine vd_ownp (q1) ?_ | refine vd_own (q1) ?_ | refine vd_lent (q1) ?_) | ((with_reducible refine vl_id ?_); refine vq_l (v1) ?_; first | refine vs_call (v1) ?_ | refine vs_pan (v1) ?_ | refine vs_lentp (v1) ?_) | ((with_reducible refine vd_id ?_); refine vq_d (v1) ?_; first | refine vd_ret (v1) ?_ | refine vd_ownp (v1) ?_ | refine vd_own (v1) ?_ | refine vd_lent (v1) ?_) | ((fail_if_success (refine vd_lit ?_)); (refine vd_case ?_ ?_ <;> intro hg <;> (first | (exfalso; (try simp only [decide_eq_true_eq, decide_eq_false_iff_not] at hg); omega) | rw [hg])))) | ((with_reducible refine vw_drid ?_); first | fail | refine vw_drawx ?_) | ((with_reducible refine vw_cid ?_); first | refine vw_condt ?_ | refine vw_condf ?_ | (refine vw_cp ?_ ?_ <;> intro _ <;> (try (exfalso; omega))) | (refine vw_cb ?_ ?_ <;> intro _)) | ((with_reducible refine rt_id ?_); first | refine rt_o ?_ | refine rt_a ?_) | ((with_reducible refine rt_idp ?_); refine rt_pan rfl ?_) | ((with_reducible refine rc_id ?_); refine rc_ret ?_) | ((with_reducible refine nx_tryid ?_); refine nx_try ?_) | ((with_reducible refine nx_resid ?_); refine nx_res ?_) | with_reducible (refine NX.go ?_; constructor) | with_reducible refine nx_blkx rfl ?_ | with_reducible refine nx_blky rfl ?_ | ((with_reducible refine nx_mkid ?_); refine nx_mk ?_) | ((with_reducible refine nx_asgid ?_); refine nx_asg ?_) | ((with_reducible refine nx_rndid ?_); first | refine nx_rnd (by assumption) ?_ | refine nx_rnde ?_ | refine nx_rndr ?_) | ((with_reducible refine nx_rngid ?_); first | refine nx_rng (by assumption) ?_ | refine nx_rngj ?_ | refine nx_rngp ?_) | fail)
    exact (sub_ren [] (by repeat' (first | exact trivial | exact rle_nil | refine rle_cons ?_ ?_ | exact rle_any | exact rle_dd | exact rle_ptr rfl | exact rle_row rfl rfl | exact rle_rowk rfl rfl | refine rle_agg ?_ | refine rle_tup ?_ | refine rle_ifc ?_ | refine rle_fn ?_ ?_ | exact rle_ep | exact rle_sv rfl | exact rle_yl rfl | refine ⟨⟨rfl, _, rfl, ?_⟩, ?_⟩ | exact rle_d rfl (by infer_instance) | refine ⟨⟨_, rfl, ?_⟩, ?_⟩ | refine ⟨⟨rfl, .inl ⟨rfl, _, _, rfl, rfl⟩⟩, ?_⟩ | refine ⟨⟨rfl, .inr ⟨rfl, rfl, rfl⟩⟩, ?_⟩ | refine ⟨⟨rfl, _, rfl, ?_⟩, ?_⟩ | refine ⟨?_, ?_⟩)) (by repeat' (first | exact trivial | exact rle_nil | refine rle_cons ?_ ?_ | exact rle_any | exact rle_dd | exact rle_ptr rfl | exact rle_row rfl rfl | exact rle_rowk rfl rfl | refine rle_agg ?_ | refine rle_tup ?_ | refine rle_ifc ?_ | refine rle_fn ?_ ?_ | exact rle_ep | exact rle_sv rfl | exact rle_yl rfl | refine ⟨⟨rfl, _, rfl, ?_⟩, ?_⟩ | exact rle_d rfl (by infer_instance) | refine ⟨⟨_, rfl, ?_⟩, ?_⟩ | refine ⟨⟨rfl, .inl ⟨rfl, _, _, rfl, rfl⟩⟩, ?_⟩ | refine ⟨⟨rfl, .inr ⟨rfl, rfl, rfl⟩⟩, ?_⟩ | refine ⟨⟨rfl, _, rfl, ?_⟩, ?_⟩ | refine ⟨?_, ?_⟩)) (by repeat' (first | exact trivial | exact rle_nil | refine rle_cons ?_ ?_ | exact rle_any | exact rle_dd | exact rle_ptr rfl | exact rle_row rfl rfl | exact rle_rowk rfl rfl | refine rle_agg ?_ | refine rle_tup ?_ | refine rle_ifc ?_ | refine rle_fn ?_ ?_ | exact rle_ep | exact rle_sv rfl | exact rle_yl rfl | refine ⟨⟨rfl, _, rfl, ?_⟩, ?_⟩ | exact rle_d rfl (by infer_instance) | refine ⟨⟨_, rfl, ?_⟩, ?_⟩ | refine ⟨⟨rfl, .inl ⟨rfl, _, _, rfl, rfl⟩⟩, ?_⟩ | refine ⟨⟨rfl, .inr ⟨rfl, rfl, rfl⟩⟩, ?_⟩ | refine ⟨⟨rfl, _, rfl, ?_⟩, ?_⟩ | refine ⟨?_, ?_⟩)) rfl rfl)
  · repeat' (first | with_reducible refine vw_seq ?_ | ((with_reducible refine vl_id ?_); first | fail | refine vs_x ?_ | ((with_reducible refine vl_id ?_); refine vq_l (x2) ?_; first | refine vs_call (x2) ?_ | refine vs_pan (x2) ?_ | refine vs_lentp (x2) ?_) | ((with_reducible refine vd_id ?_); refine vq_d (x2) ?_; first | refine vd_ret (x2) ?_ | refine vd_ownp (x2) ?_ | refine vd_own (x2) ?_ | refine vd_lent (x2) ?_) | ((with_reducible refine vl_id ?_); refine vq_l (y2) ?_; first | refine vs_call (y2) ?_ | refine vs_pan (y2) ?_ | refine vs_lentp (y2) ?_) | ((with_reducible refine vd_id ?_); refine vq_d (y2) ?_; first | refine vd_ret (y2) ?_ | refine vd_ownp (y2) ?_ | refine vd_own (y2) ?_ | refine vd_lent (y2) ?_) | ((with_reducible refine vl_id ?_); refine vq_l (z2) ?_; first | refine vs_call (z2) ?_ | refine vs_pan (z2) ?_ | refine vs_lentp (z2) ?_) | ((with_reducible refine vd_id ?_); refine vq_d (z2) ?_; first | refine vd_ret (z2) ?_ | refine vd_ownp (z2) ?_ | refine vd_own (z2) ?_ | refine vd_lent (z2) ?_) | ((with_reducible refine vl_id ?_); refine vq_l (w2) ?_; first | refine vs_call (w2) ?_ | refine vs_pan (w2) ?_ | refine vs_lentp (w2) ?_) | ((with_reducible refine vd_id ?_); refine vq_d (w2) ?_; first | refine vd_ret (w2) ?_ | refine vd_ownp (w2) ?_ | refine vd_own (w2) ?_ | refine vd_lent (w2) ?_) | ((with_reducible refine vl_id ?_); refine vq_l (p2) ?_; first | refine vs_call (p2) ?_ | refine vs_pan (p2) ?_ | refine vs_lentp (p2) ?_) | ((with_reducible refine vd_id ?_); refine vq_d (p2) ?_; first | refine vd_ret (p2) ?_ | refine vd_ownp (p2) ?_ | refine vd_own (p2) ?_ | refine vd_lent (p2) ?_) | ((with_reducible refine vl_id ?_); refine vq_l (q2) ?_; first | refine vs_call (q2) ?_ | refine vs_pan (q2) ?_ | refine vs_lentp (q2) ?_) | ((with_reducible refine vd_id ?_); refine vq_d (q2) ?_; first | refine vd_ret (q2) ?_ | refine vd_ownp (q2) ?_ | refine vd_own (q2) ?_ | refine vd_lent (q2) ?_) | ((with_reducible refine vl_id ?_); refine vq_l (v2) ?_; first | refine vs_call (v2) ?_ | refine vs_pan (v2) ?_ | refine vs_lentp (v2) ?_) | ((with_reducible refine vd_id ?_); refine vq_d (v2) ?_; first | refine vd_ret (v2) ?_ | refine vd_ownp (v2) ?_ | refine vd_own (v2) ?_ | refine vd_lent (v2) ?_) | refine vs_p ?_ | refine vs_bs0 ?_ | refine vs_eqnil (fun _ _ => ?_) | refine vs_nenil (fun _ _ => ?_) | ((fail_if_success (refine vs_lit ?_)); first | (refine vs_case ?_ ?_ <;> intro _ <;> (try (exfalso; omega))) | (refine vs_caseb ?_ ?_ <;> intro _))) | ((with_reducible refine vd_id ?_); first | with_reducible refine vd_done ?_ | fail | refine vd_q ?_ | refine vd_rp ?_ | refine vd_rp ?_ (h := r_bs0) | refine vd_r ?_ (h := r_bs0) | refine vd_rs ?_ | refine vd_r ?_ | refine vd_appp ?_ | refine vd_appzp ?_ | refine vd_app ?_ | refine vd_appz ?_ | refine vd_store ?_ | refine vd_storez ?_ | refine vd_skip ?_ | ((with_reducible refine vl_id ?_); refine vq_l (x2) ?_; first | refine vs_call (x2) ?_ | refine vs_pan (x2) ?_ | refine vs_lentp (x2) ?_) | ((with_reducible refine vd_id ?_); refine vq_d (x2) ?_; first | refine vd_ret (x2) ?_ | refine vd_ownp (x2) ?_ | refine vd_own (x2) ?_ | refine vd_lent (x2) ?_) | ((with_reducible refine vl_id ?_); refine vq_l (y2) ?_; first | refine vs_call (y2) ?_ | refine vs_pan (y2) ?_ | refine vs_lentp (y2) ?_) | ((with_reducible refine vd_id ?_); refine vq_d (y2) ?_; first | refine vd_ret (y2) ?_ | refine vd_ownp (y2) ?_ | refine vd_own (y2) ?_ | refine vd_lent (y2) ?_) | ((with_reducible refine vl_id ?_); refine vq_l (z2) ?_; first | refine vs_call (z2) ?_ | refine vs_pan (z2) ?_ | refine vs_lentp (z2) ?_) | ((with_reducible refine vd_id ?_); refine vq_d (z2) ?_; first | refine vd_ret (z2) ?_ | refine vd_ownp (z2) ?_ | refine vd_own (z2) ?_ | refine vd_lent (z2) ?_) | ((with_reducible refine vl_id ?_); refine vq_l (w2) ?_; first | refine vs_call (w2) ?_ | refine vs_pan (w2) ?_ | refine vs_lentp (w2) ?_) | ((with_reducible refine vd_id ?_); refine vq_d (w2) ?_; first | refine vd_ret (w2) ?_ | refine vd_ownp (w2) ?_ | refine vd_own (w2) ?_ | refine vd_lent (w2) ?_) | ((with_reducible refine vl_id ?_); refine vq_l (p2) ?_; first | refine vs_call (p2) ?_ | refine vs_pan (p2) ?_ | refine vs_lentp (p2) ?_) | ((with_reducible refine vd_id ?_); refine vq_d (p2) ?_; first | refine vd_ret (p2) ?_ | refine vd_ownp (p2) ?_ | refine vd_own (p2) ?_ | refine vd_lent (p2) ?_) | ((with_reducible refine vl_id ?_); refine vq_l (q2) ?_; first | refine vs_call (q2) ?_ | refine vs_pan (q2) ?_ | refine vs_lentp (q2) ?_) | ((with_reducible refine vd_id ?_); refine vq_d (q2) ?_; first | refine vd_ret (q2) ?_ | refine vd_ownp (q2) ?_ | refine vd_own (q2) ?_ | refine vd_lent (q2) ?_) | ((with_reducible refine vl_id ?_); refine vq_l (v2) ?_; first | refine vs_call (v2) ?_ | refine vs_pan (v2) ?_ | refine vs_lentp (v2) ?_) | ((with_reducible refine vd_id ?_); refine vq_d (v2) ?_; first | refine vd_ret (v2) ?_ | refine vd_ownp (v2) ?_ | refine vd_own (v2) ?_ | refine vd_lent (v2) ?_) | ((fail_if_success (refine vd_lit ?_)); (refine vd_case ?_ ?_ <;> intro hg <;> (first | (exfalso; (try simp only [decide_eq_true_eq, decide_eq_false_iff_not] at hg); omega) | rw [hg])))) | ((with_reducible refine vw_drid ?_); first | fail | refine vw_drawx ?_) | ((with_reducible refine vw_cid ?_); first | refine vw_condt ?_ | refine vw_condf ?_ | (refine vw_cp ?_ ?_ <;> intro _ <;> (try (exfalso; omega))) | (refine vw_cb ?_ ?_ <;> intro _)) | ((with_reducible refine rt_id ?_); first | refine rt_o ?_ | refine rt_a ?_) | ((with_reducible refine rt_idp ?_); refine rt_pan rfl ?_) | ((with_reducible refine rc_id ?_); refine rc_ret ?_) | ((with_reducible refine nx_tryid ?_); refine nx_try ?_) | ((with_reducible refine nx_resid ?_); refine nx_res ?_) | with_reducible (refine NX.go ?_; constructor) | with_reducible refine nx_blkx rfl ?_ | with_reducible refine nx_blky rfl ?_ | ((with_reducible refine nx_mkid ?_); refine nx_mk ?_) | ((with_reducible refine nx_asgid ?_); refine nx_asg ?_) | ((with_reducible refine nx_rndid ?_); first | refine nx_rnd (by assumption) ?_ | refine nx_rnde ?_ | refine nx_rndr ?_) | ((with_reducible refine nx_rngid ?_); first | refine nx_rng (by assumption) ?_ | refine nx_rngj ?_ | refine nx_rngp ?_) | fail)
    exact (sub_ren [] (by repeat' (first | exact trivial | exact rle_nil | refine rle_cons ?_ ?_ | exact rle_any | exact rle_dd | exact rle_ptr rfl | exact rle_row rfl rfl | exact rle_rowk rfl rfl | refine rle_agg ?_ | refine rle_tup ?_ | refine rle_ifc ?_ | refine rle_fn ?_ ?_ | exact rle_ep | exact rle_sv rfl | exact rle_yl rfl | refine ⟨⟨rfl, _, rfl, ?_⟩, ?_⟩ | exact rle_d rfl (by infer_instance) | refine ⟨⟨_, rfl, ?_⟩, ?_⟩ | refine ⟨⟨rfl, .inl ⟨rfl, _, _, rfl, rfl⟩⟩, ?_⟩ | refine ⟨⟨rfl, .inr ⟨rfl, rfl, rfl⟩⟩, ?_⟩ | refine ⟨⟨rfl, _, rfl, ?_⟩, ?_⟩ | refine ⟨?_, ?_⟩)) (by repeat' (first | exact trivial | exact rle_nil | refine rle_cons ?_ ?_ | exact rle_any | exact rle_dd | exact rle_ptr rfl | exact rle_row rfl rfl | exact rle_rowk rfl rfl | refine rle_agg ?_ | refine rle_tup ?_ | refine rle_ifc ?_ | refine rle_fn ?_ ?_ | exact rle_ep | exact rle_sv rfl | exact rle_yl rfl | refine ⟨⟨rfl, _, rfl, ?_⟩, ?_⟩ | exact rle_d rfl (by infer_instance) | refine ⟨⟨_, rfl, ?_⟩, ?_⟩ | refine ⟨⟨rfl, .inl ⟨rfl, _, _, rfl, rfl⟩⟩, ?_⟩ | refine ⟨⟨rfl, .inr ⟨rfl, rfl, rfl⟩⟩, ?_⟩ | refine ⟨⟨rfl, _, rfl, ?_⟩, ?_⟩ | refine ⟨?_, ?_⟩)) (by repeat' (first | exact trivial | exact rle_nil | refine rle_cons ?_ ?_ | exact rle_any | exact rle_dd | exact rle_ptr rfl | exact rle_row rfl rfl | exact rle_rowk rfl rfl | refine rle_agg ?_ | refine rle_tup ?_ | refine rle_ifc ?_ | refine rle_fn ?_ ?_ | exact rle_ep | exact rle_sv rfl | exact rle_yl rfl | refine ⟨⟨rfl, _, rfl, ?_⟩, ?_⟩ | exact rle_d rfl (by infer_instance) | refine ⟨⟨_, rfl, ?_⟩, ?_⟩ | refine ⟨⟨rfl, .inl ⟨rfl, _, _, rfl, rfl⟩⟩, ?_⟩ | refine ⟨⟨rfl, .inr ⟨rfl, rfl, rfl⟩⟩, ?_⟩ | refine ⟨⟨rfl, _, rfl, ?_⟩, ?_⟩ | refine ⟨?_, ?_⟩)) rfl rfl)
  · repeat' (first | with_reducible refine vw_seq ?_ | ((with_reducible refine vl_id ?_); first | fail | refine vs_x ?_ | ((with_reducible refine vl_id ?_); refine vq_l (x3) ?_; first | refine vs_call (x3) ?_ | refine vs_pan (x3) ?_ | refine vs_lentp (x3) ?_) | ((with_reducible refine vd_id ?_); refine vq_d (x3) ?_; first | refine vd_ret (x3) ?_ | refine vd_ownp (x3) ?_ | refine vd_own (x3) ?_ | refine vd_lent (x3) ?_) | ((with_reducible refine vl_id ?_); refine vq_l (y3) ?_; first | refine vs_call (y3) ?_ | refine vs_pan (y3) ?_ | refine vs_lentp (y3) ?_) | ((with_reducible refine vd_id ?_); refine vq_d (y3) ?_; first | refine vd_ret (y3) ?_ | refine vd_ownp (y3) ?_ | refine vd_own (y3) ?_ | refine vd_lent (y3) ?_) | ((with_reducible refine vl_id ?_); refine vq_l (z3) ?_; first | refine vs_call (z3) ?_ | refine vs_pan (z3) ?_ | refine vs_lentp (z3) ?_) | ((with_reducible refine vd_id ?_); refine vq_d (z3) ?_; first | refine vd_ret (z3) ?_ | refine vd_ownp (z3) ?_ | refine vd_own (z3) ?_ | refine vd_lent (z3) ?_) | ((with_reducible refine vl_id ?_); refine vq_l (w3) ?_; first | refine vs_call (w3) ?_ | refine vs_pan (w3) ?_ | refine vs_lentp (w3) ?_) | ((with_reducible refine vd_id ?_); refine vq_d (w3) ?_; first | refine vd_ret (w3) ?_ | refine vd_ownp (w3) ?_ | refine vd_own (w3) ?_ | refine vd_lent (w3) ?_) | ((with_reducible refine vl_id ?_); refine vq_l (p3) ?_; first | refine vs_call (p3) ?_ | refine vs_pan (p3) ?_ | refine vs_lentp (p3) ?_) | ((with_reducible refine vd_id ?_); refine vq_d (p3) ?_; first | refine vd_ret (p3) ?_ | refine vd_ownp (p3) ?_ | refine vd_own (p3) ?_ | refine vd_lent (p3) ?_) | ((with_reducible refine vl_id ?_); refine vq_l (q3) ?_; first | refine vs_call (q3) ?_ | refine vs_pan (q3) ?_ | refine vs_lentp (q3) ?_) | ((with_reducible refine vd_id ?_); refine vq_d (q3) ?_; first | refine vd_ret (q3) ?_ | refine vd_ownp (q3) ?_ | refine vd_own (q3) ?_ | refine vd_lent (q3) ?_) | ((with_reducible refine vl_id ?_); refine vq_l (v3) ?_; first | refine vs_call (v3) ?_ | refine vs_pan (v3) ?_ | refine vs_lentp (v3) ?_) | ((with_reducible refine vd_id ?_); refine vq_d (v3) ?_; first | refine vd_ret (v3) ?_ | refine vd_ownp (v3) ?_ | refine vd_own (v3) ?_ | refine vd_lent (v3) ?_) | refine vs_p ?_ | refine vs_bs0 ?_ | refine vs_eqnil (fun _ _ => ?_) | refine vs_nenil (fun _ _ => ?_) | ((fail_if_success (refine vs_lit ?_)); first | (refine vs_case ?_ ?_ <;> intro _ <;> (try (exfalso; omega))) | (refine vs_caseb ?_ ?_ <;> intro _))) | ((with_reducible refine vd_id ?_); first | with_reducible refine vd_done ?_ | fail | refine vd_q ?_ | refine vd_rp ?_ | refine vd_rp ?_ (h := r_bs0) | refine vd_r ?_ (h := r_bs0) | refine vd_rs ?_ | refine vd_r ?_ | refine vd_appp ?_ | refine vd_appzp ?_ | refine vd_app ?_ | refine vd_appz ?_ | refine vd_store ?_ | refine vd_storez ?_ | refine vd_skip ?_ | ((with_reducible refine vl_id ?_); refine vq_l (x3) ?_; first | refine vs_call (x3) ?_ | refine vs_pan (x3) ?_ | refine vs_lentp (x3) ?_) | ((with_reducible refine vd_id ?_); refine vq_d (x3) ?_; first | refine vd_ret (x3) ?_ | refine vd_ownp (x3) ?_ | refine vd_own (x3) ?_ | refine vd_lent (x3) ?_) | ((with_reducible refine vl_id ?_); refine vq_l (y3) ?_; first | refine vs_call (y3) ?_ | refine vs_pan (y3) ?_ | refine vs_lentp (y3) ?_) | ((with_reducible refine vd_id ?_); refine vq_d (y3) ?_; first | refine vd_ret (y3) ?_ | refine vd_ownp (y3) ?_ | refine vd_own (y3) ?_ | refine vd_lent (y3) ?_) | ((with_reducible refine vl_id ?_); refine vq_l (z3) ?_; first | refine vs_call (z3) ?_ | refine vs_pan (z3) ?_ | refine vs_lentp (z3) ?_) | ((with_reducible refine vd_id ?_); refine vq_d (z3) ?_; first | refine vd_ret (z3) ?_ | refine vd_ownp (z3) ?_ | refine vd_own (z3) ?_ | refine vd_lent (z3) ?_) | ((with_reducible refine vl_id ?_); refine vq_l (w3) ?_; first | refine vs_call (w3) ?_ | refine vs_pan (w3) ?_ | refine vs_lentp (w3) ?_) | ((with_reducible refine vd_id ?_); refine vq_d (w3) ?_; first | refine vd_ret (w3) ?_ | refine vd_ownp (w3) ?_ | refine vd_own (w3) ?_ | refine vd_lent (w3) ?_) | ((with_reducible refine vl_id ?_); refine vq_l (p3) ?_; first | refine vs_call (p3) ?_ | refine vs_pan (p3) ?_ | refine vs_lentp (p3) ?_) | ((with_reducible refine vd_id ?_); refine vq_d (p3) ?_; first | refine vd_ret (p3) ?_ | refine vd_ownp (p3) ?_ | refine vd_own (p3) ?_ | refine vd_lent (p3) ?_) | ((with_reducible refine vl_id ?_); refine vq_l (q3) ?_; first | refine vs_call (q3) ?_ | refine vs_pan (q3) ?_ | refine vs_lentp (q3) ?_) | ((with_reducible refine vd_id ?_); refine vq_d (q3) ?_; first | refine vd_ret (q3) ?_ | refine vd_ownp (q3) ?_ | refine vd_own (q3) ?_ | refine vd_lent (q3) ?_) | ((with_reducible refine vl_id ?_); refine vq_l (v3) ?_; first | refine vs_call (v3) ?_ | refine vs_pan (v3) ?_ | refine vs_lentp (v3) ?_) | ((with_reducible refine vd_id ?_); refine vq_d (v3) ?_; first | refine vd_ret (v3) ?_ | refine vd_ownp (v3) ?_ | refine vd_own (v3) ?_ | refine vd_lent (v3) ?_) | ((fail_if_success (refine vd_lit ?_)); (refine vd_case ?_ ?_ <;> intro hg <;> (first | (exfalso; (try simp only [decide_eq_true_eq, decide_eq_false_iff_not] at hg); omega) | rw [hg])))) | ((with_reducible refine vw_drid ?_); first | fail | refine vw_drawx ?_) | ((with_reducible refine vw_cid ?_); first | refine vw_condt ?_ | refine vw_condf ?_ | (refine vw_cp ?_ ?_ <;> intro _ <;> (try (exfalso; omega))) | (refine vw_cb ?_ ?_ <;> intro _)) | ((with_reducible refine rt_id ?_); first | refine rt_o ?_ | refine rt_a ?_) | ((with_reducible refine rt_idp ?_); refine rt_pan rfl ?_) | ((with_reducible refine rc_id ?_); refine rc_ret ?_) | ((with_reducible refine nx_tryid ?_); refine nx_try ?_) | ((with_reducible refine nx_resid ?_); refine nx_res ?_) | with_reducible (refine NX.go ?_; constructor) | with_reducible refine nx_blkx rfl ?_ | with_reducible refine nx_blky rfl ?_ | ((with_reducible refine nx_mkid ?_); refine nx_mk ?_) | ((with_reducible refine nx_asgid ?_); refine nx_asg ?_) | ((with_reducible refine nx_rndid ?_); first | refine nx_rnd (by assumption) ?_ | refine nx_rnde ?_ | refine nx_rndr ?_) | ((with_reducible refine nx_rngid ?_); first | refine nx_rng (by assumption) ?_ | refine nx_rngj ?_ | refine nx_rngp ?_) | fail)
    exact (sub_ren [] (by repeat' (first | exact trivial | exact rle_nil | refine rle_cons ?_ ?_ | exact rle_any | exact rle_dd | exact rle_ptr rfl | exact rle_row rfl rfl | exact rle_rowk rfl rfl | refine rle_agg ?_ | refine rle_tup ?_ | refine rle_ifc ?_ | refine rle_fn ?_ ?_ | exact rle_ep | exact rle_sv rfl | exact rle_yl rfl | refine ⟨⟨rfl, _, rfl, ?_⟩, ?_⟩ | exact rle_d rfl (by infer_instance) | refine ⟨⟨_, rfl, ?_⟩, ?_⟩ | refine ⟨⟨rfl, .inl ⟨rfl, _, _, rfl, rfl⟩⟩, ?_⟩ | refine ⟨⟨rfl, .inr ⟨rfl, rfl, rfl⟩⟩, ?_⟩ | refine ⟨⟨rfl, _, rfl, ?_⟩, ?_⟩ | refine ⟨?_, ?_⟩)) (by repeat' (first | exact trivial | exact rle_nil | refine rle_cons ?_ ?_ | exact rle_any | exact rle_dd | exact rle_ptr rfl | exact rle_row rfl rfl | exact rle_rowk rfl rfl | refine rle_agg ?_ | refine rle_tup ?_ | refine rle_ifc ?_ | refine rle_fn ?_ ?_ | exact rle_ep | exact rle_sv rfl | exact rle_yl rfl | refine ⟨⟨rfl, _, rfl, ?_⟩, ?_⟩ | exact rle_d rfl (by infer_instance) | refine ⟨⟨_, rfl, ?_⟩, ?_⟩ | refine ⟨⟨rfl, .inl ⟨rfl, _, _, rfl, rfl⟩⟩, ?_⟩ | refine ⟨⟨rfl, .inr ⟨rfl, rfl, rfl⟩⟩, ?_⟩ | refine ⟨⟨rfl, _, rfl, ?_⟩, ?_⟩ | refine ⟨?_, ?_⟩)) (by repeat' (first | exact trivial | exact rle_nil | refine rle_cons ?_ ?_ | exact rle_any | exact rle_dd | exact rle_ptr rfl | exact rle_row rfl rfl | exact rle_rowk rfl rfl | refine rle_agg ?_ | refine rle_tup ?_ | refine rle_ifc ?_ | refine rle_fn ?_ ?_ | exact rle_ep | exact rle_sv rfl | exact rle_yl rfl | refine ⟨⟨rfl, _, rfl, ?_⟩, ?_⟩ | exact rle_d rfl (by infer_instance) | refine ⟨⟨_, rfl, ?_⟩, ?_⟩ | refine ⟨⟨rfl, .inl ⟨rfl, _, _, rfl, rfl⟩⟩, ?_⟩ | refine ⟨⟨rfl, .inr ⟨rfl, rfl, rfl⟩⟩, ?_⟩ | refine ⟨⟨rfl, _, rfl, ?_⟩, ?_⟩ | refine ⟨?_, ?_⟩)) rfl rfl)
  · repeat' (first | with_reducible refine vw_seq ?_ | ((with_reducible refine vl_id ?_); first | fail | refine vs_x ?_ | fail | refine vs_p ?_ | refine vs_bs0 ?_ | refine vs_eqnil (fun _ _ => ?_) | refine vs_nenil (fun _ _ => ?_) | ((fail_if_success (refine vs_lit ?_)); first | (refine vs_case ?_ ?_ <;> intro _ <;> (try (exfalso; omega))) | (refine vs_caseb ?_ ?_ <;> intro _))) | ((with_reducible refine vd_id ?_); first | with_reducible refine vd_done ?_ | fail | refine vd_q ?_ | refine vd_rp ?_ | refine vd_rp ?_ (h := r_bs0) | refine vd_r ?_ (h := r_bs0) | refine vd_rs ?_ | refine vd_r ?_ | refine vd_appp ?_ | refine vd_appzp ?_ | refine vd_app ?_ | refine vd_appz ?_ | refine vd_store ?_ | refine vd_storez ?_ | refine vd_skip ?_ | fail | ((fail_if_success (refine vd_lit ?_)); (refine vd_case ?_ ?_ <;> intro hg <;> (first | (exfalso; (try simp only [decide_eq_true_eq, decide_eq_false_iff_not] at hg); omega) | rw [hg])))) | ((with_reducible refine vw_drid ?_); first | fail | refine vw_drawx ?_) | ((with_reducible refine vw_cid ?_); first | refine vw_condt ?_ | refine vw_condf ?_ | (refine vw_cp ?_ ?_ <;> intro _ <;> (try (exfalso; omega))) | (refine vw_cb ?_ ?_ <;> intro _)) | ((with_reducible refine rt_id ?_); first | refine rt_o ?_ | refine rt_a ?_) | ((with_reducible refine rt_idp ?_); refine rt_pan rfl ?_) | ((with_reducible refine rc_id ?_); refine rc_ret ?_) | ((with_reducible refine nx_tryid ?_); refine nx_try ?_) | ((with_reducible refine nx_resid ?_); refine nx_res ?_) | with_reducible (refine NX.go ?_; constructor) | with_reducible refine nx_blkx rfl ?_ | with_reducible refine nx_blky rfl ?_ | ((with_reducible refine nx_mkid ?_); refine nx_mk ?_) | ((with_reducible refine nx_asgid ?_); refine nx_asg ?_) | ((with_reducible refine nx_rndid ?_); first | refine nx_rnd (by assumption) ?_ | refine nx_rnde ?_ | refine nx_rndr ?_) | ((with_reducible refine nx_rngid ?_); first | refine nx_rng (by assumption) ?_ | refine nx_rngj ?_ | refine nx_rngp ?_) | fail)
    exact Eq.refl _
end Go.Proofs.Ytjfaihpiohccbaa

namespace Go.Proofs.Ytjfaihpiohccbaa
open Go.RowKit
set_option maxRecDepth 10000
set_option maxHeartbeats 4000000
def blkC : Code → Code
  | .block _ c => c
  | c => c
instance de_nilops {c f : Bool} : DE (.lit (.slice none 0 0)) (.sl c f (([] : List DOp).map opN)) := de_nil
abbrev frI (d s fl : Dk) (keep torn : Int) (i : Nat) (W : List DOp) : St := ⟨(91, I .i64 i) :: (90, I .i64 (d.waits.map opN).length) :: (89, .d (.sl false true (d.waits.map opN))) :: (1, .d (.lit (.int .i64 keep))) :: (2, .d (.lit (.int .i64 torn))) :: (9, .d (.lit (.int .i64 0))) :: frT, frLW d s fl W, 5⟩
theorem fronts_loop (B : Nat) (d s fl : Dk) (keep torn : Int) (hk : 0 ≤ keep) (ht : 0 ≤ torn) (hc : checkB d = true) (hd : d.down = false) (hf : d.fuse = 0) (hwb : ∀ o ∈ d.waits, o.b.length ≤ 1000000000) (Q : VE → St → Prop) :
    VW Try.prog ⟨206, none, B, 0, some B, []⟩ (blkC (sndC 1 (fstC (sndC 9 (bodyC Try.f5))))) (frI d s fl keep torn 0 []) (blockV 0 (cutV ⟨206, none, B, 0, some B, []⟩ (fun _ : Unit => ⟨(9, .d (.lit (.int .i64 0))) :: frT, frLW d s fl (frontL keep.toNat torn d.waits), 5⟩) (fun _ => True) Q)) := by
  refine vw_each 89 d.waits opN (fun (i : Nat) (W : List DOp) => frI d s fl keep torn i W) (fun i W => FrT d keep.toNat torn i W) [] (sub_ren [] (by repeat' (first | exact trivial | exact rle_nil | refine rle_cons ?_ ?_ | exact rle_any | exact rle_dd | exact rle_ptr rfl | exact rle_row rfl rfl | exact rle_rowk rfl rfl | refine rle_agg ?_ | refine rle_tup ?_ | refine rle_ifc ?_ | refine rle_fn ?_ ?_ | exact rle_ep | exact rle_sv rfl | exact rle_yl rfl | refine ⟨⟨rfl, _, rfl, ?_⟩, ?_⟩ | exact rle_d rfl (by infer_instance) | refine ⟨⟨_, rfl, ?_⟩, ?_⟩ | refine ⟨⟨rfl, .inl ⟨rfl, _, _, rfl, rfl⟩⟩, ?_⟩ | refine ⟨⟨rfl, .inr ⟨rfl, rfl, rfl⟩⟩, ?_⟩ | refine ⟨⟨rfl, _, rfl, ?_⟩, ?_⟩ | refine ⟨?_, ?_⟩)) (by repeat' (first | exact trivial | exact rle_nil | refine rle_cons ?_ ?_ | exact rle_any | exact rle_dd | exact rle_ptr rfl | exact rle_row rfl rfl | exact rle_rowk rfl rfl | refine rle_agg ?_ | refine rle_tup ?_ | refine rle_ifc ?_ | refine rle_fn ?_ ?_ | exact rle_ep | exact rle_sv rfl | exact rle_yl rfl | refine ⟨⟨rfl, _, rfl, ?_⟩, ?_⟩ | exact rle_d rfl (by infer_instance) | refine ⟨⟨_, rfl, ?_⟩, ?_⟩ | refine ⟨⟨rfl, .inl ⟨rfl, _, _, rfl, rfl⟩⟩, ?_⟩ | refine ⟨⟨rfl, .inr ⟨rfl, rfl, rfl⟩⟩, ?_⟩ | refine ⟨⟨rfl, _, rfl, ?_⟩, ?_⟩ | refine ⟨?_, ?_⟩)) (by repeat' (first | exact trivial | exact rle_nil | refine rle_cons ?_ ?_ | exact rle_any | exact rle_dd | exact rle_ptr rfl | exact rle_row rfl rfl | exact rle_rowk rfl rfl | refine rle_agg ?_ | refine rle_tup ?_ | refine rle_ifc ?_ | refine rle_fn ?_ ?_ | exact rle_ep | exact rle_sv rfl | exact rle_yl rfl | refine ⟨⟨rfl, _, rfl, ?_⟩, ?_⟩ | exact rle_d rfl (by infer_instance) | refine ⟨⟨_, rfl, ?_⟩, ?_⟩ | refine ⟨⟨rfl, .inl ⟨rfl, _, _, rfl, rfl⟩⟩, ?_⟩ | refine ⟨⟨rfl, .inr ⟨rfl, rfl, rfl⟩⟩, ?_⟩ | refine ⟨⟨rfl, _, rfl, ?_⟩, ?_⟩ | refine ⟨?_, ?_⟩)) rfl rfl) (FrT.zero _ _ _) (fun i y x hT hi hx hx' hlt hlm hlen hdr => ?_) (fun y hT hlt hlm => ?_)
  · have hxb := hwb x (List.mem_of_getElem? hx)
    simp only [opN] at hx'
    rcases Nat.lt_or_ge i keep.toNat with h | h
    · have hW := hT.1 (by omega)
      subst hW
      have cd := do_v (d.on (d.waits.take i)) x (fun o ho => hwb o (List.mem_of_mem_take ho)) hxb
      rw [on_take hc hd hf hx] at cd
      simp only [dkD, dkE, dkN, opD, Dk.on, hd, hf] at cd
      repeat' (first | with_reducible refine vw_seq ?_ | ((with_reducible refine vl_id ?_); first | fail | refine vs_x ?_ | ((with_reducible refine vl_id ?_); refine vq_l (cd) ?_; first | refine vs_call (cd) ?_ | refine vs_pan (cd) ?_ | refine vs_lentp (cd) ?_) | ((with_reducible refine vd_id ?_); refine vq_d (cd) ?_; first | refine vd_ret (cd) ?_ | refine vd_ownp (cd) ?_ | refine vd_own (cd) ?_ | refine vd_lent (cd) ?_) | refine vs_p ?_ | refine vs_bs0 ?_ | refine vs_eqnil (fun _ _ => ?_) | refine vs_nenil (fun _ _ => ?_) | ((fail_if_success (refine vs_lit ?_)); first | (refine vs_case ?_ ?_ <;> intro _ <;> (try (exfalso; omega))) | (refine vs_caseb ?_ ?_ <;> intro _))) | ((with_reducible refine vd_id ?_); first | with_reducible refine vd_done ?_ | fail | refine vd_q ?_ | refine vd_rp ?_ | refine vd_rp ?_ (h := r_bs0) | refine vd_r ?_ (h := r_bs0) | refine vd_rs ?_ | refine vd_r ?_ | refine vd_appp ?_ | refine vd_appzp ?_ | refine vd_app ?_ | refine vd_appz ?_ | refine vd_store ?_ | refine vd_storez ?_ | refine vd_skip ?_ | ((with_reducible refine vl_id ?_); refine vq_l (cd) ?_; first | refine vs_call (cd) ?_ | refine vs_pan (cd) ?_ | refine vs_lentp (cd) ?_) | ((with_reducible refine vd_id ?_); refine vq_d (cd) ?_; first | refine vd_ret (cd) ?_ | refine vd_ownp (cd) ?_ | refine vd_own (cd) ?_ | refine vd_lent (cd) ?_) | ((fail_if_success (refine vd_lit ?_)); (refine vd_case ?_ ?_ <;> intro hg <;> (first | (exfalso; (try simp only [decide_eq_true_eq, decide_eq_false_iff_not] at hg); omega) | rw [hg])))) | ((with_reducible refine vw_drid ?_); first | fail | refine vw_drawx ?_) | ((with_reducible refine vw_cid ?_); first | refine vw_condt ?_ | refine vw_condf ?_ | (refine vw_cp ?_ ?_ <;> intro _ <;> (try (exfalso; omega))) | (refine vw_cb ?_ ?_ <;> intro _)) | ((with_reducible refine rt_id ?_); first | refine rt_o ?_ | refine rt_a ?_) | ((with_reducible refine rt_idp ?_); refine rt_pan rfl ?_) | ((with_reducible refine rc_id ?_); refine rc_ret ?_) | ((with_reducible refine nx_tryid ?_); refine nx_try ?_) | ((with_reducible refine nx_resid ?_); refine nx_res ?_) | with_reducible (refine NX.go ?_; constructor) | with_reducible refine nx_blkx rfl ?_ | with_reducible refine nx_blky rfl ?_ | ((with_reducible refine nx_mkid ?_); refine nx_mk ?_) | ((with_reducible refine nx_asgid ?_); refine nx_asg ?_) | ((with_reducible refine nx_rndid ?_); first | refine nx_rnd (by assumption) ?_ | refine nx_rnde ?_ | refine nx_rndr ?_) | ((with_reducible refine nx_rngid ?_); first | refine nx_rng (by assumption) ?_ | refine nx_rngj ?_ | refine nx_rngp ?_) | fail)
      exact nx_each (d.waits.take (i + 1)) hi (FrT.go h) (sub_ren [] (by repeat' (first | exact trivial | exact rle_nil | refine rle_cons ?_ ?_ | exact rle_any | exact rle_dd | exact rle_ptr rfl | exact rle_row rfl rfl | exact rle_rowk rfl rfl | refine rle_agg ?_ | refine rle_tup ?_ | refine rle_ifc ?_ | refine rle_fn ?_ ?_ | exact rle_ep | exact rle_sv rfl | exact rle_yl rfl | refine ⟨⟨rfl, _, rfl, ?_⟩, ?_⟩ | exact rle_d rfl (by infer_instance) | refine ⟨⟨_, rfl, ?_⟩, ?_⟩ | refine ⟨⟨rfl, .inl ⟨rfl, _, _, rfl, rfl⟩⟩, ?_⟩ | refine ⟨⟨rfl, .inr ⟨rfl, rfl, rfl⟩⟩, ?_⟩ | refine ⟨⟨rfl, _, rfl, ?_⟩, ?_⟩ | refine ⟨?_, ?_⟩)) (by repeat' (first | exact trivial | exact rle_nil | refine rle_cons ?_ ?_ | exact rle_any | exact rle_dd | exact rle_ptr rfl | exact rle_row rfl rfl | exact rle_rowk rfl rfl | refine rle_agg ?_ | refine rle_tup ?_ | refine rle_ifc ?_ | refine rle_fn ?_ ?_ | exact rle_ep | exact rle_sv rfl | exact rle_yl rfl | refine ⟨⟨rfl, _, rfl, ?_⟩, ?_⟩ | exact rle_d rfl (by infer_instance) | refine ⟨⟨_, rfl, ?_⟩, ?_⟩ | refine ⟨⟨rfl, .inl ⟨rfl, _, _, rfl, rfl⟩⟩, ?_⟩ | refine ⟨⟨rfl, .inr ⟨rfl, rfl, rfl⟩⟩, ?_⟩ | refine ⟨⟨rfl, _, rfl, ?_⟩, ?_⟩ | refine ⟨?_, ?_⟩)) (by repeat' (first | exact trivial | exact rle_nil | refine rle_cons ?_ ?_ | exact rle_any | exact rle_dd | exact rle_ptr rfl | exact rle_row rfl rfl | exact rle_rowk rfl rfl | refine rle_agg ?_ | refine rle_tup ?_ | refine rle_ifc ?_ | refine rle_fn ?_ ?_ | exact rle_ep | exact rle_sv rfl | exact rle_yl rfl | refine ⟨⟨rfl, _, rfl, ?_⟩, ?_⟩ | exact rle_d rfl (by infer_instance) | refine ⟨⟨_, rfl, ?_⟩, ?_⟩ | refine ⟨⟨rfl, .inl ⟨rfl, _, _, rfl, rfl⟩⟩, ?_⟩ | refine ⟨⟨rfl, .inr ⟨rfl, rfl, rfl⟩⟩, ?_⟩ | refine ⟨⟨rfl, _, rfl, ?_⟩, ?_⟩ | refine ⟨?_, ?_⟩)) rfl rfl)
    · rcases Nat.lt_or_ge keep.toNat i with h2 | h2
      · have hW := hT.2 h2
        subst hW
        repeat' (first | with_reducible refine vw_seq ?_ | ((with_reducible refine vl_id ?_); first | fail | refine vs_x ?_ | fail | refine vs_p ?_ | refine vs_bs0 ?_ | refine vs_eqnil (fun _ _ => ?_) | refine vs_nenil (fun _ _ => ?_) | ((fail_if_success (refine vs_lit ?_)); first | (refine vs_case ?_ ?_ <;> intro _ <;> (try (exfalso; omega))) | (refine vs_caseb ?_ ?_ <;> intro _))) | ((with_reducible refine vd_id ?_); first | with_reducible refine vd_done ?_ | fail | refine vd_q ?_ | refine vd_rp ?_ | refine vd_rp ?_ (h := r_bs0) | refine vd_r ?_ (h := r_bs0) | refine vd_rs ?_ | refine vd_r ?_ | refine vd_appp ?_ | refine vd_appzp ?_ | refine vd_app ?_ | refine vd_appz ?_ | refine vd_store ?_ | refine vd_storez ?_ | refine vd_skip ?_ | fail | ((fail_if_success (refine vd_lit ?_)); (refine vd_case ?_ ?_ <;> intro hg <;> (first | (exfalso; (try simp only [decide_eq_true_eq, decide_eq_false_iff_not] at hg); omega) | rw [hg])))) | ((with_reducible refine vw_drid ?_); first | fail | refine vw_drawx ?_) | ((with_reducible refine vw_cid ?_); first | refine vw_condt ?_ | refine vw_condf ?_ | (refine vw_cp ?_ ?_ <;> intro _ <;> (try (exfalso; omega))) | (refine vw_cb ?_ ?_ <;> intro _)) | ((with_reducible refine rt_id ?_); first | refine rt_o ?_ | refine rt_a ?_) | ((with_reducible refine rt_idp ?_); refine rt_pan rfl ?_) | ((with_reducible refine rc_id ?_); refine rc_ret ?_) | ((with_reducible refine nx_tryid ?_); refine nx_try ?_) | ((with_reducible refine nx_resid ?_); refine nx_res ?_) | with_reducible (refine NX.go ?_; constructor) | with_reducible refine nx_blkx rfl ?_ | with_reducible refine nx_blky rfl ?_ | ((with_reducible refine nx_mkid ?_); refine nx_mk ?_) | ((with_reducible refine nx_asgid ?_); refine nx_asg ?_) | ((with_reducible refine nx_rndid ?_); first | refine nx_rnd (by assumption) ?_ | refine nx_rnde ?_ | refine nx_rndr ?_) | ((with_reducible refine nx_rngid ?_); first | refine nx_rng (by assumption) ?_ | refine nx_rngj ?_ | refine nx_rngp ?_) | fail)
        exact nx_cut () trivial (sub_ren [] (by repeat' (first | exact trivial | exact rle_nil | refine rle_cons ?_ ?_ | exact rle_any | exact rle_dd | exact rle_ptr rfl | exact rle_row rfl rfl | exact rle_rowk rfl rfl | refine rle_agg ?_ | refine rle_tup ?_ | refine rle_ifc ?_ | refine rle_fn ?_ ?_ | exact rle_ep | exact rle_sv rfl | exact rle_yl rfl | refine ⟨⟨rfl, _, rfl, ?_⟩, ?_⟩ | exact rle_d rfl (by infer_instance) | refine ⟨⟨_, rfl, ?_⟩, ?_⟩ | refine ⟨⟨rfl, .inl ⟨rfl, _, _, rfl, rfl⟩⟩, ?_⟩ | refine ⟨⟨rfl, .inr ⟨rfl, rfl, rfl⟩⟩, ?_⟩ | refine ⟨⟨rfl, _, rfl, ?_⟩, ?_⟩ | refine ⟨?_, ?_⟩)) (by repeat' (first | exact trivial | exact rle_nil | refine rle_cons ?_ ?_ | exact rle_any | exact rle_dd | exact rle_ptr rfl | exact rle_row rfl rfl | exact rle_rowk rfl rfl | refine rle_agg ?_ | refine rle_tup ?_ | refine rle_ifc ?_ | refine rle_fn ?_ ?_ | exact rle_ep | exact rle_sv rfl | exact rle_yl rfl | refine ⟨⟨rfl, _, rfl, ?_⟩, ?_⟩ | exact rle_d rfl (by infer_instance) | refine ⟨⟨_, rfl, ?_⟩, ?_⟩ | refine ⟨⟨rfl, .inl ⟨rfl, _, _, rfl, rfl⟩⟩, ?_⟩ | refine ⟨⟨rfl, .inr ⟨rfl, rfl, rfl⟩⟩, ?_⟩ | refine ⟨⟨rfl, _, rfl, ?_⟩, ?_⟩ | refine ⟨?_, ?_⟩)) (by repeat' (first | exact trivial | exact rle_nil | refine rle_cons ?_ ?_ | exact rle_any | exact rle_dd | exact rle_ptr rfl | exact rle_row rfl rfl | exact rle_rowk rfl rfl | refine rle_agg ?_ | refine rle_tup ?_ | refine rle_ifc ?_ | refine rle_fn ?_ ?_ | exact rle_ep | exact rle_sv rfl | exact rle_yl rfl | refine ⟨⟨rfl, _, rfl, ?_⟩, ?_⟩ | exact rle_d rfl (by infer_instance) | refine ⟨⟨_, rfl, ?_⟩, ?_⟩ | refine ⟨⟨rfl, .inl ⟨rfl, _, _, rfl, rfl⟩⟩, ?_⟩ | refine ⟨⟨rfl, .inr ⟨rfl, rfl, rfl⟩⟩, ?_⟩ | refine ⟨⟨rfl, _, rfl, ?_⟩, ?_⟩ | refine ⟨?_, ?_⟩)) rfl rfl)
      · have hik : i = keep.toNat := by omega
        subst hik
        by_cases hs : x.k ≠ 1 ∨ torn = 0
        · have hW := hT.stop hx hs
          subst hW
          repeat' (first | with_reducible refine vw_seq ?_ | ((with_reducible refine vl_id ?_); first | fail | refine vs_x ?_ | fail | refine vs_p ?_ | refine vs_bs0 ?_ | refine vs_eqnil (fun _ _ => ?_) | refine vs_nenil (fun _ _ => ?_) | ((fail_if_success (refine vs_lit ?_)); first | (refine vs_case ?_ ?_ <;> intro _ <;> (try (exfalso; omega))) | (refine vs_caseb ?_ ?_ <;> intro _))) | ((with_reducible refine vd_id ?_); first | with_reducible refine vd_done ?_ | fail | refine vd_q ?_ | refine vd_rp ?_ | refine vd_rp ?_ (h := r_bs0) | refine vd_r ?_ (h := r_bs0) | refine vd_rs ?_ | refine vd_r ?_ | refine vd_appp ?_ | refine vd_appzp ?_ | refine vd_app ?_ | refine vd_appz ?_ | refine vd_store ?_ | refine vd_storez ?_ | refine vd_skip ?_ | fail | ((fail_if_success (refine vd_lit ?_)); (refine vd_case ?_ ?_ <;> intro hg <;> (first | (exfalso; (try simp only [decide_eq_true_eq, decide_eq_false_iff_not] at hg); omega) | rw [hg])))) | ((with_reducible refine vw_drid ?_); first | fail | refine vw_drawx ?_) | ((with_reducible refine vw_cid ?_); first | refine vw_condt ?_ | refine vw_condf ?_ | (refine vw_cp ?_ ?_ <;> intro _ <;> (try (exfalso; omega))) | (refine vw_cb ?_ ?_ <;> intro _)) | ((with_reducible refine rt_id ?_); first | refine rt_o ?_ | refine rt_a ?_) | ((with_reducible refine rt_idp ?_); refine rt_pan rfl ?_) | ((with_reducible refine rc_id ?_); refine rc_ret ?_) | ((with_reducible refine nx_tryid ?_); refine nx_try ?_) | ((with_reducible refine nx_resid ?_); refine nx_res ?_) | with_reducible (refine NX.go ?_; constructor) | with_reducible refine nx_blkx rfl ?_ | with_reducible refine nx_blky rfl ?_ | ((with_reducible refine nx_mkid ?_); refine nx_mk ?_) | ((with_reducible refine nx_asgid ?_); refine nx_asg ?_) | ((with_reducible refine nx_rndid ?_); first | refine nx_rnd (by assumption) ?_ | refine nx_rnde ?_ | refine nx_rndr ?_) | ((with_reducible refine nx_rngid ?_); first | refine nx_rng (by assumption) ?_ | refine nx_rngj ?_ | refine nx_rngp ?_) | fail)
          all_goals exact nx_cut () trivial (sub_ren [] (by repeat' (first | exact trivial | exact rle_nil | refine rle_cons ?_ ?_ | exact rle_any | exact rle_dd | exact rle_ptr rfl | exact rle_row rfl rfl | exact rle_rowk rfl rfl | refine rle_agg ?_ | refine rle_tup ?_ | refine rle_ifc ?_ | refine rle_fn ?_ ?_ | exact rle_ep | exact rle_sv rfl | exact rle_yl rfl | refine ⟨⟨rfl, _, rfl, ?_⟩, ?_⟩ | exact rle_d rfl (by infer_instance) | refine ⟨⟨_, rfl, ?_⟩, ?_⟩ | refine ⟨⟨rfl, .inl ⟨rfl, _, _, rfl, rfl⟩⟩, ?_⟩ | refine ⟨⟨rfl, .inr ⟨rfl, rfl, rfl⟩⟩, ?_⟩ | refine ⟨⟨rfl, _, rfl, ?_⟩, ?_⟩ | refine ⟨?_, ?_⟩)) (by repeat' (first | exact trivial | exact rle_nil | refine rle_cons ?_ ?_ | exact rle_any | exact rle_dd | exact rle_ptr rfl | exact rle_row rfl rfl | exact rle_rowk rfl rfl | refine rle_agg ?_ | refine rle_tup ?_ | refine rle_ifc ?_ | refine rle_fn ?_ ?_ | exact rle_ep | exact rle_sv rfl | exact rle_yl rfl | refine ⟨⟨rfl, _, rfl, ?_⟩, ?_⟩ | exact rle_d rfl (by infer_instance) | refine ⟨⟨_, rfl, ?_⟩, ?_⟩ | refine ⟨⟨rfl, .inl ⟨rfl, _, _, rfl, rfl⟩⟩, ?_⟩ | refine ⟨⟨rfl, .inr ⟨rfl, rfl, rfl⟩⟩, ?_⟩ | refine ⟨⟨rfl, _, rfl, ?_⟩, ?_⟩ | refine ⟨?_, ?_⟩)) (by repeat' (first | exact trivial | exact rle_nil | refine rle_cons ?_ ?_ | exact rle_any | exact rle_dd | exact rle_ptr rfl | exact rle_row rfl rfl | exact rle_rowk rfl rfl | refine rle_agg ?_ | refine rle_tup ?_ | refine rle_ifc ?_ | refine rle_fn ?_ ?_ | exact rle_ep | exact rle_sv rfl | exact rle_yl rfl | refine ⟨⟨rfl, _, rfl, ?_⟩, ?_⟩ | exact rle_d rfl (by infer_instance) | refine ⟨⟨_, rfl, ?_⟩, ?_⟩ | refine ⟨⟨rfl, .inl ⟨rfl, _, _, rfl, rfl⟩⟩, ?_⟩ | refine ⟨⟨rfl, .inr ⟨rfl, rfl, rfl⟩⟩, ?_⟩ | refine ⟨⟨rfl, _, rfl, ?_⟩, ?_⟩ | refine ⟨?_, ?_⟩)) rfl rfl)
        · have hs1 : x.k = 1 := by omega
          have hs2 : torn ≠ 0 := by omega
          have hW := hT.1 (Nat.le_refl _)
          subst hW
          have cd := do_v (d.on (d.waits.take keep.toNat)) (x.cut torn) (fun o ho => hwb o (List.mem_of_mem_take ho)) (by simp only [DOp.cut, List.length_take]; omega)
          rw [on_torn hc hd hf hx hs1 (t := torn) (by omega)] at cd
          have hbl := byD_len x.b
          have hcut := cutL_take x.b torn ht
          rw [← hbl] at hcut
          have hFr := FrT.cut (torn := torn) hx hs1 hs2
          simp only [dkD, dkE, dkN, opD, Dk.on, DOp.cut, hd, hf] at cd hFr
          repeat' (first | with_reducible refine vw_seq ?_ | ((with_reducible refine vl_id ?_); first | fail | refine vs_x ?_ | (rw [hcut]; first | ((with_reducible refine vl_id ?_); refine vq_l (cd) ?_; first | refine vs_call (cd) ?_ | refine vs_pan (cd) ?_ | refine vs_lentp (cd) ?_) | ((with_reducible refine vd_id ?_); refine vq_d (cd) ?_; first | refine vd_ret (cd) ?_ | refine vd_ownp (cd) ?_ | refine vd_own (cd) ?_ | refine vd_lent (cd) ?_)) | refine vs_p ?_ | refine vs_bs0 ?_ | refine vs_eqnil (fun _ _ => ?_) | refine vs_nenil (fun _ _ => ?_) | ((fail_if_success (refine vs_lit ?_)); first | (refine vs_case ?_ ?_ <;> intro _ <;> (try (exfalso; omega))) | (refine vs_caseb ?_ ?_ <;> intro _))) | ((with_reducible refine vd_id ?_); first | with_reducible refine vd_done ?_ | fail | refine vd_q ?_ | refine vd_rp ?_ | refine vd_rp ?_ (h := r_bs0) | refine vd_r ?_ (h := r_bs0) | refine vd_rs ?_ | refine vd_r ?_ | refine vd_appp ?_ | refine vd_appzp ?_ | refine vd_app ?_ | refine vd_appz ?_ | refine vd_store ?_ | refine vd_storez ?_ | refine vd_skip ?_ | (rw [hcut]; first | ((with_reducible refine vl_id ?_); refine vq_l (cd) ?_; first | refine vs_call (cd) ?_ | refine vs_pan (cd) ?_ | refine vs_lentp (cd) ?_) | ((with_reducible refine vd_id ?_); refine vq_d (cd) ?_; first | refine vd_ret (cd) ?_ | refine vd_ownp (cd) ?_ | refine vd_own (cd) ?_ | refine vd_lent (cd) ?_)) | ((fail_if_success (refine vd_lit ?_)); (refine vd_case ?_ ?_ <;> intro hg <;> (first | (exfalso; (try simp only [decide_eq_true_eq, decide_eq_false_iff_not] at hg); omega) | rw [hg])))) | ((with_reducible refine vw_drid ?_); first | fail | refine vw_drawx ?_) | ((with_reducible refine vw_cid ?_); first | refine vw_condt ?_ | refine vw_condf ?_ | (refine vw_cp ?_ ?_ <;> intro _ <;> (try (exfalso; omega))) | (refine vw_cb ?_ ?_ <;> intro _)) | ((with_reducible refine rt_id ?_); first | refine rt_o ?_ | refine rt_a ?_) | ((with_reducible refine rt_idp ?_); refine rt_pan rfl ?_) | ((with_reducible refine rc_id ?_); refine rc_ret ?_) | ((with_reducible refine nx_tryid ?_); refine nx_try ?_) | ((with_reducible refine nx_resid ?_); refine nx_res ?_) | with_reducible (refine NX.go ?_; constructor) | with_reducible refine nx_blkx rfl ?_ | with_reducible refine nx_blky rfl ?_ | ((with_reducible refine nx_mkid ?_); refine nx_mk ?_) | ((with_reducible refine nx_asgid ?_); refine nx_asg ?_) | ((with_reducible refine nx_rndid ?_); first | refine nx_rnd (by assumption) ?_ | refine nx_rnde ?_ | refine nx_rndr ?_) | ((with_reducible refine nx_rngid ?_); first | refine nx_rng (by assumption) ?_ | refine nx_rngj ?_ | refine nx_rngp ?_) | fail)
          exact nx_each (d.waits.take keep.toNat ++ [⟨x.k, x.f, x.b.take torn.toNat⟩]) hi hFr (sub_ren [] (by repeat' (first | exact trivial | exact rle_nil | refine rle_cons ?_ ?_ | exact rle_any | exact rle_dd | exact rle_ptr rfl | exact rle_row rfl rfl | exact rle_rowk rfl rfl | refine rle_agg ?_ | refine rle_tup ?_ | refine rle_ifc ?_ | refine rle_fn ?_ ?_ | exact rle_ep | exact rle_sv rfl | exact rle_yl rfl | refine ⟨⟨rfl, _, rfl, ?_⟩, ?_⟩ | exact rle_d rfl (by infer_instance) | refine ⟨⟨_, rfl, ?_⟩, ?_⟩ | refine ⟨⟨rfl, .inl ⟨rfl, _, _, rfl, rfl⟩⟩, ?_⟩ | refine ⟨⟨rfl, .inr ⟨rfl, rfl, rfl⟩⟩, ?_⟩ | refine ⟨⟨rfl, _, rfl, ?_⟩, ?_⟩ | refine ⟨?_, ?_⟩)) (by repeat' (first | exact trivial | exact rle_nil | refine rle_cons ?_ ?_ | exact rle_any | exact rle_dd | exact rle_ptr rfl | exact rle_row rfl rfl | exact rle_rowk rfl rfl | refine rle_agg ?_ | refine rle_tup ?_ | refine rle_ifc ?_ | refine rle_fn ?_ ?_ | exact rle_ep | exact rle_sv rfl | exact rle_yl rfl | refine ⟨⟨rfl, _, rfl, ?_⟩, ?_⟩ | exact rle_d rfl (by infer_instance) | refine ⟨⟨_, rfl, ?_⟩, ?_⟩ | refine ⟨⟨rfl, .inl ⟨rfl, _, _, rfl, rfl⟩⟩, ?_⟩ | refine ⟨⟨rfl, .inr ⟨rfl, rfl, rfl⟩⟩, ?_⟩ | refine ⟨⟨rfl, _, rfl, ?_⟩, ?_⟩ | refine ⟨?_, ?_⟩)) (by repeat' (first | exact trivial | exact rle_nil | refine rle_cons ?_ ?_ | exact rle_any | exact rle_dd | exact rle_ptr rfl | exact rle_row rfl rfl | exact rle_rowk rfl rfl | refine rle_agg ?_ | refine rle_tup ?_ | refine rle_ifc ?_ | refine rle_fn ?_ ?_ | exact rle_ep | exact rle_sv rfl | exact rle_yl rfl | refine ⟨⟨rfl, _, rfl, ?_⟩, ?_⟩ | exact rle_d rfl (by infer_instance) | refine ⟨⟨_, rfl, ?_⟩, ?_⟩ | refine ⟨⟨rfl, .inl ⟨rfl, _, _, rfl, rfl⟩⟩, ?_⟩ | refine ⟨⟨rfl, .inr ⟨rfl, rfl, rfl⟩⟩, ?_⟩ | refine ⟨⟨rfl, _, rfl, ?_⟩, ?_⟩ | refine ⟨?_, ?_⟩)) rfl rfl)
  · repeat' (first | with_reducible refine vw_seq ?_ | ((with_reducible refine vl_id ?_); first | fail | refine vs_x ?_ | fail | refine vs_p ?_ | refine vs_bs0 ?_ | refine vs_eqnil (fun _ _ => ?_) | refine vs_nenil (fun _ _ => ?_) | ((fail_if_success (refine vs_lit ?_)); first | (refine vs_case ?_ ?_ <;> intro _ <;> (try (exfalso; omega))) | (refine vs_caseb ?_ ?_ <;> intro _))) | ((with_reducible refine vd_id ?_); first | with_reducible refine vd_done ?_ | fail | refine vd_q ?_ | refine vd_rp ?_ | refine vd_rp ?_ (h := r_bs0) | refine vd_r ?_ (h := r_bs0) | refine vd_rs ?_ | refine vd_r ?_ | refine vd_appp ?_ | refine vd_appzp ?_ | refine vd_app ?_ | refine vd_appz ?_ | refine vd_store ?_ | refine vd_storez ?_ | refine vd_skip ?_ | fail | ((fail_if_success (refine vd_lit ?_)); (refine vd_case ?_ ?_ <;> intro hg <;> (first | (exfalso; (try simp only [decide_eq_true_eq, decide_eq_false_iff_not] at hg); omega) | rw [hg])))) | ((with_reducible refine vw_drid ?_); first | fail | refine vw_drawx ?_) | ((with_reducible refine vw_cid ?_); first | refine vw_condt ?_ | refine vw_condf ?_ | (refine vw_cp ?_ ?_ <;> intro _ <;> (try (exfalso; omega))) | (refine vw_cb ?_ ?_ <;> intro _)) | ((with_reducible refine rt_id ?_); first | refine rt_o ?_ | refine rt_a ?_) | ((with_reducible refine rt_idp ?_); refine rt_pan rfl ?_) | ((with_reducible refine rc_id ?_); refine rc_ret ?_) | ((with_reducible refine nx_tryid ?_); refine nx_try ?_) | ((with_reducible refine nx_resid ?_); refine nx_res ?_) | with_reducible (refine NX.go ?_; constructor) | with_reducible refine nx_blkx rfl ?_ | with_reducible refine nx_blky rfl ?_ | ((with_reducible refine nx_mkid ?_); refine nx_mk ?_) | ((with_reducible refine nx_asgid ?_); refine nx_asg ?_) | ((with_reducible refine nx_rndid ?_); first | refine nx_rnd (by assumption) ?_ | refine nx_rnde ?_ | refine nx_rndr ?_) | ((with_reducible refine nx_rngid ?_); first | refine nx_rng (by assumption) ?_ | refine nx_rngj ?_ | refine nx_rngp ?_) | fail)
    have hW := hT.end'
    subst hW
    exact nx_cut () trivial (sub_ren [] (by repeat' (first | exact trivial | exact rle_nil | refine rle_cons ?_ ?_ | exact rle_any | exact rle_dd | exact rle_ptr rfl | exact rle_row rfl rfl | exact rle_rowk rfl rfl | refine rle_agg ?_ | refine rle_tup ?_ | refine rle_ifc ?_ | refine rle_fn ?_ ?_ | exact rle_ep | exact rle_sv rfl | exact rle_yl rfl | refine ⟨⟨rfl, _, rfl, ?_⟩, ?_⟩ | exact rle_d rfl (by infer_instance) | refine ⟨⟨_, rfl, ?_⟩, ?_⟩ | refine ⟨⟨rfl, .inl ⟨rfl, _, _, rfl, rfl⟩⟩, ?_⟩ | refine ⟨⟨rfl, .inr ⟨rfl, rfl, rfl⟩⟩, ?_⟩ | refine ⟨⟨rfl, _, rfl, ?_⟩, ?_⟩ | refine ⟨?_, ?_⟩)) (by repeat' (first | exact trivial | exact rle_nil | refine rle_cons ?_ ?_ | exact rle_any | exact rle_dd | exact rle_ptr rfl | exact rle_row rfl rfl | exact rle_rowk rfl rfl | refine rle_agg ?_ | refine rle_tup ?_ | refine rle_ifc ?_ | refine rle_fn ?_ ?_ | exact rle_ep | exact rle_sv rfl | exact rle_yl rfl | refine ⟨⟨rfl, _, rfl, ?_⟩, ?_⟩ | exact rle_d rfl (by infer_instance) | refine ⟨⟨_, rfl, ?_⟩, ?_⟩ | refine ⟨⟨rfl, .inl ⟨rfl, _, _, rfl, rfl⟩⟩, ?_⟩ | refine ⟨⟨rfl, .inr ⟨rfl, rfl, rfl⟩⟩, ?_⟩ | refine ⟨⟨rfl, _, rfl, ?_⟩, ?_⟩ | refine ⟨?_, ?_⟩)) (by repeat' (first | exact trivial | exact rle_nil | refine rle_cons ?_ ?_ | exact rle_any | exact rle_dd | exact rle_ptr rfl | exact rle_row rfl rfl | exact rle_rowk rfl rfl | refine rle_agg ?_ | refine rle_tup ?_ | refine rle_ifc ?_ | refine rle_fn ?_ ?_ | exact rle_ep | exact rle_sv rfl | exact rle_yl rfl | refine ⟨⟨rfl, _, rfl, ?_⟩, ?_⟩ | exact rle_d rfl (by infer_instance) | refine ⟨⟨_, rfl, ?_⟩, ?_⟩ | refine ⟨⟨rfl, .inl ⟨rfl, _, _, rfl, rfl⟩⟩, ?_⟩ | refine ⟨⟨rfl, .inr ⟨rfl, rfl, rfl⟩⟩, ?_⟩ | refine ⟨⟨rfl, _, rfl, ?_⟩, ?_⟩ | refine ⟨?_, ?_⟩)) rfl rfl)
end Go.Proofs.Ytjfaihpiohccbaa

namespace Go.Proofs.Ytjfaihpiohccbaa
open Go.RowKit
set_option maxRecDepth 10000
set_option maxHeartbeats 4000000
instance dl_nilops {c f : Bool} : DL (.lit (.slice none 0 0)) (.sl c f (([] : List DOp).map opN)) := (inferInstance : DL (.lit (.slice none 0 0)) (.sl c f []))
theorem fronts_law (x : Dk) (keep torn : Int) : VP Try.prog 5 [.agg (dkD x), .lit (.int .i64 keep), .lit (.int .i64 torn)] (· = .ret (.lit (.bool true))) := by
  have co := lown_v x
  have hwb := own_wb x
  have cc := check_v x.own hwb
  by_cases hh : checkB x.own = true ∧ 0 ≤ keep ∧ 0 ≤ torn ∧ x.own.down = false ∧ x.own.fuse = 0
  · obtain ⟨hc, hk, ht, hd, hf⟩ := hh
    rw [hc] at cc
    generalize hdx : x.own = d at *
    clear hdx
    have cs := do_v d ⟨4, 0, []⟩ hwb (by simp)
    rw [sync_seen d hc hd hf] at cs
    have hsc := seen_check d hc
    have hsw : d.seen.waits = [] := rfl
    have u1 := head_v d hwb
    rw [head_of hc] at u1
    have u2 := head_v d.seen (by rw [hsw]; simp)
    rw [head_of hsc, seen_flat d.seen hsw] at u2
    have cf := fall_v d keep torn hwb
    rw [fall_eq d hc, if_pos ⟨hk, ht⟩] at cf
    have hflc := fell_check d hc keep torn hk
    have hFc := front_check hc hd hf keep.toNat torn ht
    have hend : ∀ B, _ := fun B => fronts_end B d d.seen { (d.doAll (keptL keep torn 0 d.waits)).clear with down := true, fuse := 0 } (d.doAll (frontL keep.toNat torn d.waits)) (frontL keep.toNat torn d.waits) hd hf
      (fun f a b => by rw [read_still _ hflc rfl f a b, front_kept hc keep torn hk]; rfl) (fun f a b => by rw [read_of hFc f a b, on_seen]; rfl) (fun f a b => read_still _ hsc hsw f a b) (fun f a b => read_of hc f a b)
      (by rw [head_of hFc, head_of hflc, on_seen, seen_flat _ rfl, front_kept hc keep torn hk]) (by simp [Dk.clear]) (check_wb _ hFc) (by rw [hsw]; simp) hwb
    have hloop := fun B Q => fronts_loop B d d.seen { (d.doAll (keptL keep torn 0 d.waits)).clear with down := true, fuse := 0 } keep torn hk ht hc hd hf hwb Q
    generalize hfl : ({ (d.doAll (keptL keep torn 0 d.waits)).clear with down := true, fuse := 0 } : Dk) = fl at *
    have hsl : (d.seen.waits.map opN).length = 0 := by rw [hsw]; rfl
    generalize hss : d.seen = s at *
    clear hsc hsw hflc hFc hfl hss hc
    simp only [dkD, dkE, dkN, opD, show byD ([] : List UInt8) = [] from rfl, hd, hf, if_true] at co cc cs u1 u2 cf
    refine vp_of Try.func5 rfl Try.ntmps5 rfl Try.results5 fun B => ?_
    simp only [dkD]
    repeat' (first | with_reducible refine vw_seq ?_ | ((with_reducible refine vl_id ?_); first | fail | refine vs_x ?_ | ((with_reducible refine vl_id ?_); refine vq_l (wakes_v) ?_; first | refine vs_call (wakes_v) ?_ | refine vs_pan (wakes_v) ?_ | refine vs_lentp (wakes_v) ?_) | ((with_reducible refine vd_id ?_); refine vq_d (wakes_v) ?_; first | refine vd_ret (wakes_v) ?_ | refine vd_ownp (wakes_v) ?_ | refine vd_own (wakes_v) ?_ | refine vd_lent (wakes_v) ?_) | ((with_reducible refine vl_id ?_); refine vq_l (co) ?_; first | refine vs_call (co) ?_ | refine vs_pan (co) ?_ | refine vs_lentp (co) ?_) | ((with_reducible refine vd_id ?_); refine vq_d (co) ?_; first | refine vd_ret (co) ?_ | refine vd_ownp (co) ?_ | refine vd_own (co) ?_ | refine vd_lent (co) ?_) | ((with_reducible refine vl_id ?_); refine vq_l (cc) ?_; first | refine vs_call (cc) ?_ | refine vs_pan (cc) ?_ | refine vs_lentp (cc) ?_) | ((with_reducible refine vd_id ?_); refine vq_d (cc) ?_; first | refine vd_ret (cc) ?_ | refine vd_ownp (cc) ?_ | refine vd_own (cc) ?_ | refine vd_lent (cc) ?_) | ((with_reducible refine vl_id ?_); refine vq_l (lsync_v) ?_; first | refine vs_call (lsync_v) ?_ | refine vs_pan (lsync_v) ?_ | refine vs_lentp (lsync_v) ?_) | ((with_reducible refine vd_id ?_); refine vq_d (lsync_v) ?_; first | refine vd_ret (lsync_v) ?_ | refine vd_ownp (lsync_v) ?_ | refine vd_own (lsync_v) ?_ | refine vd_lent (lsync_v) ?_) | ((with_reducible refine vl_id ?_); refine vq_l (cs) ?_; first | refine vs_call (cs) ?_ | refine vs_pan (cs) ?_ | refine vs_lentp (cs) ?_) | ((with_reducible refine vd_id ?_); refine vq_d (cs) ?_; first | refine vd_ret (cs) ?_ | refine vd_ownp (cs) ?_ | refine vd_own (cs) ?_ | refine vd_lent (cs) ?_) | ((with_reducible refine vl_id ?_); refine vq_l (u1) ?_; first | refine vs_call (u1) ?_ | refine vs_pan (u1) ?_ | refine vs_lentp (u1) ?_) | ((with_reducible refine vd_id ?_); refine vq_d (u1) ?_; first | refine vd_ret (u1) ?_ | refine vd_ownp (u1) ?_ | refine vd_own (u1) ?_ | refine vd_lent (u1) ?_) | ((with_reducible refine vl_id ?_); refine vq_l (u2) ?_; first | refine vs_call (u2) ?_ | refine vs_pan (u2) ?_ | refine vs_lentp (u2) ?_) | ((with_reducible refine vd_id ?_); refine vq_d (u2) ?_; first | refine vd_ret (u2) ?_ | refine vd_ownp (u2) ?_ | refine vd_own (u2) ?_ | refine vd_lent (u2) ?_) | ((with_reducible refine vl_id ?_); refine vq_l (cf) ?_; first | refine vs_call (cf) ?_ | refine vs_pan (cf) ?_ | refine vs_lentp (cf) ?_) | ((with_reducible refine vd_id ?_); refine vq_d (cf) ?_; first | refine vd_ret (cf) ?_ | refine vd_ownp (cf) ?_ | refine vd_own (cf) ?_ | refine vd_lent (cf) ?_) | refine vs_p ?_ | refine vs_bs0 ?_ | refine vs_eqnil (fun _ _ => ?_) | refine vs_nenil (fun _ _ => ?_) | ((fail_if_success (refine vs_lit ?_)); first | (refine vs_case ?_ ?_ <;> intro _ <;> (try (exfalso; omega))) | (refine vs_caseb ?_ ?_ <;> intro _))) | ((with_reducible refine vd_id ?_); first | with_reducible refine vd_done ?_ | fail | refine vd_q ?_ | refine vd_rp ?_ | refine vd_rp ?_ (h := r_bs0) | refine vd_r ?_ (h := r_bs0) | refine vd_rs ?_ | refine vd_r ?_ | refine vd_appp ?_ | refine vd_appzp ?_ | refine vd_app ?_ | refine vd_appz ?_ | refine vd_store ?_ | refine vd_storez ?_ | refine vd_skip ?_ | ((with_reducible refine vl_id ?_); refine vq_l (wakes_v) ?_; first | refine vs_call (wakes_v) ?_ | refine vs_pan (wakes_v) ?_ | refine vs_lentp (wakes_v) ?_) | ((with_reducible refine vd_id ?_); refine vq_d (wakes_v) ?_; first | refine vd_ret (wakes_v) ?_ | refine vd_ownp (wakes_v) ?_ | refine vd_own (wakes_v) ?_ | refine vd_lent (wakes_v) ?_) | ((with_reducible refine vl_id ?_); refine vq_l (co) ?_; first | refine vs_call (co) ?_ | refine vs_pan (co) ?_ | refine vs_lentp (co) ?_) | ((with_reducible refine vd_id ?_); refine vq_d (co) ?_; first | refine vd_ret (co) ?_ | refine vd_ownp (co) ?_ | refine vd_own (co) ?_ | refine vd_lent (co) ?_) | ((with_reducible refine vl_id ?_); refine vq_l (cc) ?_; first | refine vs_call (cc) ?_ | refine vs_pan (cc) ?_ | refine vs_lentp (cc) ?_) | ((with_reducible refine vd_id ?_); refine vq_d (cc) ?_; first | refine vd_ret (cc) ?_ | refine vd_ownp (cc) ?_ | refine vd_own (cc) ?_ | refine vd_lent (cc) ?_) | ((with_reducible refine vl_id ?_); refine vq_l (lsync_v) ?_; first | refine vs_call (lsync_v) ?_ | refine vs_pan (lsync_v) ?_ | refine vs_lentp (lsync_v) ?_) | ((with_reducible refine vd_id ?_); refine vq_d (lsync_v) ?_; first | refine vd_ret (lsync_v) ?_ | refine vd_ownp (lsync_v) ?_ | refine vd_own (lsync_v) ?_ | refine vd_lent (lsync_v) ?_) | ((with_reducible refine vl_id ?_); refine vq_l (cs) ?_; first | refine vs_call (cs) ?_ | refine vs_pan (cs) ?_ | refine vs_lentp (cs) ?_) | ((with_reducible refine vd_id ?_); refine vq_d (cs) ?_; first | refine vd_ret (cs) ?_ | refine vd_ownp (cs) ?_ | refine vd_own (cs) ?_ | refine vd_lent (cs) ?_) | ((with_reducible refine vl_id ?_); refine vq_l (u1) ?_; first | refine vs_call (u1) ?_ | refine vs_pan (u1) ?_ | refine vs_lentp (u1) ?_) | ((with_reducible refine vd_id ?_); refine vq_d (u1) ?_; first | refine vd_ret (u1) ?_ | refine vd_ownp (u1) ?_ | refine vd_own (u1) ?_ | refine vd_lent (u1) ?_) | ((with_reducible refine vl_id ?_); refine vq_l (u2) ?_; first | refine vs_call (u2) ?_ | refine vs_pan (u2) ?_ | refine vs_lentp (u2) ?_) | ((with_reducible refine vd_id ?_); refine vq_d (u2) ?_; first | refine vd_ret (u2) ?_ | refine vd_ownp (u2) ?_ | refine vd_own (u2) ?_ | refine vd_lent (u2) ?_) | ((with_reducible refine vl_id ?_); refine vq_l (cf) ?_; first | refine vs_call (cf) ?_ | refine vs_pan (cf) ?_ | refine vs_lentp (cf) ?_) | ((with_reducible refine vd_id ?_); refine vq_d (cf) ?_; first | refine vd_ret (cf) ?_ | refine vd_ownp (cf) ?_ | refine vd_own (cf) ?_ | refine vd_lent (cf) ?_) | ((fail_if_success (refine vd_lit ?_)); (refine vd_case ?_ ?_ <;> intro hg <;> (first | (exfalso; (try simp only [decide_eq_true_eq, decide_eq_false_iff_not] at hg); omega) | rw [hg])))) | ((with_reducible refine vw_drid ?_); first | fail | refine vw_drawx ?_) | ((with_reducible refine vw_cid ?_); first | refine vw_condt ?_ | refine vw_condf ?_ | (refine vw_cp ?_ ?_ <;> intro _ <;> (try (exfalso; omega))) | (refine vw_cb ?_ ?_ <;> intro _)) | ((with_reducible refine rt_id ?_); first | refine rt_o ?_ | refine rt_a ?_) | ((with_reducible refine rt_idp ?_); refine rt_pan rfl ?_) | ((with_reducible refine rc_id ?_); refine rc_ret ?_) | ((with_reducible refine nx_tryid ?_); refine nx_try ?_) | ((with_reducible refine nx_resid ?_); refine nx_res ?_) | with_reducible (refine NX.go ?_; constructor) | with_reducible refine nx_blkx rfl ?_ | with_reducible refine nx_blky rfl ?_ | ((with_reducible refine nx_mkid ?_); refine nx_mk ?_) | ((with_reducible refine nx_asgid ?_); refine nx_asg ?_) | ((with_reducible refine nx_rndid ?_); first | refine nx_rnd (by assumption) ?_ | refine nx_rnde ?_ | refine nx_rndr ?_) | ((with_reducible refine nx_rngid ?_); first | refine nx_rng (by assumption) ?_ | refine nx_rngj ?_ | refine nx_rngp ?_) | fail)
    refine vw_join (fun _ : Unit => ⟨(9, .d (.lit (.int .i64 0))) :: frT, frLW d s fl (frontL keep.toNat torn d.waits), 5⟩) (fun _ => True) ?_ fun _ _ => hend B
    exact vw_sub (sub_ren [] (by repeat' (first | exact trivial | exact rle_nil | refine rle_cons ?_ ?_ | exact rle_any | exact rle_dd | exact rle_ptr rfl | exact rle_row rfl rfl | exact rle_rowk rfl rfl | refine rle_agg ?_ | refine rle_tup ?_ | refine rle_ifc ?_ | refine rle_fn ?_ ?_ | exact rle_ep | exact rle_sv rfl | exact rle_yl rfl | refine ⟨⟨rfl, _, rfl, ?_⟩, ?_⟩ | exact rle_d rfl (by infer_instance) | refine ⟨⟨_, rfl, ?_⟩, ?_⟩ | refine ⟨⟨rfl, .inl ⟨rfl, _, _, rfl, rfl⟩⟩, ?_⟩ | refine ⟨⟨rfl, .inr ⟨rfl, rfl, rfl⟩⟩, ?_⟩ | refine ⟨⟨rfl, _, rfl, ?_⟩, ?_⟩ | refine ⟨?_, ?_⟩)) (by repeat' (first | exact trivial | exact rle_nil | refine rle_cons ?_ ?_ | exact rle_any | exact rle_dd | exact rle_ptr rfl | exact rle_row rfl rfl | exact rle_rowk rfl rfl | refine rle_agg ?_ | refine rle_tup ?_ | refine rle_ifc ?_ | refine rle_fn ?_ ?_ | exact rle_ep | exact rle_sv rfl | exact rle_yl rfl | refine ⟨⟨rfl, _, rfl, ?_⟩, ?_⟩ | exact rle_d rfl (by infer_instance) | refine ⟨⟨_, rfl, ?_⟩, ?_⟩ | refine ⟨⟨rfl, .inl ⟨rfl, _, _, rfl, rfl⟩⟩, ?_⟩ | refine ⟨⟨rfl, .inr ⟨rfl, rfl, rfl⟩⟩, ?_⟩ | refine ⟨⟨rfl, _, rfl, ?_⟩, ?_⟩ | refine ⟨?_, ?_⟩)) (by repeat' (first | exact trivial | exact rle_nil | refine rle_cons ?_ ?_ | exact rle_any | exact rle_dd | exact rle_ptr rfl | exact rle_row rfl rfl | exact rle_rowk rfl rfl | refine rle_agg ?_ | refine rle_tup ?_ | refine rle_ifc ?_ | refine rle_fn ?_ ?_ | exact rle_ep | exact rle_sv rfl | exact rle_yl rfl | refine ⟨⟨rfl, _, rfl, ?_⟩, ?_⟩ | exact rle_d rfl (by infer_instance) | refine ⟨⟨_, rfl, ?_⟩, ?_⟩ | refine ⟨⟨rfl, .inl ⟨rfl, _, _, rfl, rfl⟩⟩, ?_⟩ | refine ⟨⟨rfl, .inr ⟨rfl, rfl, rfl⟩⟩, ?_⟩ | refine ⟨⟨rfl, _, rfl, ?_⟩, ?_⟩ | refine ⟨?_, ?_⟩)) rfl rfl) (hloop B _)
  · cases hc : checkB x.own with
    | false =>
      rw [hc] at cc
      refine vp_of Try.func5 rfl Try.ntmps5 rfl Try.results5 fun B => ?_
      simp only [dkD, dkN, dkE, Bool.false_eq_true, if_false] at *
      repeat' (first | with_reducible refine vw_seq ?_ | ((with_reducible refine vl_id ?_); first | fail | refine vs_x ?_ | ((with_reducible refine vl_id ?_); refine vq_l (wakes_v) ?_; first | refine vs_call (wakes_v) ?_ | refine vs_pan (wakes_v) ?_ | refine vs_lentp (wakes_v) ?_) | ((with_reducible refine vd_id ?_); refine vq_d (wakes_v) ?_; first | refine vd_ret (wakes_v) ?_ | refine vd_ownp (wakes_v) ?_ | refine vd_own (wakes_v) ?_ | refine vd_lent (wakes_v) ?_) | ((with_reducible refine vl_id ?_); refine vq_l (co) ?_; first | refine vs_call (co) ?_ | refine vs_pan (co) ?_ | refine vs_lentp (co) ?_) | ((with_reducible refine vd_id ?_); refine vq_d (co) ?_; first | refine vd_ret (co) ?_ | refine vd_ownp (co) ?_ | refine vd_own (co) ?_ | refine vd_lent (co) ?_) | ((with_reducible refine vl_id ?_); refine vq_l (cc) ?_; first | refine vs_call (cc) ?_ | refine vs_pan (cc) ?_ | refine vs_lentp (cc) ?_) | ((with_reducible refine vd_id ?_); refine vq_d (cc) ?_; first | refine vd_ret (cc) ?_ | refine vd_ownp (cc) ?_ | refine vd_own (cc) ?_ | refine vd_lent (cc) ?_) | refine vs_p ?_ | refine vs_bs0 ?_ | refine vs_eqnil (fun _ _ => ?_) | refine vs_nenil (fun _ _ => ?_) | ((fail_if_success (refine vs_lit ?_)); first | (refine vs_case ?_ ?_ <;> intro _ <;> (try (exfalso; omega))) | (refine vs_caseb ?_ ?_ <;> intro _))) | ((with_reducible refine vd_id ?_); first | with_reducible refine vd_done ?_ | fail | refine vd_q ?_ | refine vd_rp ?_ | refine vd_rp ?_ (h := r_bs0) | refine vd_r ?_ (h := r_bs0) | refine vd_rs ?_ | refine vd_r ?_ | refine vd_appp ?_ | refine vd_appzp ?_ | refine vd_app ?_ | refine vd_appz ?_ | refine vd_store ?_ | refine vd_storez ?_ | refine vd_skip ?_ | ((with_reducible refine vl_id ?_); refine vq_l (wakes_v) ?_; first | refine vs_call (wakes_v) ?_ | refine vs_pan (wakes_v) ?_ | refine vs_lentp (wakes_v) ?_) | ((with_reducible refine vd_id ?_); refine vq_d (wakes_v) ?_; first | refine vd_ret (wakes_v) ?_ | refine vd_ownp (wakes_v) ?_ | refine vd_own (wakes_v) ?_ | refine vd_lent (wakes_v) ?_) | ((with_reducible refine vl_id ?_); refine vq_l (co) ?_; first | refine vs_call (co) ?_ | refine vs_pan (co) ?_ | refine vs_lentp (co) ?_) | ((with_reducible refine vd_id ?_); refine vq_d (co) ?_; first | refine vd_ret (co) ?_ | refine vd_ownp (co) ?_ | refine vd_own (co) ?_ | refine vd_lent (co) ?_) | ((with_reducible refine vl_id ?_); refine vq_l (cc) ?_; first | refine vs_call (cc) ?_ | refine vs_pan (cc) ?_ | refine vs_lentp (cc) ?_) | ((with_reducible refine vd_id ?_); refine vq_d (cc) ?_; first | refine vd_ret (cc) ?_ | refine vd_ownp (cc) ?_ | refine vd_own (cc) ?_ | refine vd_lent (cc) ?_) | ((fail_if_success (refine vd_lit ?_)); (refine vd_case ?_ ?_ <;> intro hg <;> (first | (exfalso; (try simp only [decide_eq_true_eq, decide_eq_false_iff_not] at hg); omega) | rw [hg])))) | ((with_reducible refine vw_drid ?_); first | fail | refine vw_drawx ?_) | ((with_reducible refine vw_cid ?_); first | refine vw_condt ?_ | refine vw_condf ?_ | (refine vw_cp ?_ ?_ <;> intro _ <;> (try (exfalso; omega))) | (refine vw_cb ?_ ?_ <;> intro _)) | ((with_reducible refine rt_id ?_); first | refine rt_o ?_ | refine rt_a ?_) | ((with_reducible refine rt_idp ?_); refine rt_pan rfl ?_) | ((with_reducible refine rc_id ?_); refine rc_ret ?_) | ((with_reducible refine nx_tryid ?_); refine nx_try ?_) | ((with_reducible refine nx_resid ?_); refine nx_res ?_) | with_reducible (refine NX.go ?_; constructor) | with_reducible refine nx_blkx rfl ?_ | with_reducible refine nx_blky rfl ?_ | ((with_reducible refine nx_mkid ?_); refine nx_mk ?_) | ((with_reducible refine nx_asgid ?_); refine nx_asg ?_) | ((with_reducible refine nx_rndid ?_); first | refine nx_rnd (by assumption) ?_ | refine nx_rnde ?_ | refine nx_rndr ?_) | ((with_reducible refine nx_rngid ?_); first | refine nx_rng (by assumption) ?_ | refine nx_rngj ?_ | refine nx_rngp ?_) | fail)
      all_goals first | with_reducible rfl | (exfalso; omega)
    | true =>
      have hfu := check_fuse _ hc
      rw [hc] at cc
      cases hd : x.own.down with
      | true =>
        refine vp_of Try.func5 rfl Try.ntmps5 rfl Try.results5 fun B => ?_
        simp only [dkD, dkN, dkE, if_true, hd] at *
        repeat' (first | with_reducible refine vw_seq ?_ | ((with_reducible refine vl_id ?_); first | fail | refine vs_x ?_ | ((with_reducible refine vl_id ?_); refine vq_l (wakes_v) ?_; first | refine vs_call (wakes_v) ?_ | refine vs_pan (wakes_v) ?_ | refine vs_lentp (wakes_v) ?_) | ((with_reducible refine vd_id ?_); refine vq_d (wakes_v) ?_; first | refine vd_ret (wakes_v) ?_ | refine vd_ownp (wakes_v) ?_ | refine vd_own (wakes_v) ?_ | refine vd_lent (wakes_v) ?_) | ((with_reducible refine vl_id ?_); refine vq_l (co) ?_; first | refine vs_call (co) ?_ | refine vs_pan (co) ?_ | refine vs_lentp (co) ?_) | ((with_reducible refine vd_id ?_); refine vq_d (co) ?_; first | refine vd_ret (co) ?_ | refine vd_ownp (co) ?_ | refine vd_own (co) ?_ | refine vd_lent (co) ?_) | ((with_reducible refine vl_id ?_); refine vq_l (cc) ?_; first | refine vs_call (cc) ?_ | refine vs_pan (cc) ?_ | refine vs_lentp (cc) ?_) | ((with_reducible refine vd_id ?_); refine vq_d (cc) ?_; first | refine vd_ret (cc) ?_ | refine vd_ownp (cc) ?_ | refine vd_own (cc) ?_ | refine vd_lent (cc) ?_) | refine vs_p ?_ | refine vs_bs0 ?_ | refine vs_eqnil (fun _ _ => ?_) | refine vs_nenil (fun _ _ => ?_) | ((fail_if_success (refine vs_lit ?_)); first | (refine vs_case ?_ ?_ <;> intro _ <;> (try (exfalso; omega))) | (refine vs_caseb ?_ ?_ <;> intro _))) | ((with_reducible refine vd_id ?_); first | with_reducible refine vd_done ?_ | fail | refine vd_q ?_ | refine vd_rp ?_ | refine vd_rp ?_ (h := r_bs0) | refine vd_r ?_ (h := r_bs0) | refine vd_rs ?_ | refine vd_r ?_ | refine vd_appp ?_ | refine vd_appzp ?_ | refine vd_app ?_ | refine vd_appz ?_ | refine vd_store ?_ | refine vd_storez ?_ | refine vd_skip ?_ | ((with_reducible refine vl_id ?_); refine vq_l (wakes_v) ?_; first | refine vs_call (wakes_v) ?_ | refine vs_pan (wakes_v) ?_ | refine vs_lentp (wakes_v) ?_) | ((with_reducible refine vd_id ?_); refine vq_d (wakes_v) ?_; first | refine vd_ret (wakes_v) ?_ | refine vd_ownp (wakes_v) ?_ | refine vd_own (wakes_v) ?_ | refine vd_lent (wakes_v) ?_) | ((with_reducible refine vl_id ?_); refine vq_l (co) ?_; first | refine vs_call (co) ?_ | refine vs_pan (co) ?_ | refine vs_lentp (co) ?_) | ((with_reducible refine vd_id ?_); refine vq_d (co) ?_; first | refine vd_ret (co) ?_ | refine vd_ownp (co) ?_ | refine vd_own (co) ?_ | refine vd_lent (co) ?_) | ((with_reducible refine vl_id ?_); refine vq_l (cc) ?_; first | refine vs_call (cc) ?_ | refine vs_pan (cc) ?_ | refine vs_lentp (cc) ?_) | ((with_reducible refine vd_id ?_); refine vq_d (cc) ?_; first | refine vd_ret (cc) ?_ | refine vd_ownp (cc) ?_ | refine vd_own (cc) ?_ | refine vd_lent (cc) ?_) | ((fail_if_success (refine vd_lit ?_)); (refine vd_case ?_ ?_ <;> intro hg <;> (first | (exfalso; (try simp only [decide_eq_true_eq, decide_eq_false_iff_not] at hg); omega) | rw [hg])))) | ((with_reducible refine vw_drid ?_); first | fail | refine vw_drawx ?_) | ((with_reducible refine vw_cid ?_); first | refine vw_condt ?_ | refine vw_condf ?_ | (refine vw_cp ?_ ?_ <;> intro _ <;> (try (exfalso; omega))) | (refine vw_cb ?_ ?_ <;> intro _)) | ((with_reducible refine rt_id ?_); first | refine rt_o ?_ | refine rt_a ?_) | ((with_reducible refine rt_idp ?_); refine rt_pan rfl ?_) | ((with_reducible refine rc_id ?_); refine rc_ret ?_) | ((with_reducible refine nx_tryid ?_); refine nx_try ?_) | ((with_reducible refine nx_resid ?_); refine nx_res ?_) | with_reducible (refine NX.go ?_; constructor) | with_reducible refine nx_blkx rfl ?_ | with_reducible refine nx_blky rfl ?_ | ((with_reducible refine nx_mkid ?_); refine nx_mk ?_) | ((with_reducible refine nx_asgid ?_); refine nx_asg ?_) | ((with_reducible refine nx_rndid ?_); first | refine nx_rnd (by assumption) ?_ | refine nx_rnde ?_ | refine nx_rndr ?_) | ((with_reducible refine nx_rngid ?_); first | refine nx_rng (by assumption) ?_ | refine nx_rngj ?_ | refine nx_rngp ?_) | fail)
        all_goals first | with_reducible rfl | (exfalso; omega)
      | false =>
        have hh' : ¬ (0 ≤ keep ∧ 0 ≤ torn ∧ x.own.fuse = 0) := fun h => hh ⟨hc, h.1, h.2.1, hd, h.2.2⟩
        clear hh hc
        refine vp_of Try.func5 rfl Try.ntmps5 rfl Try.results5 fun B => ?_
        simp only [dkD, dkN, dkE, if_true, hd] at *
        repeat' (first | with_reducible refine vw_seq ?_ | ((with_reducible refine vl_id ?_); first | fail | refine vs_x ?_ | ((with_reducible refine vl_id ?_); refine vq_l (wakes_v) ?_; first | refine vs_call (wakes_v) ?_ | refine vs_pan (wakes_v) ?_ | refine vs_lentp (wakes_v) ?_) | ((with_reducible refine vd_id ?_); refine vq_d (wakes_v) ?_; first | refine vd_ret (wakes_v) ?_ | refine vd_ownp (wakes_v) ?_ | refine vd_own (wakes_v) ?_ | refine vd_lent (wakes_v) ?_) | ((with_reducible refine vl_id ?_); refine vq_l (co) ?_; first | refine vs_call (co) ?_ | refine vs_pan (co) ?_ | refine vs_lentp (co) ?_) | ((with_reducible refine vd_id ?_); refine vq_d (co) ?_; first | refine vd_ret (co) ?_ | refine vd_ownp (co) ?_ | refine vd_own (co) ?_ | refine vd_lent (co) ?_) | ((with_reducible refine vl_id ?_); refine vq_l (cc) ?_; first | refine vs_call (cc) ?_ | refine vs_pan (cc) ?_ | refine vs_lentp (cc) ?_) | ((with_reducible refine vd_id ?_); refine vq_d (cc) ?_; first | refine vd_ret (cc) ?_ | refine vd_ownp (cc) ?_ | refine vd_own (cc) ?_ | refine vd_lent (cc) ?_) | refine vs_p ?_ | refine vs_bs0 ?_ | refine vs_eqnil (fun _ _ => ?_) | refine vs_nenil (fun _ _ => ?_) | ((fail_if_success (refine vs_lit ?_)); first | (refine vs_case ?_ ?_ <;> intro _ <;> (try (exfalso; omega))) | (refine vs_caseb ?_ ?_ <;> intro _))) | ((with_reducible refine vd_id ?_); first | with_reducible refine vd_done ?_ | fail | refine vd_q ?_ | refine vd_rp ?_ | refine vd_rp ?_ (h := r_bs0) | refine vd_r ?_ (h := r_bs0) | refine vd_rs ?_ | refine vd_r ?_ | refine vd_appp ?_ | refine vd_appzp ?_ | refine vd_app ?_ | refine vd_appz ?_ | refine vd_store ?_ | refine vd_storez ?_ | refine vd_skip ?_ | ((with_reducible refine vl_id ?_); refine vq_l (wakes_v) ?_; first | refine vs_call (wakes_v) ?_ | refine vs_pan (wakes_v) ?_ | refine vs_lentp (wakes_v) ?_) | ((with_reducible refine vd_id ?_); refine vq_d (wakes_v) ?_; first | refine vd_ret (wakes_v) ?_ | refine vd_ownp (wakes_v) ?_ | refine vd_own (wakes_v) ?_ | refine vd_lent (wakes_v) ?_) | ((with_reducible refine vl_id ?_); refine vq_l (co) ?_; first | refine vs_call (co) ?_ | refine vs_pan (co) ?_ | refine vs_lentp (co) ?_) | ((with_reducible refine vd_id ?_); refine vq_d (co) ?_; first | refine vd_ret (co) ?_ | refine vd_ownp (co) ?_ | refine vd_own (co) ?_ | refine vd_lent (co) ?_) | ((with_reducible refine vl_id ?_); refine vq_l (cc) ?_; first | refine vs_call (cc) ?_ | refine vs_pan (cc) ?_ | refine vs_lentp (cc) ?_) | ((with_reducible refine vd_id ?_); refine vq_d (cc) ?_; first | refine vd_ret (cc) ?_ | refine vd_ownp (cc) ?_ | refine vd_own (cc) ?_ | refine vd_lent (cc) ?_) | ((fail_if_success (refine vd_lit ?_)); (refine vd_case ?_ ?_ <;> intro hg <;> (first | (exfalso; (try simp only [decide_eq_true_eq, decide_eq_false_iff_not] at hg); omega) | rw [hg])))) | ((with_reducible refine vw_drid ?_); first | fail | refine vw_drawx ?_) | ((with_reducible refine vw_cid ?_); first | refine vw_condt ?_ | refine vw_condf ?_ | (refine vw_cp ?_ ?_ <;> intro _ <;> (try (exfalso; omega))) | (refine vw_cb ?_ ?_ <;> intro _)) | ((with_reducible refine rt_id ?_); first | refine rt_o ?_ | refine rt_a ?_) | ((with_reducible refine rt_idp ?_); refine rt_pan rfl ?_) | ((with_reducible refine rc_id ?_); refine rc_ret ?_) | ((with_reducible refine nx_tryid ?_); refine nx_try ?_) | ((with_reducible refine nx_resid ?_); refine nx_res ?_) | with_reducible (refine NX.go ?_; constructor) | with_reducible refine nx_blkx rfl ?_ | with_reducible refine nx_blky rfl ?_ | ((with_reducible refine nx_mkid ?_); refine nx_mk ?_) | ((with_reducible refine nx_asgid ?_); refine nx_asg ?_) | ((with_reducible refine nx_rndid ?_); first | refine nx_rnd (by assumption) ?_ | refine nx_rnde ?_ | refine nx_rndr ?_) | ((with_reducible refine nx_rngid ?_); first | refine nx_rng (by assumption) ?_ | refine nx_rngj ?_ | refine nx_rngp ?_) | fail)
        all_goals first | with_reducible rfl | (exfalso; omega)
end Go.Proofs.Ytjfaihpiohccbaa

namespace Go.Proofs.Ytjfaihpiohccbaa
open Go.RowKit

/-- what comes later has all that was there: an order on worlds -/
theorem Below.up {a b c : World} (h : Below a.heap.size a b) (k : Below b.heap.size b c) : Below a.heap.size a c := h.trans (k.mono h.size)
theorem Below.upA {a b : World} (h : Below a.heap.size a b) (o : Obj) : Below a.heap.size a (b.alloc o) := h.alloc h.size o
theorem Below.new (w : World) (o : Obj) : Below w.heap.size w (w.alloc o) := (Below.refl _ _).alloc (Nat.le_refl _) o
theorem Blk.up {w w' : World} {b : Nat} {cs : Array Value} {t : TypeId} (h : Blk w b cs t) (hb : Below w.heap.size w w') : Blk w' b cs t := h.below hb h.lt

/-- the world of a call is taken as a variable of which this is known -/
theorem gen_calls {P : Program} {f : FuncId} {args : Array Value} {Q : Ending → World → Prop} {w : World} (F : World → Prop) (hF : F w) (h : ∀ W, F W → Calls P f args W Q) : Calls P f args w Q := h w hF

/-- min of two, as a number k that is one of them -/
theorem wl_min {P : Program} {ops : Array Oper} {Q : Exit → Act → World → Prop} {rest : List Oper} {a : Act} {w : World} {dst : Option Tmp} {p q : Operand} {t1 t2 ty : TypeId} {pos : String} {af : Array Edge} {g : Option (Nat × Bool)} (n m : Nat)
    (hw : Region.wanted ⟨dst, .call { callee := .builtin .min, args := #[p, q], argTypes := #[t1, t2] }, ty, pos, af, g⟩ (yielded ops a.tmps) = true) (hp : a.eval p = .int .i64 n) (hq : a.eval q = .int .i64 m)
    (h : ∀ k : Nat, k ≤ n → k ≤ m → Hid (k = min n m) → wpList P ops Q rest (a.put dst (.int .i64 k)) w) :
    wpList P ops Q (⟨dst, .call { callee := .builtin .min, args := #[p, q], argTypes := #[t1, t2] }, ty, pos, af, g⟩ :: rest) a w := by
  refine wl_of hw ?_ (h (min n m) (Nat.min_le_left _ _) (Nat.min_le_right _ _) (Lib.hid rfl))
  have hmin : ∀ ats ty, (Builtin.min_ ats ty #[.int .i64 n, .int .i64 m]).run P w = .ok (.int .i64 ((min n m : Nat) : Int)) w := by
    intro ats ty
    simp [Builtin.min_, Builtin.min2]
    split <;> omega
  simp only [execOp, resolve, invoke, builtin, Sem.run_bind, Sem.run_pure, Result.andThen_ok, List.map_toArray, List.map_cons, List.map_nil, hp, hq, hmin]

/-- the same in a region that draws its order -/
theorem wq_min {P : Program} {ops : Array Oper} {C : World → Prop} {Q : Act → Prop} {rest : List Oper} {a : Act} {dst : Option Tmp} {p q : Operand} {t1 t2 ty : TypeId} {pos : String} {af : Array Edge} {g : Option (Nat × Bool)} (n m : Nat)
    (hw : Region.wanted ⟨dst, .call { callee := .builtin .min, args := #[p, q], argTypes := #[t1, t2] }, ty, pos, af, g⟩ (yielded ops a.tmps) = true) (hp : a.eval p = .int .i64 n) (hq : a.eval q = .int .i64 m)
    (h : ∀ k : Nat, k ≤ n → k ≤ m → Hid (k = min n m) → wpQuiet P ops C Q rest (a.put dst (.int .i64 k))) :
    wpQuiet P ops C Q (⟨dst, .call { callee := .builtin .min, args := #[p, q], argTypes := #[t1, t2] }, ty, pos, af, g⟩ :: rest) a := by
  refine wq_of hw (fun w _ => ?_) (h (min n m) (Nat.min_le_left _ _) (Nat.min_le_right _ _) (Lib.hid rfl))
  have hmin : ∀ ats ty, (Builtin.min_ ats ty #[.int .i64 n, .int .i64 m]).run P w = .ok (.int .i64 ((min n m : Nat) : Int)) w := by
    intro ats ty
    simp [Builtin.min_, Builtin.min2]
    split <;> omega
  simp only [execOp, resolve, invoke, builtin, Sem.run_bind, Sem.run_pure, Result.andThen_ok, List.map_toArray, List.map_cons, List.map_nil, hp, hq, hmin]

theorem IsSl.part {w : World} {a : Option Addr} {n n' c k : Nat} {cs cs' : List Value} (h : IsSl w (.slice a n c) n' cs) (hk : k ≤ n) (hcs : ∀ (j : Nat) (u : Value), cs'[j]? = some u → cs[j]? = some u) : IsSl w (.slice a k c) k cs' := by
  obtain ⟨a', c', e, h1, h2, h3, h4⟩ := h
  cases e
  exact ⟨a, c, rfl, by omega, h2, h3, fun j u hu => h4 j u (hcs j u hu)⟩

theorem Bytes.part {w : World} {a : Option Addr} {n c k : Nat} {l : List UInt8} (h : Bytes w (.slice a n c) l) (hk : k ≤ l.length) : Bytes w (.slice a k c) (l.take k) := by
  have h' := h
  obtain ⟨a', c', e, h1, h2, h3, h4⟩ := h'
  cases e
  have := IsSl.part (k := k) (cs' := (l.take k).map vb) h hk (fun j u hu => by
    rw [List.map_take, List.getElem?_take] at hu
    split at hu
    · exact hu
    · cases hu)
  unfold Bytes
  rw [List.length_take, Nat.min_eq_left hk]
  exact this

end Go.Proofs.Ytjfaihpiohccbaa

namespace Go.Proofs.Ytjfaihpiohccbaa
open Go.ChangeShapes Go.WideShapes Go.ChangeAt Go.RowKit

theorem l_own : ownKnob Try.prog.godebug = none := by kernel_rfl
theorem l_laidOut : laidOutB Try.prog = true := by kernel_rfl

theorem byte_of_wf {a : Int} (h : (Lit.int .u8 a).wf = true) : ∃ y : UInt8, a = (y.toNat : Int) := by
  have hb := bounds_u8 h
  refine ⟨UInt8.ofNat a.toNat, ?_⟩
  simp
  omega

end Go.Proofs.Ytjfaihpiohccbaa

namespace Go.Proofs.Ytjfaihpiohccbaa
open Go.ChangeShapes Go.WideShapes Go.ChangeAt Go.RowKit

set_option maxRecDepth 100000 in
theorem diskFronts_lifted (os : Os) (started : os.Started) (H : Type) (enc : TypeId × Value → H) :
    ReturnsInHanded {} Try.checked os 5 .any (Rows.diskFrontsSpec.pre6 enc Try.prog Try.f5 Rows.diskFrontsRow.domain false) (Rows.diskFrontsSpec.post enc Try.prog Try.f5 false true false false) := by
  refine returnsInHanded_of_change (C := Try.checked) l_own started (by kernel_rfl) Try.func5
    (ChangeSpec.witness6 (enc := enc) (C := Try.checked) false ⟨#[], #[.agg #[.slice none 0 0, .slice none 0 0, .slice none 0 0, .slice none 0 0, .int .i64 0, .slice none 0 0, .bool false, .int .i64 0], .int .i64 0, .int .i64 0], []⟩ 8 (by kernel_rfl) (by kernel_rfl) (by kernel_rfl) (by kernel_rfl)) ?_
  intro W base args ds gs before hval0 hW hcnd _
  have hval : ∀ (j : Nat) t v, Try.f5.params[j]? = some t → args[j]? = some v → Value.okWide Try.prog W .any base t v := hval0
  have hW' := hW
  obtain ⟨p, q, hA0, hV, rfl, hfz, hnd⟩ := hW
  have hA : DataW.TrodAll enc Try.prog W 0 (fun _ => true) true Try.f5.params.toList args.toList ds p := hA0
  rw [Try.params5] at hA hval
  obtain ⟨v0, vs0, e0, ds0, p0, q0, hargs, rfl, rfl, h0, r0⟩ := trodAll_cons hA
  obtain ⟨v1, vs1, e1, ds1, p1, q1, rfl, rfl, rfl, h1, r1⟩ := trodAll_cons r0
  obtain ⟨v2, vs2, e2, ds2, p2, q2, rfl, rfl, rfl, h2, r2⟩ := trodAll_cons r1
  obtain ⟨rfl, rfl, rfl⟩ := trodAll_nil r2
  obtain rfl : args = #[v0, v1, v2] := by cases args; simp_all
  obtain ⟨rfl, rfl⟩ := trodVars_none hV
  have k0 := h0
  have lt0 : ∀ x ∈ p0, x.block < W.heap.size := by obtain ⟨m, hm⟩ := k0; exact DataW.trod_lt m _ _ _ hm
  obtain ⟨y0, z0, d0⟩ := arg_struct opn_dk Try.underlying26 (hval 0 26 v0 rfl rfl) h0
  have k1 := h1
  have lt1 : ∀ x ∈ p1, x.block < W.heap.size := by obtain ⟨m, hm⟩ := k1; exact DataW.trod_lt m _ _ _ hm
  obtain ⟨a1, rfl⟩ := okWide_int Try.underlying3 (hval 1 3 v1 rfl rfl)
  obtain ⟨y1, z1, d1⟩ := arg_cell opn_int rfl h1
  have k2 := h2
  have lt2 : ∀ x ∈ p2, x.block < W.heap.size := by obtain ⟨m, hm⟩ := k2; exact DataW.trod_lt m _ _ _ hm
  obtain ⟨a2, rfl⟩ := okWide_int Try.underlying3 (hval 2 3 v2 rfl rfl)
  obtain ⟨y2, z2, d2⟩ := arg_cell opn_int rfl h2
  clear hA0 hval0
  refine ((fronts_law y0 y1 y2).2 (fun _ => True) W _ (by simp only [dreps]; exact ⟨_, _, rfl, d0 _, ⟨_, _, rfl, d1 _, ⟨_, _, rfl, d2 _, rfl⟩⟩⟩)).mono fun e W' ⟨bel, r, he, hr⟩ => ?_
  subst he
  obtain ⟨u, rfl, hu⟩ := hr
  simp only [drep] at hu
  subst hu
  exact ⟨_, rfl, _, _, _, [], _, [], hW', trodAll_mk1 (shut_bool Try.underlying4 _), (trodAll_cons_mk (Below.trod l_laidOut (by kernel_rfl) (of_decide_eq_true (by kernel_rfl)) k0 bel lt0) (trodAll_cons_mk (Below.trod l_laidOut (by kernel_rfl) (of_decide_eq_true (by kernel_rfl)) k1 bel lt1) (trodAll_cons_mk (Below.trod l_laidOut (by kernel_rfl) (of_decide_eq_true (by kernel_rfl)) k2 bel lt2) trodAll_mk0))), rfl, bel.frame _, fun h => by cases h⟩

theorem diskFronts_over : Rows.diskFrontsRow.holds Try.pinned (OpenSpec.ofChange Rows.diskFrontsSpec) :=
  OpenClaim.holds_of_wide 5 Try.f5 rfl rfl rfl rfl rfl rfl rfl ⟨rfl, rfl, rfl, rfl, rfl⟩ rfl rfl rfl rfl rfl (by kernel_rfl) Try.func5 (by kernel_rfl)
    (of_decide_eq_true (by kernel_rfl)) (by unfold Func.isWrapper; first | (rw [if_pos (by decide +kernel)]; kernel_rfl) | (rw [if_neg (by decide +kernel)]; exact ⟨rfl, rfl⟩))
    (fun os started H enc _ => diskFronts_lifted os started H enc)

/-- DiskFronts holds as it is stated. -/
theorem diskFronts_holds : Rows.DiskFrontsSaid := diskFronts_over
#print axioms diskFronts_holds

end Go.Proofs.Ytjfaihpiohccbaa
