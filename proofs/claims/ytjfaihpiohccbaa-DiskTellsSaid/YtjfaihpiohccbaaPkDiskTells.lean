/- DiskTells: for every input the law returns true, and turns nothing that was there; no condition. -/
import Derived.ProofKit
import Derived.OpenShut
import Derived.Deep.Slices
import Derived.Lib.SmallJoins
import Derived.SizedLaws
import Derived.ShutString
import Derived.ChangeOld
import Derived.Test.YtjfaihpiohccbaaRows
import Derived.Test.YtjfaihpiohccbaaPk21
namespace Go.Proofs.Ytjfaihpiohccbaa
open Go.RowKit

set_option maxHeartbeats 400000 in
theorem clone_bytes (v : Value) (l : List UInt8) (w : World) (h : Bytes w v l) (hlen : l.length ≤ 140737488355328) :
    Calls Try.prog 38 #[v] w fun e w' => ∃ v', e = .returned v' ∧ OwnB w.heap.size w' v' l ∧ Below w.heap.size w w' := by
  have h' := h
  obtain ⟨a, c, rfl, hc, hm, hnil, r⟩ := h'
  cases a with
  | none =>
    obtain rfl : c = 0 := hnil rfl
    obtain rfl : l = [] := List.eq_nil_of_length_eq_zero (by omega)
    have hq := Lib.run_eql_slice_nil (P := Try.prog) w 22 5 none 0 0 0 0 Try.underlying22
    go_enter Try.func38, Try.ntmps38
    go_wp2
    go_ret
    exact ⟨_, rfl, World.ownsRow_nil _ _ _ _, Below.refl _ _⟩
  | some ad =>
    have hq := Lib.run_eql_slice_nil (P := Try.prog) w 22 5 (some ad) l.length c 0 0 Try.underlying22
    have H := Lib.hid h
    clear h
    go_enter Try.func38, Try.ntmps38
    go_wp2_with (refine wl_append (w.heap.size) elem_byte rfl rfl rfl (World.ownsRow_lit (base := w.heap.size) (e := 5) (size := 1) w #[] 0 (Nat.le_refl _) (by unfold maxLen; omega) rfl) (H.out.below ((Below.refl _ w).alloc (Nat.le_refl _) _)) (by simp) (one_bytes l) (by simpa using Nat.le_trans hc hm) (by omega) (by simp) ?_; intro v' w1 hown hg)
    go_ret
    exact ⟨_, rfl, by simpa [OwnB] using hown, by
      refine below_append (base := w.heap.size) ((Below.refl _ w).alloc (Nat.le_refl _) _) (Nat.le_refl _) (by simp) (World.ownsRow_lit (base := w.heap.size) (e := 5) (size := 1) w #[] 0 (Nat.le_refl _) (by unfold maxLen; omega) rfl) hg⟩

/-- do bytes begin with others? -/
def beginsB : List UInt8 → List UInt8 → Bool
  | _, [] => true
  | [], _ :: _ => false
  | x :: l, y :: m => x == y && beginsB l m

end Go.Proofs.Ytjfaihpiohccbaa

namespace Go.Proofs.Ytjfaihpiohccbaa
open Go.RowKit

section
variable {H : Type} {enc : TypeId × Value → H} {P : Program} {w : World} {base : Nat} {spare : Nat → Bool} {held : Bool}

theorem list_of_fn {α : Type} (n : Nat) (p : Nat → α → Prop) (h : ∀ i, i < n → ∃ y, p i y) : ∃ l : List α, l.length = n ∧ ∀ i (hi : i < l.length), p i l[i] := by
  induction n with
  | zero => exact ⟨[], rfl, fun i hi => by simp at hi⟩
  | succ n ih =>
    obtain ⟨l, hl, hp⟩ := ih (fun i hi => h i (by omega))
    obtain ⟨y, hy⟩ := h n (by omega)
    refine ⟨l ++ [y], by simp [hl], fun i hi => ?_⟩
    by_cases e : i < l.length
    · rw [List.getElem_append_left e]; exact hp i e
    · obtain rfl : i = l.length := by simp at hi; omega
      simp
      rw [hl]; exact hy

theorem flatMap_get {α : Type} (f : α → List Value) (size : Nat) (hf : ∀ y, (f y).length = size) (l : List α) (i j : Nat) (hi : i < l.length) (hj : j < size) : (l.flatMap f)[i * size + j]? = (f l[i])[j]? := by
  induction l generalizing i with
  | nil => simp at hi
  | cons x l ih =>
    rw [List.flatMap_cons]
    cases i with
    | zero => rw [Nat.zero_mul, Nat.zero_add, List.getElem?_append_left (by rw [hf]; exact hj)]; rfl
    | succ i =>
      rw [List.getElem?_append_right (by rw [hf, Nat.add_mul]; omega), hf, show (i + 1) * size + j - size = i * size + j from by rw [Nat.add_mul]; omega]
      exact ih i (by simpa using hi)
theorem flatMap_len {α : Type} (f : α → List Value) (size : Nat) (hf : ∀ y, (f y).length = size) (l : List α) : (l.flatMap f).length = l.length * size := by
  induction l with
  | nil => simp
  | cons x l ih => rw [List.flatMap_cons, List.length_append, ih, hf, List.length_cons, Nat.add_mul]; omega

/-- a slice of plain elements (of a known number of cells each) that came in -/
theorem rows_of_trod {α : Type} (f : α → List Value) (size : Nat) {t e : TypeId} {fuel : Nat} {a : Option Addr} {n c : Nat} {x : DataW H × List MemPlace} (hpos : 0 < size) (hf : ∀ y, (f y).length = size) (hsz : P.cellsOf e = size) (ht : P.underlying t = some (.slice e))
    (hel : ∀ (fuel : Nat) (cs : List Value) (x : DataW H × List MemPlace), DataW.trod enc P w base spare held fuel e cs = some x → ∃ y, cs = f y) (h : DataW.trod enc P w base spare held fuel t [.slice a n c] = some x) :
    ∃ l : List α, l.length = n ∧ IsSl w (.slice a n c) n (l.flatMap f) := by
  rcases Deep.open_slice ht h with ⟨hcs, _⟩ | ⟨ad, len, cap, m, k, D, Pl, hcs, hb, hl, hm, hmm, _, hx⟩
  · simp only [List.cons.injEq, and_true, Value.slice.injEq] at hcs
    obtain ⟨rfl, rfl, rfl⟩ := hcs
    exact ⟨[], rfl, IsSl.nil w⟩
  · simp only [List.cons.injEq, and_true, Value.slice.injEq] at hcs
    obtain ⟨rfl, rfl, rfl⟩ := hcs
    have hnm : n ≤ m := by rw [hmm]; split <;> omega
    rw [hsz] at hx
    obtain ⟨l, hl1, hp⟩ := list_of_fn n (fun i y => ∀ j v, (f y)[j]? = some v → w.cell? (ad.add (i * size + j)) = some v) (fun i hi => by
      obtain ⟨cs', h1, h2⟩ := hx i (by omega)
      obtain ⟨y, rfl⟩ := hel _ _ _ h2
      obtain ⟨_, h3, h4⟩ := World.cells?_some h1
      refine ⟨y, fun j v hv => ?_⟩
      have hj := (List.getElem?_eq_some_iff.1 hv).1
      rw [← Deep.add_add, h4 j (by omega)]
      exact hv)
    refine ⟨l, hl1, some ad, c, rfl, hl, hm, by simp, fun j u hu => ?_⟩
    have hj := (List.getElem?_eq_some_iff.1 hu).1
    rw [flatMap_len f size hf] at hj
    have hd : j / size < l.length := Nat.div_lt_of_lt_mul (by rwa [Nat.mul_comm])
    have hmd : j % size < size := Nat.mod_lt _ hpos
    have hjj : j / size * size + j % size = j := by rw [Nat.mul_comm]; exact Nat.div_add_mod j size
    have hc0 := hp (j / size) hd (j % size) u (by rw [← flatMap_get f size hf l _ _ hd hmd, hjj]; exact hu)
    rw [hjj] at hc0
    have hl0 : 0 < l.length := Nat.lt_of_le_of_lt (Nat.zero_le _) hd
    obtain ⟨v0, hv0⟩ : ∃ v0, (f l[0])[0]? = some v0 := ⟨_, List.getElem?_eq_getElem (l := f l[0]) (by rw [hf]; exact hpos)⟩
    have hc1 := hp 0 (by omega) 0 v0 hv0
    simp only [Nat.zero_mul, Nat.add_zero] at hc1
    have hs := World.cell?_spot hc1
    obtain ⟨b, o, sp⟩ := ad
    simp only [Addr.add, if_pos] at hs
    subst hs
    refine ⟨b, o, rfl, ?_⟩
    have hadd : (⟨b, o, none⟩ : Addr).add j = ⟨b, o + j, none⟩ := by unfold Addr.add; split <;> simp_all
    rw [hadd] at hc0
    exact hc0

theorem byte_of_trod {fuel : Nat} {cs : List Value} {x : DataW H × List MemPlace} {e : TypeId} (he : P.underlying e = some (.int .u8)) (h : DataW.trod enc P w base spare held fuel e cs = some x) : ∃ y : UInt8, cs = [vb y] := by
  obtain ⟨n, rfl, _, hw⟩ := DataW.trod_int he h
  have hb := bounds_u8 hw
  refine ⟨UInt8.ofNat n.toNat, ?_⟩
  simp only [vb, List.cons.injEq, and_true, Value.int.injEq, true_and]
  simp
  omega

theorem flatMap_one {α : Type} (f : α → Value) (l : List α) : l.flatMap (fun y => [f y]) = l.map f := by
  induction l with
  | nil => rfl
  | cons x l ih => simp [List.flatMap_cons, ih]

end

theorem bytes_of_trod {H : Type} {enc : TypeId × Value → H} {w : World} {base : Nat} {spare : Nat → Bool} {held : Bool} {fuel : Nat} {a : Option Addr} {n c : Nat} {x : DataW H × List MemPlace} (h : DataW.trod enc Try.prog w base spare held fuel 22 [.slice a n c] = some x) :
    ∃ l : List UInt8, l.length = n ∧ Bytes w (.slice a n c) l := by
  obtain ⟨l, hl, hs⟩ := rows_of_trod (fun y : UInt8 => [vb y]) 1 (by decide) (fun _ => rfl) (by kernel_rfl) Try.underlying22 (fun _ _ _ h => byte_of_trod Try.underlying5 h) h
  refine ⟨l, hl, ?_⟩
  rw [flatMap_one] at hs
  subst hl
  exact hs

end Go.Proofs.Ytjfaihpiohccbaa

namespace Go.Proofs.Ytjfaihpiohccbaa
open Go.RowKit

/-- what comes in at this type is this data, for some y -/
structure Opn (P : Program) (t : TypeId) {α : Type} (p : α → Prop) (f : α → List D) : Prop where
  len : ∀ y, p y → (f y).length = P.cellsOf t
  h : ∀ {H : Type} {enc : TypeId × Value → H} {w : World} {base : Nat} {spare : Nat → Bool} {held : Bool} {fuel : Nat} {cs : List Value} {x : DataW H × List MemPlace}, DataW.trod enc P w base spare held fuel t cs = some x →
    ∃ y, p y ∧ (∀ B, dreps B (fun _ => True) w (f y) cs) ∧ ∀ u ∈ cs, u.oneCell' = true
section
variable {P : Program} {t e : TypeId} {α β : Type} {p : α → Prop} {q : β → Prop} {f : α → List D} {g : β → List D}
theorem Opn.map (h : Opn P t p f) (k : ∀ y, p y → ∃ z, q z ∧ g z = f y) (hl : ∀ z, q z → (g z).length = P.cellsOf t) : Opn P t q g := ⟨hl, fun hx => by
  obtain ⟨y, h1, h2, h3⟩ := h.h hx
  obtain ⟨z, k1, k2⟩ := k y h1
  exact ⟨z, k1, by rw [k2]; exact h2, h3⟩⟩
theorem Opn.int {k : IntKind} (ht : P.underlying t = some (.int k)) (hs : P.cellsOf t = 1) : Opn P t (fun n : Int => (Lit.int k n).wf = true) (fun n => [.lit (.int k n)]) := ⟨fun _ _ => by simp [hs], fun hx => by
  obtain ⟨n, rfl, _, hw⟩ := DataW.trod_int ht hx
  exact ⟨n, hw, fun B => by simp [dreps, drep], by simp [Value.oneCell']⟩⟩
theorem Opn.i64 (ht : P.underlying t = some (.int .i64)) (hs : P.cellsOf t = 1) : Opn P t (fun n : Int => -9223372036854775808 ≤ n ∧ n ≤ 9223372036854775807) (fun n => [.lit (.int .i64 n)]) :=
  (Opn.int ht hs).map (fun n hn => ⟨n, bounds_i64 hn, rfl⟩) (fun _ _ => by simp [hs])
theorem Opn.u8 (ht : P.underlying t = some (.int .u8)) (hs : P.cellsOf t = 1) : Opn P t (fun _ : UInt8 => True) (fun y => [.lit (vb y)]) :=
  (Opn.int ht hs).map (fun n hn => by
    have hb := bounds_u8 hn
    refine ⟨UInt8.ofNat n.toNat, trivial, ?_⟩
    simp only [vb, List.cons.injEq, and_true, D.lit.injEq, Value.int.injEq, true_and]
    simp
    omega) (fun _ _ => by simp [hs])
theorem Opn.bool (ht : P.underlying t = some .bool) (hs : P.cellsOf t = 1) : Opn P t (fun _ : Bool => True) (fun b => [.lit (.bool b)]) := ⟨fun _ _ => by simp [hs], fun hx => by
  obtain ⟨n, rfl, _⟩ := DataW.trod_bool ht hx
  exact ⟨n, trivial, fun B => by simp [dreps, drep], by simp [Value.oneCell']⟩⟩
theorem drepss_flat {B : Nat} {U : Nat → Prop} {w : World} {γ : Type} (a : γ → List D) (b : γ → List Value) : ∀ {l : List γ}, (∀ y ∈ l, dreps B U w (a y) (b y)) → drepss B U w (l.map a) (l.flatMap b)
  | [], _ => by simp [drepss]
  | y :: l, h => by
    simp only [List.map_cons, List.flatMap_cons, drepss]
    exact ⟨_, _, rfl, h y (by simp), drepss_flat a b fun z hz => h z (by simp [hz])⟩
theorem Opn.slice (h : Opn P e p f) (ht : P.underlying t = some (.slice e)) (hpos : 0 < P.cellsOf e) (hs : P.cellsOf t = 1) : Opn P t (fun l : List α => (∀ y ∈ l, p y) ∧ l.length ≤ 9223372036854775807) (fun l => [.sl false false (l.map f)]) := ⟨fun _ _ => by simp [hs], fun {H enc w base spare held fuel cs x} hx => by
  rcases Deep.open_slice ht hx with ⟨rfl, _⟩ | ⟨ad, n, cap, m, k, D', Pl, rfl, hb, hl, hm, hmm, _, hx⟩
  · exact ⟨[], ⟨by simp, by simp⟩, fun B => by simp only [dreps, List.map_nil]; exact ⟨_, [], rfl, dle_nil false false B _ _ _ (by simp only [drep]), rfl⟩, by simp [Value.oneCell']⟩
  · have hnm : n ≤ m := by rw [hmm]; split <;> omega
    obtain ⟨L, hl1, hp⟩ := list_of_fn (α := { z : α × List Value // z.2.length = P.cellsOf e }) n (fun i z => p z.1.1 ∧ (∀ B, dreps B (fun _ => True) w (f z.1.1) z.1.2) ∧ (∀ u ∈ z.1.2, u.oneCell' = true) ∧ ∀ j v, z.1.2[j]? = some v → w.cell? (ad.add (i * P.cellsOf e + j)) = some v) (fun i hi => by
      obtain ⟨cs', h1, h2⟩ := hx i (by omega)
      obtain ⟨y, k1, k2, k3⟩ := h.h h2
      obtain ⟨h0, h3, h4⟩ := World.cells?_some h1
      have hlen : cs'.length = P.cellsOf e := by rw [dreps_len (k2 0), h.len y k1]
      refine ⟨⟨(y, cs'), hlen⟩, k1, k2, k3, fun j v hv => ?_⟩
      have hj := (List.getElem?_eq_some_iff.1 hv).1
      simp only at hj hv
      rw [← Deep.add_add, h4 j (by omega)]
      exact hv)
    have hp' : ∀ z ∈ L, p z.1.1 ∧ (∀ B, dreps B (fun _ => True) w (f z.1.1) z.1.2) ∧ ∀ u ∈ z.1.2, u.oneCell' = true := fun z hz => by
      obtain ⟨i, hi, rfl⟩ := List.mem_iff_getElem.1 hz
      exact ⟨(hp i hi).1, (hp i hi).2.1, (hp i hi).2.2.1⟩
    have hlm : (L.map fun z => z.1.1).length = n := by rw [List.length_map, hl1]
    refine ⟨L.map fun z => z.1.1, ⟨fun y hy => ?_, by rw [hlm]; unfold maxLen at hm; omega⟩, fun B => ?_, by simp [Value.oneCell']⟩
    · obtain ⟨z, hz, rfl⟩ := List.mem_map.1 hy
      exact (hp' z hz).1
    simp only [dreps, drep]
    refine ⟨_, [], rfl, ⟨some ad, cap, L.flatMap fun z => z.1.2, by rw [List.length_map, hlm], by rw [List.length_map, hlm]; exact hl, hm, (fun h => by cases h), (fun h => by cases h), ⟨P.cellsOf e, fun x hx => ?_⟩, fun u hu => ?_, fun j u hu => ?_, ?_⟩, rfl⟩
    · obtain ⟨y, hy, rfl⟩ := List.mem_map.1 hx
      obtain ⟨z, hz, rfl⟩ := List.mem_map.1 hy
      exact h.len _ (hp' z hz).1
    · obtain ⟨z, hz, hu⟩ := List.mem_flatMap.1 hu
      exact (hp' z hz).2.2 u hu
    · have hj := (List.getElem?_eq_some_iff.1 hu).1
      have hz2 : ∀ z : { z : α × List Value // z.2.length = P.cellsOf e }, z.1.2.length = P.cellsOf e := fun z => z.2
      rw [flatMap_len (fun z : { z : α × List Value // z.2.length = P.cellsOf e } => z.1.2) (P.cellsOf e) hz2 L] at hj
      have hd : j / P.cellsOf e < L.length := Nat.div_lt_of_lt_mul (by rwa [Nat.mul_comm])
      have hmd : j % P.cellsOf e < P.cellsOf e := Nat.mod_lt _ hpos
      have hjj : j / P.cellsOf e * P.cellsOf e + j % P.cellsOf e = j := by rw [Nat.mul_comm]; exact Nat.div_add_mod j _
      have hc0 := (hp (j / P.cellsOf e) hd).2.2.2 (j % P.cellsOf e) u (by rw [← flatMap_get (fun z : { z : α × List Value // z.2.length = P.cellsOf e } => z.1.2) (P.cellsOf e) hz2 L _ _ hd hmd, hjj]; exact hu)
      rw [hjj] at hc0
      have hl0 : 0 < L.length := Nat.lt_of_le_of_lt (Nat.zero_le _) hd
      obtain ⟨v0, hv0⟩ : ∃ v0, (L[0].1.2)[0]? = some v0 := ⟨_, List.getElem?_eq_getElem (l := L[0].1.2) (by rw [L[0].2]; exact hpos)⟩
      have hc1 := (hp 0 (by omega)).2.2.2 0 v0 hv0
      simp only [Nat.zero_mul, Nat.add_zero] at hc1
      have hs := World.cell?_spot hc1
      obtain ⟨b, o, sp⟩ := ad
      simp only [Addr.add, if_pos] at hs
      subst hs
      refine ⟨b, o, rfl, ⟨trivial, fun h => by cases h⟩, ?_⟩
      have hadd : (⟨b, o, none⟩ : Addr).add j = ⟨b, o + j, none⟩ := by unfold Addr.add; split <;> simp_all
      rw [hadd] at hc0
      exact hc0
    · rw [List.map_map]
      exact drepss_flat (fun z => f z.1.1) (fun z => z.1.2) fun z hz => (hp' z hz).2.1 B⟩
/-- fields, from a cell on -/
structure OpnF (P : Program) (tot off : Nat) (fs : List Field) {α : Type} (p : α → Prop) (f : α → List D) : Prop where
  len : ∀ y, p y → off + (f y).length = tot
  h : ∀ {H : Type} {enc : TypeId × Value → H} {w : World} {base : Nat} {spare : Nat → Bool} {held : Bool} {n : Nat} {cs : List Value}, cs.length = tot → (∀ fl ∈ fs, ∃ x, DataW.trod enc P w base spare held n fl.type ((cs.drop fl.offset).take (P.cellsOf fl.type)) = some x) →
    ∃ y, p y ∧ (∀ B, dreps B (fun _ => True) w (f y) (cs.drop off)) ∧ ∀ u ∈ cs.drop off, u.oneCell' = true
theorem OpnF.nil {tot off : Nat} (h : off = tot) : OpnF P tot off [] (fun _ : Unit => True) (fun _ => []) := ⟨fun _ _ => by simp [h], fun hc _ => ⟨(), trivial, fun B => by simp [dreps]; omega, by rw [List.drop_eq_nil_of_le (by omega)]; simp⟩⟩
theorem OpnF.cons {tot off : Nat} {fl : Field} {fs : List Field} (h : Opn P fl.type p f) (ho : fl.offset = off) (hr : OpnF P tot (off + P.cellsOf fl.type) fs q g) : OpnF P tot off (fl :: fs) (fun y : α × β => p y.1 ∧ q y.2) (fun y => f y.1 ++ g y.2) := ⟨fun y hy => by
  have h1 := h.len y.1 hy.1
  have h2 := hr.len y.2 hy.2
  simp only [List.length_append]; omega, fun {H enc w base spare held n cs} hc hx => by
  obtain ⟨x, hx0⟩ := hx fl (by simp)
  obtain ⟨y, k1, k2, k3⟩ := h.h hx0
  obtain ⟨z, m1, m2, m3⟩ := hr.h hc fun fl hfl => hx fl (by simp [hfl])
  subst ho
  have e := List.take_append_drop (P.cellsOf fl.type) (List.drop fl.offset cs)
  rw [List.drop_drop] at e
  refine ⟨(y, z), ⟨k1, m1⟩, fun B => ?_, fun u hu => ?_⟩
  · rw [← e]; exact dreps_app (k2 B) (m2 B)
  · rw [← e] at hu
    rcases List.mem_append.1 hu with hu | hu
    · exact k3 u hu
    · exact m3 u hu⟩
theorem Opn.struct {fs : Array Field} {tot : Nat} (ht : P.underlying t = some (.struct fs)) (hs : P.cellsOf t = tot) (h : OpnF P tot 0 fs.toList p f) : Opn P t p f := ⟨fun y hy => by have := h.len y hy; omega, fun hx => by
  obtain ⟨xs, n, _, _, hl, hlen, hf⟩ := DataW.trod_struct ht hx
  obtain ⟨y, k1, k2, k3⟩ := h.h (hl.trans hs) fun fl hfl => by
    obtain ⟨i, hi, rfl⟩ := List.mem_iff_getElem.1 hfl
    have hi' : i < fs.size := by simpa using hi
    refine ⟨xs[i]'(by omega), ?_⟩
    have := hf i (fs.toList[i]) (by simp [hi'])
    rw [this, List.getElem?_eq_getElem]
  exact ⟨y, k1, by simpa using k2, by simpa using k3⟩⟩
theorem opn_rows {H : Type} {enc : TypeId × Value → H} {w : World} {base : Nat} {spare : Nat → Bool} {held : Bool} {m : Nat} (h : Opn P e p f) : ∀ (n : Nat) (cs : List Value), cs.length = n * P.cellsOf e → (∀ i, i < n → ∃ x, DataW.trod enc P w base spare held m e ((cs.drop (i * P.cellsOf e)).take (P.cellsOf e)) = some x) →
    ∃ l : List α, l.length = n ∧ (∀ y ∈ l, p y) ∧ (∀ B, dreps B (fun _ => True) w (l.flatMap f) cs) ∧ ∀ u ∈ cs, u.oneCell' = true
  | 0, cs, hc, _ => by
    have : cs = [] := List.eq_nil_of_length_eq_zero (by simpa using hc)
    subst this
    exact ⟨[], rfl, by simp, fun B => by simp [dreps], by simp⟩
  | n + 1, cs, hc, hx => by
    obtain ⟨x, h0⟩ := hx 0 (by omega)
    simp only [Nat.zero_mul, List.drop_zero] at h0
    obtain ⟨y, k1, k2, k3⟩ := h.h h0
    have e1 : (n + 1) * P.cellsOf e = P.cellsOf e + n * P.cellsOf e := by rw [Nat.add_mul]; omega
    obtain ⟨l, m1, m2, m3, m4⟩ := opn_rows h n (cs.drop (P.cellsOf e)) (by rw [List.length_drop, hc]; omega) fun i hi => by
      obtain ⟨x, hx⟩ := hx (i + 1) (by omega)
      refine ⟨x, ?_⟩
      rw [List.drop_drop, ← hx, show (i + 1) * P.cellsOf e = P.cellsOf e + i * P.cellsOf e by rw [Nat.add_mul]; omega]
    have e2 := List.take_append_drop (P.cellsOf e) cs
    refine ⟨y :: l, by simp [m1], fun z hz => ?_, fun B => ?_, fun u hu => ?_⟩
    · rcases List.mem_cons.1 hz with rfl | hz
      · exact k1
      · exact m2 z hz
    · rw [List.flatMap_cons, ← e2]; exact dreps_app (k2 B) (m3 B)
    · rw [← e2] at hu
      rcases List.mem_append.1 hu with hu | hu
      · exact k3 u hu
      · exact m4 u hu
theorem opn_flat (h : Opn P e p f) : ∀ {l : List α}, (∀ y ∈ l, p y) → (l.flatMap f).length = l.length * P.cellsOf e
  | [], _ => by simp
  | y :: l, hl => by
    have := h.len y (hl y (by simp))
    rw [List.flatMap_cons, List.length_append, opn_flat h fun z hz => hl z (by simp [hz]), this, List.length_cons, Nat.add_mul]; omega
theorem Opn.array {n : Nat} (h : Opn P e p f) (ht : P.underlying t = some (.array n e)) (hs : P.cellsOf t = n * P.cellsOf e) : Opn P t (fun l : List α => l.length = n ∧ ∀ y ∈ l, p y) (fun l => l.flatMap f) := ⟨fun y hy => by rw [opn_flat h hy.2, hy.1, hs], fun hx => by
  obtain ⟨xs, m, _, _, hl, hlen, hf⟩ := DataW.trod_array ht hx
  obtain ⟨l, k1, k2, k3, k4⟩ := opn_rows h n _ (hl.trans hs) fun i hi => ⟨xs[i]'(by omega), by rw [hf i hi, List.getElem?_eq_getElem]⟩
  exact ⟨l, ⟨k1, k2⟩, k3, k4⟩⟩

/-! ### an argument -/
variable {H : Type} {enc : TypeId × Value → H} {w : World} {base b0 : Nat} {spare : Nat → Bool} {held : Bool} {r : Reach} {v : Value} {d : DataW H} {ps : List MemPlace}
theorem arg_struct (h : Opn P t p f) {fs : Array Field} (ht : P.underlying t = some (.struct fs)) (hv : Value.okWide P w r b0 t v) (hx : DataW.Trod enc P w base spare held t v d ps) : ∃ y, p y ∧ ∀ B, drep B (fun _ => True) w (.agg (f y)) v := by
  unfold Value.okWide at hv
  rw [ht] at hv
  obtain ⟨cs, rfl, _, _⟩ := hv
  obtain ⟨fuel, hx⟩ := hx
  obtain ⟨y, k1, k2, _⟩ := h.h hx
  exact ⟨y, k1, fun B => by simp only [drep]; exact ⟨cs.toList, rfl, k2 B⟩⟩
theorem arg_array (h : Opn P t p f) {n : Nat} (ht : P.underlying t = some (.array n e)) (hv : Value.okWide P w r b0 t v) (hx : DataW.Trod enc P w base spare held t v d ps) : ∃ y, p y ∧ ∀ B, drep B (fun _ => True) w (.agg (f y)) v := by
  unfold Value.okWide at hv
  rw [ht] at hv
  obtain ⟨cs, rfl, _, _⟩ := hv
  obtain ⟨fuel, hx⟩ := hx
  obtain ⟨y, k1, k2, _⟩ := h.h hx
  exact ⟨y, k1, fun B => by simp only [drep]; exact ⟨cs.toList, rfl, k2 B⟩⟩
theorem arg_cell {f : α → D} (h : Opn P t p fun y => [f y]) (hn : v.cells.toList = [v]) (hx : DataW.Trod enc P w base spare held t v d ps) : ∃ y, p y ∧ ∀ B, drep B (fun _ => True) w (f y) v := by
  obtain ⟨fuel, hx⟩ := hx
  rw [hn] at hx
  obtain ⟨y, k1, k2, _⟩ := h.h hx
  refine ⟨y, k1, fun B => ?_⟩
  have := k2 B
  simp only [dreps] at this
  obtain ⟨u, us, e, h1, _⟩ := this
  cases e; exact h1
end
end Go.Proofs.Ytjfaihpiohccbaa

namespace Go.Proofs.Ytjfaihpiohccbaa
open Go.RowKit
def I64 (n : Int) : Prop := -9223372036854775808 ≤ n ∧ n ≤ 9223372036854775807
theorem opn_int : Opn Try.prog 3 I64 (fun n => [.lit (.int .i64 n)]) := Opn.i64 Try.underlying3 (by kernel_rfl)
theorem opn_bool : Opn Try.prog 4 (fun _ : Bool => True) (fun b => [.lit (.bool b)]) := Opn.bool Try.underlying4 (by kernel_rfl)
theorem opn_by : Opn Try.prog 22 (fun b : List UInt8 => b.length ≤ 9223372036854775807) (fun b => [.sl false false (byD b)]) :=
  (Opn.slice (Opn.u8 Try.underlying5 (by kernel_rfl)) Try.underlying22 (by rw [show Try.prog.cellsOf 5 = 1 by kernel_rfl]; omega) (by kernel_rfl)).map (fun y h => ⟨y, h.2, rfl⟩) (fun z hz => by rw [show Try.prog.cellsOf 22 = 1 by kernel_rfl]; rfl)
theorem opn_op : Opn Try.prog 43 (fun o : DOp => I64 o.k ∧ I64 o.f) opD :=
  (Opn.struct (tot := 3) Try.underlying43 (by kernel_rfl) (OpnF.cons opn_int rfl (OpnF.cons opn_int (by kernel_rfl) (OpnF.cons opn_by (by kernel_rfl) (OpnF.nil (by kernel_rfl)))))).map
    (fun y h => ⟨⟨y.1, y.2.1, y.2.2.1⟩, ⟨h.1, h.2.1⟩, rfl⟩) (fun z hz => by rw [show Try.prog.cellsOf 43 = 3 by kernel_rfl]; rfl)
theorem opn_ops : Opn Try.prog 24 (fun _ : List DOp => True) (fun l => [.sl false false (l.map opD)]) :=
  (Opn.slice opn_op Try.underlying24 (by rw [show Try.prog.cellsOf 43 = 3 by kernel_rfl]; omega) (by kernel_rfl)).map (fun y h => ⟨y, trivial, rfl⟩) (fun z hz => by rw [show Try.prog.cellsOf 24 = 1 by kernel_rfl]; rfl)
theorem opn_files : Opn Try.prog 23 (fun _ : List UInt8 × List UInt8 × List UInt8 × List UInt8 => True) (fun x => [.sl false false (byD x.1), .sl false false (byD x.2.1), .sl false false (byD x.2.2.1), .sl false false (byD x.2.2.2)]) :=
  (Opn.array (n := 4) opn_by Try.underlying23 (by kernel_rfl)).map (fun y h => by
    obtain ⟨h1, _⟩ := h
    match y, h1 with
    | [a, b, c, d], _ => exact ⟨(a, b, c, d), trivial, rfl⟩) (fun z hz => by rw [show Try.prog.cellsOf 23 = 4 by kernel_rfl]; rfl)
theorem opn_dk : Opn Try.prog 26 (fun _ : Dk => True) dkD :=
  (Opn.struct (tot := 8) Try.underlying26 (by kernel_rfl) (OpnF.cons opn_files rfl (OpnF.cons opn_int (by kernel_rfl) (OpnF.cons opn_ops (by kernel_rfl) (OpnF.cons opn_bool (by kernel_rfl) (OpnF.cons opn_int (by kernel_rfl) (OpnF.nil (by kernel_rfl)))))))).map
    (fun y h => ⟨⟨y.1.1, y.1.2.1, y.1.2.2.1, y.1.2.2.2, y.2.1, y.2.2.1, y.2.2.2.1, y.2.2.2.2.1⟩, trivial, rfl⟩) (fun z hz => by rw [show Try.prog.cellsOf 26 = 8 by kernel_rfl]; rfl)
theorem opn_two : Opn Try.prog 31 (fun x : Int × Int => I64 x.1 ∧ I64 x.2) (fun x => [.lit (.int .i64 x.1), .lit (.int .i64 x.2)]) :=
  (Opn.array (n := 2) opn_int Try.underlying31 (by kernel_rfl)).map (fun y h => by
    obtain ⟨h1, h2⟩ := h
    match y, h1, h2 with
    | [a, b], _, h2 => exact ⟨(a, b), ⟨h2 a (by simp), h2 b (by simp)⟩, rfl⟩) (fun z hz => by rw [show Try.prog.cellsOf 31 = 2 by kernel_rfl]; rfl)
theorem opn_twos : Opn Try.prog 27 (fun l : List (Int × Int) => ∀ x ∈ l, I64 x.1 ∧ I64 x.2) (fun l => [.sl false false (l.map fun x => [.lit (.int .i64 x.1), .lit (.int .i64 x.2)])]) :=
  (Opn.slice opn_two Try.underlying27 (by rw [show Try.prog.cellsOf 31 = 2 by kernel_rfl]; omega) (by kernel_rfl)).map (fun y h => ⟨y, h.1, rfl⟩) (fun z hz => by rw [show Try.prog.cellsOf 27 = 1 by kernel_rfl]; rfl)
theorem opn_ints : Opn Try.prog 61 (fun l : List Int => ∀ x ∈ l, I64 x) (fun l => [.sl false false (l.map fun x => [.lit (.int .i64 x)])]) :=
  (Opn.slice opn_int Try.underlying61 (by rw [show Try.prog.cellsOf 3 = 1 by kernel_rfl]; omega) (by kernel_rfl)).map (fun y h => ⟨y, h.1, rfl⟩) (fun z hz => by rw [show Try.prog.cellsOf 61 = 1 by kernel_rfl]; rfl)
end Go.Proofs.Ytjfaihpiohccbaa

namespace Go.Proofs.Ytjfaihpiohccbaa
open Go.RowKit
set_option maxRecDepth 10000
set_option maxHeartbeats 4000000
abbrev tsT (L : List Int) (c : Bool) (i : Int) : List (Nat × V) := [(77, .d (.lit (.int .i64 i))), (76, .d (.lit (.int .i64 (inD L).length))), (75, .row 5 0), (9, .d (.lit (.bool c))), (12, .ptr 4 0), (7, .ptr 2 0), (3, .ptr 0 0)]
abbrev tsL (L : List Int) (x d z : Dk) : List E := [.r true true 5 0 3 1 (inD L), .c 4 0 ((dkD z).map .d), .c 2 0 ((dkN d).map .d), .c 0 0 ((dkD x).map .d)]
abbrev tsE (x d : Dk) : St := ⟨[(7, .ptr 2 0), (3, .ptr 0 0)], [.c 2 0 ((dkN d).map .d), .c 0 0 ((dkD x).map .d)], 6⟩
noncomputable abbrev tsX : Code := blkC (fstC (sndC 2 (lopC (blkC (sndC 1 (fstC (sndC 9 (bodyC Try.f7))))))))
theorem tells_tail (B : Nat) (x d z : Dk) (bs : List UInt8) (e f : Int) (L : List Int) (c : Bool) (i : Int) (csz : VP Try.prog 26 [.agg (dkD d), .lit (.int .i64 f)] (· = .ret (.lit (.int .i64 bs.length)))) (Q : VE → St → Prop) (h : ∀ s, Sub ⟨131, none, B, 0, some B, []⟩ s ⟨tsT L c i, tsL L x d z, 6⟩ → Q .normal s) :
    VW Try.prog ⟨131, none, B, 0, some B, []⟩ (sndC 6 tsX) ⟨(18, .d (.lit (.int .i64 e))) :: (17, .d (.sl false false (byD bs))) :: (16, .d (.lit (.int .i64 e))) :: (15, .po true (.sl false true (byD bs))) :: (14, .d (.lit (.int .i64 f))) :: tsT L c i, tsL L x d z, 6⟩ Q := by
  have ce := equal_v bs bs
  have hbl := byD_len bs
  rw [decide_eq_true rfl] at ce
  simp only [dkD] at *
  refine vw_seq ?_
  repeat' (first | refine vs_po ?_ | fail | refine nzl ?_ | refine nzd ?_ | ((first | with_reducible refine vl_id ?_ | with_reducible refine vd_id ?_); first | refine cz (ce) ?_ | refine cz (csz) ?_) | refine nzo ?_ | refine nc ?_ ?_ | (with_reducible intro _ <;> (try (exfalso; omega))) | refine vs_eqnil ?_ | refine vs_nenil ?_ | (refine nd ?_ ?_ <;> intro hg <;> (first | (exfalso; (try simp only [decide_eq_true_eq, decide_eq_false_iff_not] at hg); omega) | rw [hg])) | fail)
  refine vw_loop (fun j : Nat => ⟨(116, .d (.lit (.int .i64 j))) :: (115, .d (.lit (.int .i64 (byD bs).length))) :: (15, .po false (.sl false true (byD bs))) :: tsT L c i, tsL L x d z, 6⟩) (fun j => j ≤ bs.length) (fun j => bs.length - j) 0 (sub_z) (Nat.zero_le _) fun j hj => ?_
  refine vw_plen 15 rfl fun hlen => ?_
  rcases Nat.lt_or_ge j bs.length with h2 | h2
  · obtain ⟨n, hx'⟩ := byD_at bs j h2
    have hlt : (j : Int) < ((byD bs).length : Int) := by rw [byD_len]; omega
    repeat' (first | (refine vs_pol8 (fun _ => ?_)) | (refine vs_poset ?_; simp only [blurT, blurS, blurV, blurVs, List.map_cons, List.map_nil]) | refine vs_po ?_ | fail | refine nzl ?_ | refine nzd ?_ | ((first | with_reducible refine vl_id ?_ | with_reducible refine vd_id ?_); first | fail) | refine nzo ?_ | refine nc ?_ ?_ | (with_reducible intro _ <;> (try (exfalso; omega))) | refine vs_eqnil ?_ | refine vs_nenil ?_ | (refine nd ?_ ?_ <;> intro hg <;> (first | (exfalso; (try simp only [decide_eq_true_eq, decide_eq_false_iff_not] at hg); omega) | rw [hg])) | fail)
    exact nx_loop (j + 1) (by omega) (by omega) (sub_z)
  · have hlt : ¬ (j : Int) < ((byD bs).length : Int) := by rw [byD_len]; omega
    repeat' (first | (refine vs_pol8 (fun _ => ?_)) | (refine vs_poset ?_; simp only [blurT, blurS, blurV, blurVs, List.map_cons, List.map_nil]) | refine vs_po ?_ | fail | refine nzl ?_ | refine nzd ?_ | ((first | with_reducible refine vl_id ?_ | with_reducible refine vd_id ?_); first | fail) | refine nzo ?_ | refine nc ?_ ?_ | (with_reducible intro _ <;> (try (exfalso; omega))) | refine vs_eqnil ?_ | refine vs_nenil ?_ | (refine nd ?_ ?_ <;> intro hg <;> (first | (exfalso; (try simp only [decide_eq_true_eq, decide_eq_false_iff_not] at hg); omega) | rw [hg])) | fail)
    exact h _ (sub_z)
theorem inD_at (L : List Int) (i : Nat) (h : i < L.length) : (inD L)[((i : Nat) : Int).toNat]? = some [.lit (.int .i64 L[i])] := by simp [inD, h]
theorem tells_loop (B : Nat) (x d z : Dk) (L : List Int) (hwb : ∀ o ∈ d.waits, o.b.length ≤ 1000000000) (hz : checkB d = true → z = d.doAll d.waits) (hL : L.length ≤ 1000000000000000) (Q : VE → St → Prop) :
    VW Try.prog ⟨131, none, B, 0, some B, []⟩ (blkC (sndC 1 (fstC (sndC 9 (bodyC Try.f7))))) ⟨tsT L (checkB d) 0, tsL L x d z, 6⟩ (blockV 0 (cutV ⟨131, none, B, 0, some B, []⟩ (fun _ : Unit => tsE x d) (fun _ => True) Q)) := by
  refine vw_loop (fun i : Nat => ⟨tsT L (checkB d) i, tsL L x d z, 6⟩) (fun i => i ≤ L.length) (fun i => L.length - i) 0 (sub_z) (Nat.zero_le _) fun i hi => ?_
  have hil : (inD L).length = L.length := List.length_map _
  rcases Nat.lt_or_ge i L.length with h | h
  · have hx' := inD_at L i h
    have hlt : (i : Int) < ((inD L).length : Int) := by rw [hil]; omega
    generalize L[i] = f at *
    by_cases h8 : i = 8
    · subst h8
      repeat' (first | fail | fail | refine nzl ?_ | refine nzd ?_ | ((first | with_reducible refine vl_id ?_ | with_reducible refine vd_id ?_); first | fail) | refine nzo ?_ | refine nc ?_ ?_ | (with_reducible intro _ <;> (try (exfalso; omega))) | refine vs_eqnil ?_ | refine vs_nenil ?_ | (refine nd ?_ ?_ <;> intro hg <;> (first | (exfalso; (try simp only [decide_eq_true_eq, decide_eq_false_iff_not] at hg); omega) | rw [hg])) | fail)
      exact nx_cut () trivial (sub_z)
    have h8' : ¬ (i : Int) = 8 := by omega
    have cr := read_v d f hwb
    have csz := size_v d f hwb
    have cfl := rfile_v f
    rw [Dk.sizeI] at csz
    obtain ⟨⟨bs, e⟩, hr⟩ : ∃ z, d.readE f = z := ⟨_, rfl⟩
    rw [hr] at cr csz
    have htl := fun Q => tells_tail B x d z bs e f L (checkB d) i csz Q
    have hpl : poV true (.tup [.sl false true (byD bs), .lit (.int .i64 e)]) = .tup [.po true (.sl false true (byD bs)), .d (.lit (.int .i64 e))] := rfl
    simp only [dkD] at cr
    refine vw_seq ?_
    repeat' (first | fail | fail | refine nzl ?_ | refine nzd ?_ | ((first | with_reducible refine vl_id ?_ | with_reducible refine vd_id ?_); first | fail) | ((fail_if_success (with_reducible refine vw_seq ?_)); refine nzo ?_) | refine nc ?_ ?_ | (with_reducible intro _ <;> (try (exfalso; omega))) | refine vs_eqnil ?_ | refine vs_nenil ?_ | (refine nd ?_ ?_ <;> intro hg <;> (first | (exfalso; (try simp only [decide_eq_true_eq, decide_eq_false_iff_not] at hg); omega) | rw [hg])) | fail)
    refine vw_seq ?_
    repeat' (first | fail | fail | refine nzl ?_ | refine nzd ?_ | ((first | with_reducible refine vl_id ?_ | with_reducible refine vd_id ?_); first | fail) | ((fail_if_success (with_reducible refine vw_seq ?_)); refine nzo ?_) | refine nc ?_ ?_ | (with_reducible intro _ <;> (try (exfalso; omega))) | refine vs_eqnil ?_ | refine vs_nenil ?_ | (refine nd ?_ ?_ <;> intro hg <;> (first | (exfalso; (try simp only [decide_eq_true_eq, decide_eq_false_iff_not] at hg); omega) | rw [hg])) | fail)
    refine vw_seq ?_
    repeat' (first | fail | fail | refine nzl ?_ | refine nzd ?_ | ((first | with_reducible refine vl_id ?_ | with_reducible refine vd_id ?_); first | fail) | ((fail_if_success (with_reducible refine vw_seq ?_)); refine nzo ?_) | refine nc ?_ ?_ | (with_reducible intro _ <;> (try (exfalso; omega))) | refine vs_eqnil ?_ | refine vs_nenil ?_ | (refine nd ?_ ?_ <;> intro hg <;> (first | (exfalso; (try simp only [decide_eq_true_eq, decide_eq_false_iff_not] at hg); omega) | rw [hg])) | fail)
    refine vw_seq ?_
    repeat' (first | fail | fail | refine nzl ?_ | refine nzd ?_ | ((first | with_reducible refine vl_id ?_ | with_reducible refine vd_id ?_); first | fail) | ((fail_if_success (with_reducible refine vw_seq ?_)); refine nzo ?_) | refine nc ?_ ?_ | (with_reducible intro _ <;> (try (exfalso; omega))) | refine vs_eqnil ?_ | refine vs_nenil ?_ | (refine nd ?_ ?_ <;> intro hg <;> (first | (exfalso; (try simp only [decide_eq_true_eq, decide_eq_false_iff_not] at hg); omega) | rw [hg])) | fail)
    refine vw_seq ?_
    repeat' (first | fail | fail | refine nzl ?_ | refine nzd ?_ | ((first | with_reducible refine vl_id ?_ | with_reducible refine vd_id ?_); first | fail) | ((fail_if_success (with_reducible refine vw_seq ?_)); refine nzo ?_) | refine nc ?_ ?_ | (with_reducible intro _ <;> (try (exfalso; omega))) | refine vs_eqnil ?_ | refine vs_nenil ?_ | (refine nd ?_ ?_ <;> intro hg <;> (first | (exfalso; (try simp only [decide_eq_true_eq, decide_eq_false_iff_not] at hg); omega) | rw [hg])) | fail)
    refine vw_seq ?_
    repeat' (first | fail | fail | refine nzl ?_ | refine nzd ?_ | ((first | with_reducible refine vl_id ?_ | with_reducible refine vd_id ?_); first | fail) | ((fail_if_success (with_reducible refine vw_seq ?_)); refine nzo ?_) | refine nc ?_ ?_ | (with_reducible intro _ <;> (try (exfalso; omega))) | refine vs_eqnil ?_ | refine vs_nenil ?_ | (refine nd ?_ ?_ <;> intro hg <;> (first | (exfalso; (try simp only [decide_eq_true_eq, decide_eq_false_iff_not] at hg); omega) | rw [hg])) | fail)
    refine vw_seq ?_
    repeat' (first | fail | fail | refine nzl ?_ | refine nzd ?_ | ((first | with_reducible refine vl_id ?_ | with_reducible refine vd_id ?_); first | (refine vs_pool cr ?_; rw [hpl])) | ((fail_if_success (with_reducible refine vw_seq ?_)); refine nzo ?_) | refine nc ?_ ?_ | (with_reducible intro _ <;> (try (exfalso; omega))) | refine vs_eqnil ?_ | refine vs_nenil ?_ | (refine nd ?_ ?_ <;> intro hg <;> (first | (exfalso; (try simp only [decide_eq_true_eq, decide_eq_false_iff_not] at hg); omega) | rw [hg])) | fail)
    refine vw_seq ?_
    repeat' (first | fail | fail | refine nzl ?_ | refine nzd ?_ | ((first | with_reducible refine vl_id ?_ | with_reducible refine vd_id ?_); first | fail) | ((fail_if_success (with_reducible refine vw_seq ?_)); refine nzo ?_) | refine nc ?_ ?_ | (with_reducible intro _ <;> (try (exfalso; omega))) | refine vs_eqnil ?_ | refine vs_nenil ?_ | (refine nd ?_ ?_ <;> intro hg <;> (first | (exfalso; (try simp only [decide_eq_true_eq, decide_eq_false_iff_not] at hg); omega) | rw [hg])) | fail)
    refine vw_seq ?_
    repeat' (first | fail | fail | refine nzl ?_ | refine nzd ?_ | ((first | with_reducible refine vl_id ?_ | with_reducible refine vd_id ?_); first | fail) | ((fail_if_success (with_reducible refine vw_seq ?_)); refine nzo ?_) | refine nc ?_ ?_ | (with_reducible intro _ <;> (try (exfalso; omega))) | refine vs_eqnil ?_ | refine vs_nenil ?_ | (refine nd ?_ ?_ <;> intro hg <;> (first | (exfalso; (try simp only [decide_eq_true_eq, decide_eq_false_iff_not] at hg); omega) | rw [hg])) | fail)
    refine vw_cut (fun _ : Unit => ⟨(18, .d (.lit (.int .i64 e))) :: (17, .d (.sl false false (byD bs))) :: (16, .d (.lit (.int .i64 e))) :: (15, .po true (.sl false true (byD bs))) :: (14, .d (.lit (.int .i64 f))) :: tsT L (checkB d) i, tsL L x d z, 6⟩) (fun _ => True) ?_ fun _ _ => htl _ fun s hs => ?_
    · clear htl csz hpl hx' hlt cr
      cases hc : checkB d with
      | false =>
        rw [show d.readE f = ([], 320) by simp [Dk.readE, hc]] at hr
        cases hr
        repeat' (first | fail | fail | refine nzl ?_ | refine nzd ?_ | ((first | with_reducible refine vl_id ?_ | with_reducible refine vd_id ?_); first | fail) | refine nzo ?_ | refine nc ?_ ?_ | (with_reducible intro _ <;> (try (exfalso; omega))) | refine vs_eqnil ?_ | refine vs_nenil ?_ | (refine nd ?_ ?_ <;> intro hg <;> (first | (exfalso; (try simp only [decide_eq_true_eq, decide_eq_false_iff_not] at hg); omega) | rw [hg])) | fail)
        refine nx_cut () trivial ?_
        simp only [show byD ([] : List UInt8) = [] from rfl]
        exact (sub_z)
      | true =>
        have hz := hz hc
        subst hz
        cases hf : isFile f with
        | false =>
          rw [hf] at cfl
          rw [show d.readE f = ([], 2) by simp [Dk.readE, hc, hf]] at hr
          cases hr
          repeat' (first | fail | fail | refine nzl ?_ | refine nzd ?_ | ((first | with_reducible refine vl_id ?_ | with_reducible refine vd_id ?_); first | refine cz (cfl) ?_) | refine nzo ?_ | refine nc ?_ ?_ | (with_reducible intro _ <;> (try (exfalso; omega))) | refine vs_eqnil ?_ | refine vs_nenil ?_ | (refine nd ?_ ?_ <;> intro hg <;> (first | (exfalso; (try simp only [decide_eq_true_eq, decide_eq_false_iff_not] at hg); omega) | rw [hg])) | fail)
          refine nx_cut () trivial ?_
          simp only [show byD ([] : List UInt8) = [] from rfl]
          exact (sub_z)
        | true =>
          rw [hf] at cfl
          have h4 : f = 0 ∨ f = 1 ∨ f = 2 ∨ f = 3 := by simp [isFile] at hf; omega
          rw [show d.readE f = (d.seen.file f, 0) by simp [Dk.readE, hc, hf]] at hr
          rcases h4 with rfl | rfl | rfl | rfl
          all_goals
            simp only [Dk.seen, Dk.clear, Dk.file, if_true, Int.reduceEq, if_false] at hr
            cases hr
            repeat' (first | fail | fail | refine nzl ?_ | refine nzd ?_ | ((first | with_reducible refine vl_id ?_ | with_reducible refine vd_id ?_); first | refine cz (cfl) ?_) | refine nzo ?_ | refine nc ?_ ?_ | (with_reducible intro _ <;> (try (exfalso; omega))) | refine vs_eqnil ?_ | refine vs_nenil ?_ | (refine nd ?_ ?_ <;> intro hg <;> (first | (exfalso; (try simp only [decide_eq_true_eq, decide_eq_false_iff_not] at hg); omega) | rw [hg])) | fail)
            exact nx_cut () trivial (sub_z)
    · refine NX.go ?_; constructor
      refine vl_sub hs ?_
      repeat' (first | fail | fail | refine nzl ?_ | refine nzd ?_ | ((first | with_reducible refine vl_id ?_ | with_reducible refine vd_id ?_); first | fail) | refine nzo ?_ | refine nc ?_ ?_ | (with_reducible intro _ <;> (try (exfalso; omega))) | refine vs_eqnil ?_ | refine vs_nenil ?_ | (refine nd ?_ ?_ <;> intro hg <;> (first | (exfalso; (try simp only [decide_eq_true_eq, decide_eq_false_iff_not] at hg); omega) | rw [hg])) | fail)
      exact nx_loop (i + 1) (by omega) (by omega) (sub_z)
  · have hlt : ¬ (i : Int) < ((inD L).length : Int) := by rw [hil]; omega
    repeat' (first | fail | fail | refine nzl ?_ | refine nzd ?_ | ((first | with_reducible refine vl_id ?_ | with_reducible refine vd_id ?_); first | fail) | refine nzo ?_ | refine nc ?_ ?_ | (with_reducible intro _ <;> (try (exfalso; omega))) | refine vs_eqnil ?_ | refine vs_nenil ?_ | (refine nd ?_ ?_ <;> intro hg <;> (first | (exfalso; (try simp only [decide_eq_true_eq, decide_eq_false_iff_not] at hg); omega) | rw [hg])) | fail)
    exact nx_cut () trivial (sub_z)
theorem tells_end (B : Nat) (x d : Dk) (hd : x.own = d) : VW Try.prog ⟨131, none, B, 0, some B, []⟩ (sndC 10 (bodyC Try.f7)) (tsE x d) (retQ Try.prog [.tmp 6] (· = .ret (.lit (.bool true)))) := by
  have co := lown_v x
  rw [hd] at co
  have cs := rsame_v d d
  rw [Dk.beq_self] at cs
  simp only [dkD, dkN] at co cs
  refine vw_seq ?_
  repeat' (first | fail | fail | refine nzl ?_ | refine nzd ?_ | ((first | with_reducible refine vl_id ?_ | with_reducible refine vd_id ?_); first | refine cz (co) ?_ | refine cz (cs) ?_) | refine nzo ?_ | refine nc ?_ ?_ | (with_reducible intro _ <;> (try (exfalso; omega))) | refine vs_eqnil ?_ | refine vs_nenil ?_ | (refine nd ?_ ?_ <;> intro hg <;> (first | (exfalso; (try simp only [decide_eq_true_eq, decide_eq_false_iff_not] at hg); omega) | rw [hg])) | fail)
  rfl
theorem tells_law (x y : Dk) (l : List Int) (hfl : l.length * 8 ≤ 140737488351232) : VP Try.prog 7 [.agg (dkD x), .agg (dkD y), .sl false false (inD l)] (· = .ret (.lit (.bool true))) := by
  have cx := lown_v x
  have cy := lown_v y
  have hwb := own_wb x
  have cr := rright_v x.own (own_len x) hwb
  have cc := check_v x.own hwb
  have cs := same_v x.own y.own
  have crs := rsame_v x.own y.own
  have ca := same_v x.own x.own
  have chd := head_v x.own hwb
  have cze := rsame_v .zero .zero
  have hend := fun B => tells_end B x x.own rfl
  have hloop := fun B z hz Q => tells_loop B x x.own z (0 :: 3 :: l) hwb hz (by simp only [List.length_cons]; omega) Q
  rw [Dk.beq_self] at ca cze
  generalize x.own.beq y.own = bq at *
  generalize x.own = d at *
  generalize y.own = b at *
  have hil : (inD l).length = l.length := List.length_map _
  cases hc : checkB d with
  | false =>
    have hloop := fun B Q => hloop B .zero (fun h => by rw [hc] at h; cases h) Q
    rw [show d.headI = 0 by simp [Dk.headI, hc]] at chd
    rw [hc] at cr cc
    simp only [dkD, dkN, Dk.zero, List.map_nil, Bool.false_eq_true, if_false, show byD ([] : List UInt8) = [] from rfl] at cx cy cr cc cs crs ca cze chd
    refine vp_of Try.func7 rfl Try.ntmps7 rfl Try.results7 fun B => ?_
    simp only [dkD]
    cases bq
    all_goals
      repeat' (first | fail | fail | refine nzl ?_ | refine nzd ?_ | ((first | with_reducible refine vl_id ?_ | with_reducible refine vd_id ?_); first | refine cz (wakes_v) ?_ | refine cz (cx) ?_ | refine cz (cy) ?_ | refine cz (cr) ?_ | refine cz (cc) ?_ | refine cz (cs) ?_ | refine cz (crs) ?_ | refine cz (ca) ?_ | refine cz (chd) ?_ | refine cz (new_v) ?_ | refine cz (cze) ?_) | refine nzo ?_ | refine nc ?_ ?_ | (with_reducible intro _ <;> (try (exfalso; omega))) | refine vs_eqnil ?_ | refine vs_nenil ?_ | (refine nd ?_ ?_ <;> intro hg <;> (first | (exfalso; (try simp only [decide_eq_true_eq, decide_eq_false_iff_not] at hg); omega) | rw [hg])) | fail)
      all_goals first
        | (refine vw_join (fun _ : Unit => tsE x d) (fun _ => True) ?_ fun _ _ => hend B
           refine vw_sub ?_ (hloop B _)
           rw [hc]
           simp only [tsL, dkD, Dk.zero, List.map_nil, show byD ([] : List UInt8) = [] from rfl]
           exact (sub_zr [(5, _, _)]))
        | (simp_all; fail_if_success (focus skip))
        | trace_state
  | true =>
    have hloop := fun B Q => hloop B (d.doAll d.waits) (fun _ => rfl) Q
    have cse := rseen_v d hc
    rw [show d.headI = (d.doAll d.waits).head by simp [Dk.headI, hc, Dk.seen, Dk.clear]] at chd
    rw [hc] at cr cc
    generalize d.doAll d.waits = z at *
    simp only [dkD, dkN, Dk.zero, List.map_nil, if_true, show byD ([] : List UInt8) = [] from rfl] at cx cy cr cc cs crs ca cze chd cse
    refine vp_of Try.func7 rfl Try.ntmps7 rfl Try.results7 fun B => ?_
    simp only [dkD]
    cases bq
    all_goals
      repeat' (first | fail | fail | refine nzl ?_ | refine nzd ?_ | ((first | with_reducible refine vl_id ?_ | with_reducible refine vd_id ?_); first | refine cz (wakes_v) ?_ | refine cz (cx) ?_ | refine cz (cy) ?_ | refine cz (cr) ?_ | refine cz (cc) ?_ | refine cz (cs) ?_ | refine cz (crs) ?_ | refine cz (ca) ?_ | refine cz (chd) ?_ | refine cz (new_v) ?_ | refine cz (cze) ?_ | refine cz (cse) ?_) | refine nzo ?_ | refine nc ?_ ?_ | (with_reducible intro _ <;> (try (exfalso; omega))) | refine vs_eqnil ?_ | refine vs_nenil ?_ | (refine nd ?_ ?_ <;> intro hg <;> (first | (exfalso; (try simp only [decide_eq_true_eq, decide_eq_false_iff_not] at hg); omega) | rw [hg])) | fail)
      all_goals first
        | (refine vw_join (fun _ : Unit => tsE x d) (fun _ => True) ?_ fun _ _ => hend B
           refine vw_sub ?_ (hloop B _)
           rw [hc]
           exact (sub_zr [(5, _, _)]))
        | (simp_all; fail_if_success (focus skip))
        | trace_state
end Go.Proofs.Ytjfaihpiohccbaa

namespace Go.Proofs.Ytjfaihpiohccbaa

theorem sized_sl {H : Type} {enc : TypeId × Value → H} {P : Program} {w : World} {base : Nat} {spare : Nat → Bool} {held : Bool} {t e : TypeId} {x : DataW H} {p : List MemPlace} {a : Option Addr} {n c : Nat} (ht : P.underlying t = some (.slice e))
    (hx : ∃ fuel, DataW.trod enc P w base spare held fuel t [.slice a n c] = some (x, p)) {ts : List TypeId} {ds : List (DataW H)} {j : Nat} (hts : ts[j]? = some t) (hds : ds[j]? = some x) (hsz : (DataW.weightsEach P ts ds).all (· ≤ reachBytes) = true) : n * P.bytesOf e ≤ 140737488351232 := by
  obtain ⟨fuel, hx⟩ := hx
  rcases Deep.open_slice ht hx with ⟨h, _⟩ | ⟨ad, len, cap, m, k, D, Pl, h, _, _, _, _, hd, _⟩
  · simp only [List.cons.injEq, Value.slice.injEq] at h
    rw [h.1.2.1]; simp
  · simp only [List.cons.injEq, Value.slice.injEq] at h
    cases hd
    have := sized_slice hsz hts hds ht
    simp only [List.length_map, List.length_range, reachBytes] at this
    rw [h.1.2.1]
    rw [Nat.add_mul] at this
    omega
end Go.Proofs.Ytjfaihpiohccbaa

namespace Go.Proofs.Ytjfaihpiohccbaa
open Go.RowKit

/-- what comes later has all that was there: an order on worlds -/
theorem Below.up {a b c : World} (h : Below a.heap.size a b) (k : Below b.heap.size b c) : Below a.heap.size a c := h.trans (k.mono h.size)
theorem Below.upA {a b : World} (h : Below a.heap.size a b) (o : Obj) : Below a.heap.size a (b.alloc o) := h.alloc h.size o
theorem Below.new (w : World) (o : Obj) : Below w.heap.size w (w.alloc o) := (Below.refl _ _).alloc (Nat.le_refl _) o
theorem Blk.up {w w' : World} {b : Nat} {cs : Array Value} {t : TypeId} (h : Blk w b cs t) (hb : Below w.heap.size w w') : Blk w' b cs t := h.below hb h.lt

/-- the world of a call is taken as a variable of which this is known -/
theorem gen_calls {P : Program} {f : FuncId} {args : Array Value} {Q : Ending → World → Prop} {w : World} (F : World → Prop) (hF : F w) (h : ∀ W, F W → Calls P f args W Q) : Calls P f args w Q := h w hF

/-- min of two, as a number k that is one of them -/
theorem wl_min {P : Program} {ops : Array Oper} {Q : Exit → Act → World → Prop} {rest : List Oper} {a : Act} {w : World} {dst : Option Tmp} {p q : Operand} {t1 t2 ty : TypeId} {pos : String} {af : Array Edge} {g : Option (Nat × Bool)} (n m : Nat)
    (hw : Region.wanted ⟨dst, .call { callee := .builtin .min, args := #[p, q], argTypes := #[t1, t2] }, ty, pos, af, g⟩ (yielded ops a.tmps) = true) (hp : a.eval p = .int .i64 n) (hq : a.eval q = .int .i64 m)
    (h : ∀ k : Nat, k ≤ n → k ≤ m → Hid (k = min n m) → wpList P ops Q rest (a.put dst (.int .i64 k)) w) :
    wpList P ops Q (⟨dst, .call { callee := .builtin .min, args := #[p, q], argTypes := #[t1, t2] }, ty, pos, af, g⟩ :: rest) a w := by
  refine wl_of hw ?_ (h (min n m) (Nat.min_le_left _ _) (Nat.min_le_right _ _) (Lib.hid rfl))
  have hmin : ∀ ats ty, (Builtin.min_ ats ty #[.int .i64 n, .int .i64 m]).run P w = .ok (.int .i64 ((min n m : Nat) : Int)) w := by
    intro ats ty
    simp [Builtin.min_, Builtin.min2]
    split <;> omega
  simp only [execOp, resolve, invoke, builtin, Sem.run_bind, Sem.run_pure, Result.andThen_ok, List.map_toArray, List.map_cons, List.map_nil, hp, hq, hmin]

/-- the same in a region that draws its order -/
theorem wq_min {P : Program} {ops : Array Oper} {C : World → Prop} {Q : Act → Prop} {rest : List Oper} {a : Act} {dst : Option Tmp} {p q : Operand} {t1 t2 ty : TypeId} {pos : String} {af : Array Edge} {g : Option (Nat × Bool)} (n m : Nat)
    (hw : Region.wanted ⟨dst, .call { callee := .builtin .min, args := #[p, q], argTypes := #[t1, t2] }, ty, pos, af, g⟩ (yielded ops a.tmps) = true) (hp : a.eval p = .int .i64 n) (hq : a.eval q = .int .i64 m)
    (h : ∀ k : Nat, k ≤ n → k ≤ m → Hid (k = min n m) → wpQuiet P ops C Q rest (a.put dst (.int .i64 k))) :
    wpQuiet P ops C Q (⟨dst, .call { callee := .builtin .min, args := #[p, q], argTypes := #[t1, t2] }, ty, pos, af, g⟩ :: rest) a := by
  refine wq_of hw (fun w _ => ?_) (h (min n m) (Nat.min_le_left _ _) (Nat.min_le_right _ _) (Lib.hid rfl))
  have hmin : ∀ ats ty, (Builtin.min_ ats ty #[.int .i64 n, .int .i64 m]).run P w = .ok (.int .i64 ((min n m : Nat) : Int)) w := by
    intro ats ty
    simp [Builtin.min_, Builtin.min2]
    split <;> omega
  simp only [execOp, resolve, invoke, builtin, Sem.run_bind, Sem.run_pure, Result.andThen_ok, List.map_toArray, List.map_cons, List.map_nil, hp, hq, hmin]

theorem IsSl.part {w : World} {a : Option Addr} {n n' c k : Nat} {cs cs' : List Value} (h : IsSl w (.slice a n c) n' cs) (hk : k ≤ n) (hcs : ∀ (j : Nat) (u : Value), cs'[j]? = some u → cs[j]? = some u) : IsSl w (.slice a k c) k cs' := by
  obtain ⟨a', c', e, h1, h2, h3, h4⟩ := h
  cases e
  exact ⟨a, c, rfl, by omega, h2, h3, fun j u hu => h4 j u (hcs j u hu)⟩

theorem Bytes.part {w : World} {a : Option Addr} {n c k : Nat} {l : List UInt8} (h : Bytes w (.slice a n c) l) (hk : k ≤ l.length) : Bytes w (.slice a k c) (l.take k) := by
  have h' := h
  obtain ⟨a', c', e, h1, h2, h3, h4⟩ := h'
  cases e
  have := IsSl.part (k := k) (cs' := (l.take k).map vb) h hk (fun j u hu => by
    rw [List.map_take, List.getElem?_take] at hu
    split at hu
    · exact hu
    · cases hu)
  unfold Bytes
  rw [List.length_take, Nat.min_eq_left hk]
  exact this

end Go.Proofs.Ytjfaihpiohccbaa

namespace Go.Proofs.Ytjfaihpiohccbaa
open Go.ChangeShapes Go.WideShapes Go.ChangeAt Go.RowKit

theorem l_own : ownKnob Try.prog.godebug = none := by kernel_rfl
theorem l_laidOut : laidOutB Try.prog = true := by kernel_rfl

theorem byte_of_wf {a : Int} (h : (Lit.int .u8 a).wf = true) : ∃ y : UInt8, a = (y.toNat : Int) := by
  have hb := bounds_u8 h
  refine ⟨UInt8.ofNat a.toNat, ?_⟩
  simp
  omega

end Go.Proofs.Ytjfaihpiohccbaa

namespace Go.Proofs.Ytjfaihpiohccbaa
open Go.ChangeShapes Go.WideShapes Go.ChangeAt Go.RowKit

set_option maxRecDepth 100000 in
theorem diskTells_lifted (os : Os) (started : os.Started) (H : Type) (enc : TypeId × Value → H) :
    ReturnsInHanded {} Try.checked os 7 .any (Rows.diskTellsSpec.pre6 enc Try.prog Try.f7 Rows.diskTellsRow.domain false) (Rows.diskTellsSpec.post enc Try.prog Try.f7 false true false false) := by
  refine returnsInHanded_of_change_sized (C := Try.checked) l_own started (by kernel_rfl) Try.func7
    (ChangeSpec.witness6 (enc := enc) (C := Try.checked) false ⟨#[], #[.agg #[.slice none 0 0, .slice none 0 0, .slice none 0 0, .slice none 0 0, .int .i64 0, .slice none 0 0, .bool false, .int .i64 0], .agg #[.slice none 0 0, .slice none 0 0, .slice none 0 0, .slice none 0 0, .int .i64 0, .slice none 0 0, .bool false, .int .i64 0], .slice none 0 0], []⟩ 8 (by kernel_rfl) (by kernel_rfl) (by kernel_rfl) (by kernel_rfl)) ?_
  intro W base args ds gs before hval0 hW _ hsz0 _
  have hval : ∀ (j : Nat) t v, Try.f7.params[j]? = some t → args[j]? = some v → Value.okWide Try.prog W .any base t v := hval0
  have hW' := hW
  obtain ⟨p, q, hA0, hV, rfl, hfz, hnd⟩ := hW
  have hA : DataW.TrodAll enc Try.prog W 0 (fun _ => true) true Try.f7.params.toList args.toList ds p := hA0
  rw [Try.params7] at hA hval
  obtain ⟨v0, vs0, e0, ds0, p0, q0, hargs, rfl, rfl, h0, r0⟩ := trodAll_cons hA
  obtain ⟨v1, vs1, e1, ds1, p1, q1, rfl, rfl, rfl, h1, r1⟩ := trodAll_cons r0
  obtain ⟨v2, vs2, e2, ds2, p2, q2, rfl, rfl, rfl, h2, r2⟩ := trodAll_cons r1
  obtain ⟨rfl, rfl, rfl⟩ := trodAll_nil r2
  obtain rfl : args = #[v0, v1, v2] := by cases args; simp_all
  obtain ⟨rfl, rfl⟩ := trodVars_none hV
  have k0 := h0
  have lt0 : ∀ x ∈ p0, x.block < W.heap.size := by obtain ⟨m, hm⟩ := k0; exact DataW.trod_lt m _ _ _ hm
  obtain ⟨y0, z0, d0⟩ := arg_struct opn_dk Try.underlying26 (hval 0 26 v0 rfl rfl) h0
  have k1 := h1
  have lt1 : ∀ x ∈ p1, x.block < W.heap.size := by obtain ⟨m, hm⟩ := k1; exact DataW.trod_lt m _ _ _ hm
  obtain ⟨y1, z1, d1⟩ := arg_struct opn_dk Try.underlying26 (hval 1 26 v1 rfl rfl) h1
  have k2 := h2
  have lt2 : ∀ x ∈ p2, x.block < W.heap.size := by obtain ⟨m, hm⟩ := k2; exact DataW.trod_lt m _ _ _ hm
  obtain ⟨a2, n2, c2, rfl⟩ := okWide_slice Try.underlying61 (hval 2 61 v2 rfl rfl)
  obtain ⟨y2, z2, d2⟩ := arg_cell opn_ints rfl h2
  have hsz : (DataW.weightsEach Try.prog [26, 26, 61] [e0, e1, e2]).all (fun x => decide (x ≤ reachBytes)) = true := hsz0
  have hlen := sized_sl Try.underlying61 h2 (j := 2) rfl rfl hsz
  rw [show Try.prog.bytesOf 3 = 8 by kernel_rfl] at hlen
  have hy2 : y2.length = n2 := by
    have := d2 0
    simp only [drep] at this
    obtain ⟨_, _, _, hq, _⟩ := this
    simp only [Value.slice.injEq, List.length_map] at hq
    exact hq.2.1.symm
  clear hA0 hval0
  refine ((tells_law y0 y1 y2 (by omega)).2 (fun _ => True) W _ (by simp only [dreps]; exact ⟨_, _, rfl, d0 _, ⟨_, _, rfl, d1 _, ⟨_, _, rfl, d2 _, rfl⟩⟩⟩)).mono fun e W' ⟨bel, r, he, hr⟩ => ?_
  subst he
  obtain ⟨u, rfl, hu⟩ := hr
  simp only [drep] at hu
  subst hu
  exact ⟨_, rfl, _, _, _, [], _, [], hW', trodAll_mk1 (shut_bool Try.underlying4 _), (trodAll_cons_mk (Below.trod l_laidOut (by kernel_rfl) (of_decide_eq_true (by kernel_rfl)) k0 bel lt0) (trodAll_cons_mk (Below.trod l_laidOut (by kernel_rfl) (of_decide_eq_true (by kernel_rfl)) k1 bel lt1) (trodAll_cons_mk (Below.trod l_laidOut (by kernel_rfl) (of_decide_eq_true (by kernel_rfl)) k2 bel lt2) trodAll_mk0))), rfl, bel.frame _, fun h => by cases h⟩

theorem diskTells_over : Rows.diskTellsRow.holds Try.pinned (OpenSpec.ofChange Rows.diskTellsSpec) :=
  OpenClaim.holds_of_wide 7 Try.f7 rfl rfl rfl rfl rfl rfl rfl ⟨rfl, rfl, rfl, rfl, rfl⟩ rfl rfl rfl rfl rfl (by kernel_rfl) Try.func7 (by kernel_rfl)
    (of_decide_eq_true (by kernel_rfl)) (by unfold Func.isWrapper; first | (rw [if_pos (by decide +kernel)]; kernel_rfl) | (rw [if_neg (by decide +kernel)]; exact ⟨rfl, rfl⟩))
    (fun os started H enc _ => diskTells_lifted os started H enc)

/-- DiskTells holds as it is stated. -/
theorem diskTells_holds : Rows.DiskTellsSaid := diskTells_over
#print axioms diskTells_holds

end Go.Proofs.Ytjfaihpiohccbaa
