/- Rows of ints and of uint64s; octet.size, gessoref01.Size, octet.Size. -/
import Derived.Test.YtpooakhmpfbmgaaOctRdPart
namespace Go.Proofs.Ytpooakhmpfbmgaa
open Go.RowKit

abbrev cI (x : Int) : Value := .int .i64 x
abbrev cU (n : Nat) : Value := .int .u64 n
/-- a slice of ints -/
def IntsS (w : World) (v : Value) (xs : List Int) : Prop := IsSl w v xs.length (xs.map cI)
/-- a slice of uint64s -/
def U64S (w : World) (v : Value) (ns : List Nat) : Prop := IsSl w v ns.length (ns.map cU)
def OwnU (base : Nat) (w : World) (v : Value) (ns : List Nat) : Prop := w.ownsRow base 26 1 v ns.length (ns.map cU)
theorem OwnU.sl {base : Nat} {w : World} {v : Value} {ns : List Nat} (h : OwnU base w v ns) : U64S w v ns := IsSl.of_own h
theorem elem_u64 : Elem Try.prog 51 26 1 8 := Elem.mk' (z := .int .u64 0) Try.underlying51 (by kernel_rfl) rfl (by decide)
theorem elem_int : Elem Try.prog 50 3 1 8 := Elem.mk' (z := .int .i64 0) Try.underlying50 (by kernel_rfl) rfl (by decide)
theorem IntsS.below {w w' : World} {v : Value} {l : List Int} (h : IntsS w v l) (hb : Below w.heap.size w w') : IntsS w' v l := IsSl.below h hb
theorem U64S.below {w w' : World} {v : Value} {l : List Nat} (h : U64S w v l) (hb : Below w.heap.size w w') : U64S w' v l := IsSl.below h hb
theorem IsSl.get {w : World} {a : Option Addr} {n m c k : Nat} {cs : List Value} (h : IsSl w (.slice a n c) m cs) (hk : k < cs.length) : ∃ b o, a = some ⟨b, o, none⟩ ∧ w.cell? ⟨b, o + k, none⟩ = some cs[k] := by
  obtain ⟨a', c', e, _, _, _, h5⟩ := h
  cases e
  exact h5 k cs[k] (List.getElem?_eq_getElem hk)
theorem IntsS.get {w : World} {a : Option Addr} {n c k : Nat} {l : List Int} (h : IntsS w (.slice a n c) l) (hk : k < l.length) : ∃ b o, a = some ⟨b, o, none⟩ ∧ w.cell? ⟨b, o + k, none⟩ = some (cI l[k]) := by
  obtain ⟨b, o, e, hc⟩ := IsSl.get h (k := k) (by simpa using hk)
  exact ⟨b, o, e, by simpa using hc⟩
theorem U64S.get {w : World} {a : Option Addr} {n c k : Nat} {l : List Nat} (h : U64S w (.slice a n c) l) (hk : k < l.length) : ∃ b o, a = some ⟨b, o, none⟩ ∧ w.cell? ⟨b, o + k, none⟩ = some (cU l[k]) := by
  obtain ⟨b, o, e, hc⟩ := IsSl.get h (k := k) (by simpa using hk)
  exact ⟨b, o, e, by simpa using hc⟩
theorem IsSl.shape {w : World} {v : Value} {n : Nat} {cs : List Value} (h : IsSl w v n cs) : ∃ a c, v = .slice a n c ∧ n ≤ c ∧ c ≤ 9223372036854775807 := by
  obtain ⟨a, c, e, h1, h2, _⟩ := h
  exact ⟨a, c, e, h1, h2⟩

/-- are all of these widths? -/
def allW (xs : List Int) : Bool := xs.all okW
def sumW (xs : List Int) : Nat := (xs.map Int.toNat).sum
theorem sumW_snoc (xs : List Int) (x : Int) : sumW (xs ++ [x]) = sumW xs + x.toNat := by simp [sumW]
theorem sumW_le (xs : List Int) (h : allW xs = true) : sumW xs ≤ 8 * xs.length := by
  induction xs with
  | nil => simp [sumW]
  | cons x xs ih =>
    simp only [allW, List.all_cons, Bool.and_eq_true] at h
    have h1 := ih h.2
    have h2 := of_decide_eq_true h.1
    simp only [sumW, List.map_cons, List.sum_cons, List.length_cons] at *
    omega
theorem allW_take {xs : List Int} (h : allW xs = true) (k : Nat) : allW (xs.take k) = true := by
  unfold allW at *
  rw [List.all_eq_true] at *
  exact fun x hx => h x (List.mem_of_mem_take hx)
theorem allW_get {xs : List Int} (h : allW xs = true) (k : Nat) (hk : k < xs.length) : okW xs[k] = true := by
  unfold allW at h
  rw [List.all_eq_true] at h
  exact h _ (List.getElem_mem hk)
theorem allW_first {xs : List Int} (h : allW xs = false) : ∃ k, ∃ hk : k < xs.length, allW (xs.take k) = true ∧ okW xs[k] = false := by
  induction xs with
  | nil => simp [allW] at h
  | cons x xs ih =>
    cases hx : okW x with
    | false => exact ⟨0, by simp, by simp [allW], hx⟩
    | true =>
      have : allW xs = false := by simpa [allW, hx] using h
      obtain ⟨k, hk, h1, h2⟩ := ih this
      refine ⟨k + 1, by simpa using hk, ?_, by simpa using h2⟩
      simpa [allW, hx] using h1

set_option maxHeartbeats 400000 in
theorem size_yes (v : Value) (xs : List Int) (w : World) (h : IntsS w v xs) (hl : xs.length ≤ 1000) (hx : allW xs = true) :
    Calls Try.prog 58 #[v] w fun e w' => e = .returned (.int .i64 (sumW xs)) ∧ w = w' := by
  obtain ⟨a, c, rfl, hc1, hc2⟩ := h.shape
  go_enter Try.func58, Try.ntmps58
  go_wp2
  go_loop [3, 8] (fun s i => ∃ k : Nat, k ≤ xs.length ∧ i = .int .i64 k ∧ s = .int .i64 (sumW (xs.take k))) (fun _ i => xs.length - (intOf i).toNat)
  case atStart => exact ⟨0, by omega, rfl, rfl⟩
  case round =>
    obtain ⟨k, hk, rfl, rfl⟩ := hrel
    by_cases hlt : k < xs.length
    · obtain ⟨b, o, rfl, e1⟩ := h.get hlt
      have hle := sumW_le _ (allW_take hx k)
      have hkl : (xs.take k).length ≤ 1000 := by simp; omega
      have ho := allW_get hx k hlt
      obtain ⟨y, hy, g1, g2⟩ := okW_nat ho
      have HS := Lib.hid (show sumW (xs.take (k + 1)) = sumW (xs.take k) + y from by rw [take_snoc xs k hlt, sumW_snoc, hy]; simp)
      rw [hy] at e1 ho
      clear hy
      go_wp2_with fail
      refine (c_is y _ _ ho).mono ?_
      rintro e W1 ⟨rfl, rfl⟩
      go_wp2_with fail
      refine (need_true 111 _).mono ?_
      rintro e W1 ⟨rfl, rfl⟩
      go_wp2
      go_round
      case rel => exact ⟨k + 1, by omega, by go_num, by rw [HS.out]; go_num⟩
      case measure => simp only [intOf]; omega
    · obtain rfl : k = xs.length := by omega
      rw [List.take_length]
      go_wp2
      go_ret
      exact ⟨rfl, rfl⟩

end Go.Proofs.Ytpooakhmpfbmgaa
