/- Clone, and small functions on bytes. -/
import Derived.Test.YtpooakhmpfbmgaaSlices
namespace Go.Proofs.Ytpooakhmpfbmgaa
open Go.RowKit

set_option maxHeartbeats 400000 in
theorem clone_bytes (v : Value) (l : List UInt8) (w : World) (h : Bytes w v l) (hlen : l.length ≤ 140737488355328) :
    Calls Try.prog 43 #[v] w fun e w' => ∃ v', e = .returned v' ∧ OwnB w.heap.size w' v' l ∧ Below w.heap.size w w' := by
  have h' := h
  obtain ⟨a, c, rfl, hc, hm, hnil, r⟩ := h'
  cases a with
  | none =>
    obtain rfl : c = 0 := hnil rfl
    obtain rfl : l = [] := List.eq_nil_of_length_eq_zero (by omega)
    have hq := Lib.run_eql_slice_nil (P := Try.prog) w 22 5 none 0 0 0 0 Try.underlying22
    go_enter Try.func43, Try.ntmps43
    go_wp2
    go_ret
    exact ⟨_, rfl, World.ownsRow_nil _ _ _ _, Below.refl _ _⟩
  | some ad =>
    have hq := Lib.run_eql_slice_nil (P := Try.prog) w 22 5 (some ad) l.length c 0 0 Try.underlying22
    have H := Lib.hid h
    clear h
    go_enter Try.func43, Try.ntmps43
    go_wp2_with (refine wl_append (w.heap.size) elem_byte rfl rfl rfl (World.ownsRow_lit (base := w.heap.size) (e := 5) (size := 1) w #[] 0 (Nat.le_refl _) (by unfold maxLen; omega) rfl) (H.out.below ((Below.refl _ w).alloc (Nat.le_refl _) _)) (by simp) (one_bytes l) (by simpa using Nat.le_trans hc hm) (by omega) (by simp) ?_; intro v' w1 hown hg)
    go_ret
    exact ⟨_, rfl, by simpa [OwnB] using hown, by
      refine below_append (base := w.heap.size) ((Below.refl _ w).alloc (Nat.le_refl _) _) (Nat.le_refl _) (by simp) (World.ownsRow_lit (base := w.heap.size) (e := 5) (size := 1) w #[] 0 (Nat.le_refl _) (by unfold maxLen; omega) rfl) hg⟩

/-- do bytes begin with others? -/
def beginsB : List UInt8 → List UInt8 → Bool
  | _, [] => true
  | [], _ :: _ => false
  | x :: l, y :: m => x == y && beginsB l m

end Go.Proofs.Ytpooakhmpfbmgaa
