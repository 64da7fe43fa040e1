/- octet.Reader: Left, Err, End (end_ok). -/
import Derived.Test.YtpooakhmpfbmgaaOctOpen
namespace Go.Proofs.Ytpooakhmpfbmgaa
open Go.RowKit

set_option maxHeartbeats 400000 in
theorem err_any (b : Nat) (bs : Value) (f : Int) (w : World) (h : Blk w b (rdC bs f) 88) :
    Calls Try.prog 24 #[.pointer (some ⟨b, 0, none⟩)] w fun e w' => e = .returned (.int .i64 f) ∧ Below w.heap.size w w' := by
  have e1 : w.cell? ⟨b, 1, none⟩ = some (.int .i64 f) := h.cell 1
  go_enter Try.func24, Try.ntmps24
  go_wp2
  go_ret
  exact ⟨rfl, Below.refl _ _⟩

set_option maxHeartbeats 400000 in
theorem left_any (b : Nat) (a : Option Addr) (n c : Nat) (f : Int) (w : World) (h : Blk w b (rdC (.slice a n c) f) 88) :
    Calls Try.prog 41 #[.pointer (some ⟨b, 0, none⟩)] w fun e w' => e = .returned (.int .i64 n) ∧ Below w.heap.size w w' := by
  have e1 : w.cell? ⟨b, 0, none⟩ = some (.slice a n c) := h.cell 0
  go_enter Try.func41, Try.ntmps41
  go_wp2
  go_ret
  exact ⟨rfl, Below.refl _ _⟩

/-- what End tells -/
def endOf (f : Int) (n : Nat) : Int := if f = 0 then (if n = 0 then 0 else 113) else f

set_option maxHeartbeats 400000 in
theorem end_ok (b : Nat) (a : Option Addr) (c : Nat) (w : World) (h : Blk w b (rdC (.slice a 0 c) 0) 88) :
    Calls Try.prog 23 #[.pointer (some ⟨b, 0, none⟩)] w fun e w' => e = .returned (.int .i64 0) ∧ Below w.heap.size w w' := by
  go_enter Try.func23, Try.ntmps23
  go_wp2_with fail
  refine (err_any b _ 0 _ h).mono ?_
  rintro e W1 ⟨rfl, hB1⟩
  have h1 := Blk.up h hB1
  go_wp2_with fail
  refine (left_any b a 0 c 0 _ h1).mono ?_
  rintro e W2 ⟨rfl, hB2⟩
  go_wp2
  go_ret
  exact ⟨rfl, Below.up hB1 hB2⟩

end Go.Proofs.Ytpooakhmpfbmgaa
