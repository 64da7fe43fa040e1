/- octet.Open. -/
import Derived.Test.YtpooakhmpfbmgaaOctPart
namespace Go.Proofs.Ytpooakhmpfbmgaa
open Go.RowKit

/-- a reader's cells: the bytes that are left, why it failed -/
abbrev rdC (bs : Value) (f : Int) : Array Value := #[bs, .int .i64 f]

set_option maxRecDepth 100000 in
theorem open_yes (v : Value) (l : List UInt8) (w : World) (h : Bytes w v l) (hl : l.length ≤ 1048576) :
    Calls Try.prog 21 #[v] w fun e w' => ∃ b bs, e = .returned (.tuple #[.pointer (some ⟨b, 0, none⟩), .int .i64 0]) ∧ Blk w' b (rdC bs 0) 88 ∧ OwnB w.heap.size w' bs l ∧ w.heap.size ≤ b ∧ Below w.heap.size w w' := by
  obtain ⟨a, c, rfl, _⟩ := id h
  have H := Lib.hid h
  have q : decide ((1048576 : Int) < (l.length : Int)) = false := by simp; omega
  clear h
  go_enter Try.func21, Try.ntmps21
  go_wp2_with fail
  refine (clone_bytes _ l _ H.out (by omega)).mono ?_
  rintro e W1 ⟨v1, rfl, ho1, hB1⟩
  obtain ⟨a1, c1, rfl, _⟩ := ownsRow_slice ho1
  go_wp2
  refine bodyPost_ret (results_tmp2 rfl _ _ _) rfl ?_
  exact ⟨_, _, rfl, Blk.new _ _ _, ownsRow_below ho1 (Below.new _ _) (Nat.le_refl _), hB1.size, Below.upA hB1 _⟩

end Go.Proofs.Ytpooakhmpfbmgaa
