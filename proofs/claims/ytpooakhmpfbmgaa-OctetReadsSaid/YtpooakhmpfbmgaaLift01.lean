/- Lifts of layer 01: numbers as words of 64 bits; rows of them. -/
import Derived.Test.YtpooakhmpfbmgaaLift
import Derived.Test.YtpooakhmpfbmgaaOctInts
namespace Go.Proofs.Ytpooakhmpfbmgaa
open Go.RowKit

theorem u64_of_wf {a : Int} (h : (Lit.int .u64 a).wf = true) : ∃ y : Nat, a = (y : Int) ∧ y < 18446744073709551616 := by
  have hb := bounds_u64 h
  exact ⟨a.toNat, by omega, by omega⟩

end Go.Proofs.Ytpooakhmpfbmgaa
