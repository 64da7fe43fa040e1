/- What all lifts share. -/
import Derived.Test.YtpooakhmpfbmgaaPlus
import Derived.ShutString
import Derived.ChangeOld
namespace Go.Proofs.Ytpooakhmpfbmgaa
open Go.ChangeShapes Go.WideShapes Go.ChangeAt Go.RowKit

theorem l_own : ownKnob Try.prog.godebug = none := by kernel_rfl
theorem l_laidOut : laidOutB Try.prog = true := by kernel_rfl

theorem byte_of_wf {a : Int} (h : (Lit.int .u8 a).wf = true) : ∃ y : UInt8, a = (y.toNat : Int) := by
  have hb := bounds_u8 h
  refine ⟨UInt8.ofNat a.toNat, ?_⟩
  simp
  omega

end Go.Proofs.Ytpooakhmpfbmgaa
