/- gessolaw01.few, octet.Part. -/
import Derived.Test.YtpooakhmpfbmgaaOctGet
namespace Go.Proofs.Ytpooakhmpfbmgaa
open Go.RowKit

set_option maxRecDepth 100000 in
theorem few_any (v : Value) (l : List UInt8) (w : World) (h : Bytes w v l) :
    Calls Try.prog 10 #[v] w fun e w' => ∃ v', e = .returned v' ∧ OwnB w.heap.size w' v' (l.take 60) ∧ Below w.heap.size w w' := by
  obtain ⟨a, c, rfl, hc, hm, _⟩ := id h
  unfold maxLen at hm
  obtain ⟨M, hM⟩ : ∃ M, l.take 60 = M := ⟨_, rfl⟩
  rw [hM]
  have HM := Lib.hid hM
  have H := Lib.hid h
  clear hM h
  go_enter Try.func10, Try.ntmps10
  go_wp2_with (refine wl_min l.length 60 rfl rfl rfl ?_; intro k hk1 hk2 hk3)
  have hp := H.out.part hk1
  refine (clone_bytes _ _ _ hp (by simp; omega)).mono ?_
  rintro e w' ⟨v', rfl, ho, hb⟩
  rw [hk3.out, show l.take (min l.length 60) = M from by rw [← HM.out, List.take_eq_take_iff]; omega] at ho
  go_wp2
  go_ret
  exact ⟨_, rfl, ho, hb⟩

end Go.Proofs.Ytpooakhmpfbmgaa
