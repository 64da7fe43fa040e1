/- octet.Part, gessoref01.Part. -/
import Derived.Test.YtpooakhmpfbmgaaOctFew
namespace Go.Proofs.Ytpooakhmpfbmgaa
open Go.RowKit

theorem fits2 {n : Nat} (h : n ≤ 65535) : fitsB 2 n = true := by simp [fitsB]; omega

/-- a part's bytes -/
def partB (p : List UInt8) : List UInt8 := layB 2 p.length ++ p

set_option maxRecDepth 100000 in
theorem part_yes (v1 v2 : Value) (l p : List UInt8) (w : World) (h1 : Bytes w v1 l) (h2 : Bytes w v2 p) (hl : l.length ≤ 100000) (hp : p.length ≤ 65535) :
    Calls Try.prog 20 #[v1, v2] w fun e w' => ∃ v, e = .returned (.tuple #[v, .int .i64 0]) ∧ OwnB w.heap.size w' v (l ++ partB p) ∧ Below w.heap.size w w' := by
  obtain ⟨a1, c1, rfl, _⟩ := id h1
  obtain ⟨a2, c2, rfl, _⟩ := id h2
  have H1 := Lib.hid h1
  have H2 := Lib.hid h2
  have q : decide ((65535 : Int) < (p.length : Int)) = false := by simp; omega
  clear h1 h2
  go_enter Try.func20, Try.ntmps20
  go_wp2_with fail
  refine (laid_yes 2 p.length _ (by omega) (by omega) (fits2 hp)).mono ?_
  rintro e W1 ⟨v1, rfl, hv1, hB1⟩
  go_wp2_with fail
  refine (behind_any _ v1 l (layB 2 p.length) _ (H1.out.below hB1) hv1 (by rw [layB_len]; omega)).mono ?_
  rintro e W2 ⟨v2, rfl, ho2, hB2⟩
  have u2 := Below.up hB1 hB2
  go_wp2_with fail
  refine (behind_any v2 _ (l ++ layB 2 p.length) p _ ho2.bytes (H2.out.below u2) (by rw [List.length_append, layB_len]; omega)).mono ?_
  rintro e W3 ⟨v3, rfl, ho3, hB3⟩
  go_wp2
  refine bodyPost_ret (results_tmp2 rfl _ _ _) rfl ?_
  refine ⟨_, rfl, ?_, Below.up u2 hB3⟩
  unfold partB
  rw [← List.append_assoc]
  exact ownsRow_base ho3 u2.size

set_option maxRecDepth 100000 in
theorem part_no (v1 v2 : Value) (l p : List UInt8) (w : World) (h1 : Bytes w v1 l) (h2 : Bytes w v2 p) (hp : ¬ p.length ≤ 65535) :
    Calls Try.prog 20 #[v1, v2] w fun e w' => e = .returned (.tuple #[.slice none 0 0, .int .i64 3]) ∧ Below w.heap.size w w' := by
  obtain ⟨a1, c1, rfl, _⟩ := h1
  obtain ⟨a2, c2, rfl, _⟩ := h2
  have q : decide ((65535 : Int) < (p.length : Int)) = true := by simp; omega
  go_enter Try.func20, Try.ntmps20
  go_wp2
  refine bodyPost_ret (results_tmp2 rfl _ _ _) rfl ?_
  exact ⟨rfl, Below.refl _ _⟩

set_option maxRecDepth 100000 in
theorem rpart_any (v2 : Value) (p : List UInt8) (w : World) (h2 : Bytes w v2 p) (hp : p.length ≤ 65537) :
    Calls Try.prog 36 #[v2] w fun e w' => ∃ v, e = .returned v ∧ OwnB w.heap.size w' v (partB p) ∧ Below w.heap.size w w' := by
  obtain ⟨a2, c2, rfl, _⟩ := id h2
  have H2 := Lib.hid h2
  clear h2
  go_enter Try.func36, Try.ntmps36
  go_wp2_with fail
  refine (rlay_any 2 p.length _ (by omega) (by omega)).mono ?_
  rintro e W1 ⟨v1, rfl, hv1, hB1⟩
  go_wp2_with fail
  refine (rbehind_any v1 _ (layB 2 p.length) p _ hv1.bytes (H2.out.below hB1) (by rw [layB_len]; omega)).mono ?_
  rintro e W2 ⟨v2, rfl, ho2, hB2⟩
  go_wp2
  go_ret
  exact ⟨_, rfl, ownsRow_base ho2 hB1.size, Below.up hB1 hB2⟩

end Go.Proofs.Ytpooakhmpfbmgaa
