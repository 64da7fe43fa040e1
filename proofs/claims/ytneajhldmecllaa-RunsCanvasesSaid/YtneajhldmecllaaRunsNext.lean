/- runs: need, the reader's next. -/
import Derived.Test.YtneajhldmecllaaBytes
import Derived.StillTailTactics
namespace Go.Proofs.Ytneajhldmecllaa
open Go.RowKit

/-- what 'need' panics with -/
abbrev wrongV : Value := .iface 90 (.agg #[])
abbrev wrongP : List PanicEntry := [{ v := wrongV, recovered := false }]

set_option maxHeartbeats 400000 in
theorem need_true (w : World) : Calls Try.prog 45 #[.bool true] w fun e w' => e = .returned (.tuple #[]) ∧ w = w' := by
  go_enter Try.func45, Try.ntmps45
  go_wp2
  go_end0
  exact ⟨rfl, rfl⟩

set_option maxHeartbeats 400000 in
theorem need_false (w : World) : Calls Try.prog 45 #[.bool false] w fun e w' => e = .panicked wrongP ∧ w = w' := by
  go_enter Try.func45, Try.ntmps45
  go_wp2
  exact ⟨rfl, rfl, rfl⟩

/-- a reader's cells -/
abbrev rdC (wd hg : Value) (tl bs : Value) (at_ : Nat) : Array Value := #[wd, hg, tl, bs, .int .i64 at_]

set_option maxHeartbeats 400000 in
theorem next_no (wd hg tl bs : Value) (at_ br many : Nat) (l : List UInt8) (w : World) (h : Blk w br (rdC wd hg tl bs at_) 68) (hb : Bytes w bs l) (ha : at_ ≤ l.length) (hm : many ≤ 5) (hno : l.length < at_ + many) :
    Calls Try.prog 44 #[.pointer (some ⟨br, 0, none⟩), .int .i64 many] w fun e w' => e = .panicked wrongP ∧ Below w.heap.size w w' := by
  obtain ⟨a, c, rfl, hc, hcm, hnil, r⟩ := hb
  unfold maxLen at hcm
  obtain ⟨hcell, hf, hlt⟩ := h.all
  have hq : decide ((many : Int) ≤ (l.length : Int) - (at_ : Int)) = false := by simp; omega
  go_enter Try.func44, Try.ntmps44
  go_wp2
  go_still_tail 12, (by kernel_rfl)
  go_wp2_with (go_at_call 45; rw [hq]; refine (need_false _).mono ?_; rintro e w' ⟨rfl, rfl⟩)
  refine ⟨rfl, rfl, ?_⟩
  repeat (first | assumption | exact Below.refl _ _ | refine below_dN ?_ _ | refine Below.alloc ?_ (by first | exact Nat.le_refl _ | omega | (simp; done) | (simp; omega)) _ | refine Below.setCell ?_ (by first | exact Nat.le_refl _ | omega | (simp; done) | (simp; omega)) _ | refine Below.drew ?_ | refine Below.trans ?_ (Below.mono (by assumption) (by first | exact Nat.le_refl _ | omega | (simp; done) | (simp; omega))))

set_option maxHeartbeats 400000 in
theorem next_yes (wd hg tl bs : Value) (at_ br many : Nat) (l : List UInt8) (w : World) (h : Blk w br (rdC wd hg tl bs at_) 68) (hb : Bytes w bs l) (ha : at_ ≤ l.length) (hm : 1 ≤ many) (hm5 : many ≤ 5) (hyes : at_ + many ≤ l.length) :
    Calls Try.prog 44 #[.pointer (some ⟨br, 0, none⟩), .int .i64 many] w fun e w' => ∃ v, e = .returned v ∧ Bytes w' v ((l.drop at_).take many) ∧ Blk w' br (rdC wd hg tl bs (at_ + many)) 68 ∧ w.grownBy w' (some br) := by
  obtain ⟨a, c, rfl, hc, hcm, hnil, r⟩ := hb
  unfold maxLen at hcm
  obtain ⟨hcell, hf, hlt⟩ := h.all
  obtain ⟨b, o, rfl, _⟩ := r at_ (vb (l[at_]'(by omega))) (by rw [List.getElem?_map, List.getElem?_eq_getElem (by omega)]; rfl)
  have hq : decide ((many : Int) ≤ (l.length : Int) - (at_ : Int)) = true := by simp; omega
  go_enter Try.func44, Try.ntmps44
  go_wp2
  go_still_tail 12, (by kernel_rfl)
  go_wp2_with (go_at_call 45; rw [hq]; refine (need_true _).mono ?_; rintro e w' ⟨rfl, rfl⟩)
  go_quiet (fail)
  go_wp2
  have e : at_ + many - at_ = many := by omega
  rw [e]
  have hlen : ((l.drop at_).take many).length = many := by simp; omega
  go_ret
  refine ⟨_, rfl, ⟨some ⟨b, o + at_, none⟩, many, by rw [hlen]; rfl, by rw [hlen]; exact Nat.le_refl _, by unfold maxLen; omega, by simp, ?_⟩, ?_, ?_⟩
  · intro j u hu
    have hj : j < many := by
      have := (List.getElem?_eq_some_iff.1 hu).1
      simp at this; omega
    have hu' : (l.map vb)[at_ + j]? = some u := by
      rw [← hu]; simp [List.getElem?_drop, hj]
    obtain ⟨b', o', e1, hc'⟩ := r (at_ + j) u hu'
    cases e1
    refine ⟨b, o + at_, rfl, ?_⟩
    rw [show o + at_ + j = o + (at_ + j) from by omega]
    refine (World.cell?_setCell_other _ _ _ _ ?_).trans hc'
    intro e2
    have h4 := hcell 4
    rw [e2, hc'] at h4
    obtain ⟨x, _, rfl⟩ := List.mem_map.1 (List.mem_of_getElem? hu')
    simp at h4
  · exact Blk.set (Blk.drewN h _) 4 _
  · exact gb_set (gb_drewN _ _ _) _ _

end Go.Proofs.Ytneajhldmecllaa
