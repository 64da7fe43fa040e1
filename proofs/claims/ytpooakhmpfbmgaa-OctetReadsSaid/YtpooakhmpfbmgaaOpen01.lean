/- Arguments of layer 01 that came in: rows of numbers, of numerals, of steps. -/
import Derived.Test.YtpooakhmpfbmgaaLift01
import Derived.Test.YtpooakhmpfbmgaaOctInc
import Derived.Deep.Strs
namespace Go.Proofs.Ytpooakhmpfbmgaa
open Go.RowKit

section
variable {H : Type} {enc : TypeId × Value → H} {w : World} {base : Nat} {spare : Nat → Bool} {held : Bool}

theorem flatMap_sub {α : Type} {p : α → Prop} (f : α → List Value) (l : List { y : α // p y }) : l.flatMap (fun y => f y.1) = (l.map (·.1)).flatMap f := by rw [List.flatMap_map]

theorem ints_of_trod {fuel : Nat} {a : Option Addr} {n c : Nat} {x : DataW H × List MemPlace} (h : DataW.trod enc Try.prog w base spare held fuel 50 [.slice a n c] = some x) :
    ∃ l : List Int, l.length = n ∧ IntsS w (.slice a n c) l := by
  obtain ⟨l, hl, hs⟩ := rows_of_trod (fun y : Int => [cI y]) 1 (by decide) (fun _ => rfl) (by kernel_rfl) Try.underlying50 (fun _ _ _ h => by
    obtain ⟨m, rfl, _, hw⟩ := DataW.trod_int Try.underlying3 h
    exact ⟨m, rfl⟩) h
  refine ⟨l, hl, ?_⟩
  rw [flatMap_one] at hs
  subst hl
  exact hs

theorem u64s_of_trod {fuel : Nat} {a : Option Addr} {n c : Nat} {x : DataW H × List MemPlace} (h : DataW.trod enc Try.prog w base spare held fuel 51 [.slice a n c] = some x) :
    ∃ l : List Nat, l.length = n ∧ (U64S w (.slice a n c) l ∧ ∀ m ∈ l, m < 18446744073709551616) := by
  obtain ⟨l, hl, hs⟩ := rows_of_trod (α := { y : Nat // y < 18446744073709551616 }) (fun y => [cU y.1]) 1 (by decide) (fun _ => rfl) (by kernel_rfl) Try.underlying51 (fun _ _ _ h => by
    obtain ⟨m, rfl, _, hw⟩ := DataW.trod_int Try.underlying26 h
    obtain ⟨y, rfl, hy⟩ := u64_of_wf hw
    exact ⟨⟨y, hy⟩, rfl⟩) h
  refine ⟨l.map (·.1), by simpa using hl, ?_, fun m hm => by obtain ⟨y, _, rfl⟩ := List.mem_map.1 hm; exact y.2⟩
  rw [flatMap_one] at hs
  unfold U64S
  rw [List.map_map, List.length_map, hl]
  exact hs

theorem nums_of_trod {fuel : Nat} {a : Option Addr} {n c : Nat} {x : DataW H × List MemPlace} (h : DataW.trod enc Try.prog w base spare held fuel 23 [.slice a n c] = some x) :
    ∃ l : List Num3, l.length = n ∧ (NumsS w (.slice a n c) l ∧ ∀ m ∈ l, m.2.2 < 18446744073709551616) := by
  obtain ⟨l, hl, hs⟩ := rows_of_trod (α := { y : Num3 // y.2.2 < 18446744073709551616 }) (fun y => n3 y.1) 3 (by decide) (fun _ => rfl) (by kernel_rfl) Try.underlying23 (fun fuel cs x h => by
    obtain ⟨y0, y1, y2, n, _, hl, h0, h1, h2⟩ := Go.Deep.trod_struct3 Try.underlying28 h
    rw [show Try.prog.cellsOf 28 = 3 from by kernel_rfl] at hl
    simp only [show Try.prog.cellsOf 3 = 1 from by kernel_rfl, show Try.prog.cellsOf 26 = 1 from by kernel_rfl] at h0 h1 h2
    match cs, hl with
    | [v0, v1, v2], _ =>
      obtain ⟨m0, e0, _, w0⟩ := DataW.trod_int Try.underlying3 h0
      obtain ⟨m1, e1, _, w1⟩ := DataW.trod_int Try.underlying3 h1
      obtain ⟨m2, e2, _, w2⟩ := DataW.trod_int Try.underlying26 h2
      simp at e0 e1 e2
      obtain ⟨y, rfl, hy⟩ := u64_of_wf w2
      exact ⟨⟨(m0, m1, y), hy⟩, by simp [e0, e1, e2]⟩) h
  refine ⟨l.map (·.1), by simpa using hl, ?_, fun m hm => by obtain ⟨y, _, rfl⟩ := List.mem_map.1 hm; exact y.2⟩
  unfold NumsS
  rw [← flatMap_sub, List.length_map, hl]
  exact hs
end

end Go.Proofs.Ytpooakhmpfbmgaa
