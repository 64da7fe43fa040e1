/- octet, gessoref01: small functions on numbers and bytes. -/
import Derived.Test.YtpooakhmpfbmgaaSlLaw
import Derived.StillTailTactics
namespace Go.Proofs.Ytpooakhmpfbmgaa
open Go.RowKit

/-- is it a width? -/
def okW (x : Int) : Bool := decide (1 ≤ x ∧ x ≤ 8)

set_option maxHeartbeats 400000 in
theorem is_any (x : Int) (w : World) :
    Calls Try.prog 51 #[.int .i64 x] w fun e w' => e = .returned (.bool (okW x)) ∧ w = w' := by
  unfold okW
  by_cases h1 : 1 ≤ x <;> by_cases h2 : x ≤ 8
  all_goals
    go_enter Try.func51, Try.ntmps51
    go_wp2
    go_ret
    simp [*]

set_option maxHeartbeats 400000 in
theorem width_any (x : Int) (w : World) :
    Calls Try.prog 12 #[.int .i64 x] w fun e w' => e = .returned (.bool (okW x)) ∧ w = w' := by
  unfold okW
  by_cases h1 : 1 ≤ x <;> by_cases h2 : x ≤ 8
  all_goals
    go_enter Try.func12, Try.ntmps12
    go_wp2
    go_ret
    simp [*]

/-- what 'need' panics with -/
abbrev errV (n : Int) : Value := .iface 29 (.int .i64 n)
abbrev errP (n : Int) : List PanicEntry := [{ v := errV n, recovered := false }]

set_option maxHeartbeats 400000 in
theorem need_true (n : Int) (w : World) : Calls Try.prog 50 #[.bool true, .int .i64 n] w fun e w' => e = .returned (.tuple #[]) ∧ w = w' := by
  go_enter Try.func50, Try.ntmps50
  go_wp2
  go_end0
  exact ⟨rfl, rfl⟩

set_option maxHeartbeats 400000 in
theorem need_false (n : Int) (w : World) : Calls Try.prog 50 #[.bool false, .int .i64 n] w fun e w' => e = .panicked (errP n) ∧ w = w' := by
  go_enter Try.func50, Try.ntmps50
  go_wp2
  exact ⟨rfl, rfl, rfl⟩

end Go.Proofs.Ytpooakhmpfbmgaa
