/- runs.Size. -/
import Derived.Test.YtneajhldmecllaaTiles
import Derived.Test.YtneajhldmecllaaRunsPure
namespace Go.Proofs.Ytneajhldmecllaa
open Go.RowKit

/-! ### the number of runs -/
theorem rleGo_count (ds : List Col) : ∀ (n : Nat) (c : Col), (rleGo n c ds).length = 1 + chg c ds := by
  induction ds with
  | nil => intro n c; rfl
  | cons d ds ih =>
    intro n c
    unfold rleGo chg
    by_cases h : d = c
    · subst h; rw [if_pos rfl, ih]; simp
    · rw [if_neg h, List.length_cons, ih]; simp [h]; omega
theorem chg_self (c : Col) (ds : List Col) : chg c (c :: ds) = chg c ds := by simp [chg]
theorem runs_count (T : List Col) (h : T ≠ []) : runsOf T = (rle T).length := by
  cases T with
  | nil => exact absurd rfl h
  | cons c cs => unfold runsOf; rw [show (c :: cs).head! = c from rfl, chg_self]; exact (rleGo_count cs 1 c).symm
theorem enc_len (T : List Col) (hT : T.length = 64) : (enc T).length = 5 * runsOf T := by
  unfold enc
  rw [rleB_len, runs_count T (by rintro rfl; simp at hT)]
theorem runsOf_le (T : List Col) (hT : T.length = 64) : runsOf T ≤ 65 := by unfold runsOf; have := chg_le T.head! T; omega

set_option maxRecDepth 100000 in
set_option maxHeartbeats 1000000 in
theorem size1_any (n i : Nat) (T : List Col) (hT : T.length = 64) (hn : n ≤ 1000000) (w : World) :
    Calls Try.prog 37 #[.int .i64 n, .int .i64 i, tileV T] w fun e w' => e = .returned (.int .i64 ((n + 5 * runsOf T : Nat) : Int)) ∧ Below w.heap.size w w' := by
  have hr := runsOf_le T hT
  unfold tileV
  go_enter Try.func37, Try.ntmps37
  go_wp2_with (first | refine wl_load_tile rfl rfl hT (Blk.new w _ _).tileAt ?_ | (go_at_call 17; refine (runs_any T hT _).mono ?_; rintro e w' ⟨rfl, hb⟩))
  go_ret
  refine ⟨ret_int (by go_num), ?_⟩
  repeat (first | assumption | exact Below.refl _ _ | refine below_dN ?_ _ | refine Below.alloc ?_ (by first | exact Nat.le_refl _ | omega | (simp; done) | (simp; omega)) _ | refine Below.setCell ?_ (by first | exact Nat.le_refl _ | omega | (simp; done) | (simp; omega)) _ | refine Below.drew ?_ | refine Below.trans ?_ (Below.mono (by assumption) (by first | exact Nat.le_refl _ | omega | (simp; done) | (simp; omega))))

def sizeOfT (L : List (List Col)) : Nat := 5 * (L.map runsOf).sum
theorem sizeOfT_le (L : List (List Col)) (h : All64 L) : sizeOfT L ≤ 325 * L.length := by
  unfold sizeOfT
  induction L with
  | nil => simp
  | cons T L ih =>
    have := ih (fun U hU => h U (by simp [hU]))
    have := runsOf_le T (h T (by simp))
    simp; omega
theorem sizeOfT_snoc (L : List (List Col)) (T : List Col) : sizeOfT (L ++ [T]) = sizeOfT L + 5 * runsOf T := by
  unfold sizeOfT; simp; omega

set_option maxRecDepth 100000 in
set_option maxHeartbeats 1000000 in
theorem told_size (v : Value) (L : List (List Col)) (w : World) (h : Tiles w v L) (hl : L.length ≤ 1000) :
    Calls Try.prog 36 #[.int .i64 0, v, .func (.func 37) #[] #[]] w fun e w' => e = .returned (.int .i64 (sizeOfT L)) ∧ Below w.heap.size w w' := by
  obtain ⟨a1, c1, rfl, hc1, hm1⟩ := h.slice
  go_enter Try.func36, Try.ntmps36
  go_wp2
  go_loopw [0, 11] (fun s i wr => ∃ k : Nat, k ≤ L.length ∧ i = .int .i64 k ∧ s = .int .i64 (sizeOfT (L.take k)) ∧ Below w.heap.size w wr ∧ w.heap.size ≤ wr.heap.size) (fun _ i _ => L.length - (intOf i).toNat)
  case atStart => exact ⟨0, by omega, rfl, rfl, Below.refl _ _, Nat.le_refl _⟩
  case round =>
    obtain ⟨k, hk, rfl, rfl, hB, hs⟩ := hrel
    by_cases hlt : k < L.length
    · obtain ⟨b1, o1, rfl, e1, x1⟩ := h.get k hlt
      have e1' := e1.below hB x1
      have t1 : L[k].length = 64 := h.1 _ (by simp)
      have hle := sizeOfT_le (L.take k) (fun U hU => h.1 U (List.mem_of_mem_take hU))
      have hkl : (L.take k).length ≤ 1000 := by simp; omega
      have HS : Hid (sizeOfT (L.take (k + 1)) = sizeOfT (L.take k) + 5 * runsOf L[k]) := by rw [List.take_succ_eq_append_getElem hlt, sizeOfT_snoc]; exact Lib.hid rfl
      go_wp2_with (first | refine wl_load_tile rfl rfl t1 e1' ?_ | refine wl_alloc_tile rfl ?_ | refine wl_store_tile_new rfl rfl rfl rfl (by rfl) t1 ?_ | refine wl_load_tile rfl rfl t1 (Blk.new _ _ _).tileAt ?_ | (go_at_call 37; refine (size1_any _ _ L[k] t1 (by omega) _).mono ?_; rintro e w' ⟨rfl, hb⟩))
      go_roundw
      case rel => exact ⟨k + 1, by omega, by go_num, by rw [HS.out]; go_num, by repeat (first | assumption | exact Below.refl _ _ | refine below_dN ?_ _ | refine Below.alloc ?_ (by first | exact Nat.le_refl _ | omega | (simp; done) | (simp; omega)) _ | refine Below.setCell ?_ (by first | exact Nat.le_refl _ | omega | (simp; done) | (simp; omega)) _ | refine Below.drew ?_ | refine Below.trans ?_ (Below.mono (by assumption) (by first | exact Nat.le_refl _ | omega | (simp; done) | (simp; omega)))), by have := hb.size; simp at this; omega⟩
      case measure => simp only [intOf]; omega
    · obtain rfl : k = L.length := by omega
      rw [List.take_length]
      go_wp2
      go_ret
      exact ⟨rfl, hB⟩

set_option maxRecDepth 100000 in
set_option maxHeartbeats 1000000 in
theorem size_any (v : Value) (L : List (List Col)) (w : World) (h : Tiles w v L) (hl : L.length ≤ 1000) :
    Calls Try.prog 16 #[v] w fun e w' => e = .returned (.int .i64 (sizeOfT L)) ∧ Below w.heap.size w w' := by
  go_enter Try.func16, Try.ntmps16
  go_wp2_with (go_at_call 36; refine (told_size v L _ h hl).mono ?_; rintro e w' ⟨rfl, hb⟩)
  go_ret
  exact ⟨rfl, hb⟩

end Go.Proofs.Ytneajhldmecllaa
