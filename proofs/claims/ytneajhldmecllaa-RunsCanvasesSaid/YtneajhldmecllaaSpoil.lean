/- gessolaw10.spoil: a canvas is written over. -/
import Derived.Test.YtneajhldmecllaaRefCan
namespace Go.Proofs.Ytneajhldmecllaa
open Go.RowKit

def SpB (base B : Nat) (n : Nat) (a : Option Addr) (W : World) : Prop := 0 < n → ∃ g cur, a = some ⟨g, 0, none⟩ ∧ base ≤ g ∧ g < B ∧ Blk W g cur 29 ∧ ∀ j, j < n * 256 → ∃ z : UInt8, cur[j]? = some (vb z)

theorem byte_succ (z : UInt8) : ∃ z' : UInt8, IntKind.u8.wrap ((z.toNat : Int) + 1) = (z'.toNat : Int) := by
  refine ⟨UInt8.ofNat (z.toNat + 1), ?_⟩
  show ((z.toNat : Int) + 1) % 256 = _
  simp

set_option maxRecDepth 100000 in
set_option maxHeartbeats 2000000 in
theorem spoil_any (base : Nat) (x y : Int) (v : Value) (L : List (List Col)) (w : World) (ho : OwnT base w v L) (hl : L.length ≤ 1000) (hbase : base ≤ w.heap.size) :
    Calls Try.prog 30 #[canV x y v] w fun e w' => e = .returned (.tuple #[]) ∧ Below base w w' := by
  obtain ⟨a, c, rfl, hc, hm⟩ := ownsRow_slice ho.2
  have hS : SpB base w.heap.size L.length a w := by
    intro h0
    rcases ho.2.2 with ⟨h1, h2⟩ | ⟨g, cap, cur, hv, hg, hh, h1, h2, h3, h4⟩
    · omega
    · cases hv
      refine ⟨g, cur, rfl, hg, Blk.lt hh, hh, fun j hj => ?_⟩
      have hlen := tlc_len L ho.1
      have hj2 : j < (tlc L).length := by omega
      obtain ⟨z, hz⟩ := tlc_vb L (tlc L)[j] (List.getElem_mem hj2)
      refine ⟨z, ?_⟩
      have := congrArg (fun l => l[j]?) h4
      simp only [List.getElem?_take, if_pos hj, List.getElem?_eq_getElem hj2, hz] at this
      simpa using this
  have k0 := Blk.new w #[.int .i64 x, .int .i64 y, .slice a L.length c] 43
  have hB1 : Below base w (w.alloc (.cells #[.int .i64 x, .int .i64 y, .slice a L.length c] 43)) := (Below.refl _ _).alloc hbase _
  have hS1 : SpB base w.heap.size L.length a (w.alloc (.cells #[.int .i64 x, .int .i64 y, .slice a L.length c] 43)) := by
    intro h0
    obtain ⟨g, cur, e1, e2, e3, e4, e5⟩ := hS h0
    exact ⟨g, cur, e1, e2, e3, e4.alloc _, e5⟩
  clear hS ho
  unfold maxLen at hm
  go_enter Try.func30, Try.ntmps30
  go_wp2
  go_loopw [6] (fun i wr => ∃ k : Nat, k ≤ L.length ∧ i = .int .i64 k ∧ SpB base w.heap.size L.length a wr ∧ Blk wr w.heap.size #[.int .i64 x, .int .i64 y, .slice a L.length c] 43 ∧ Below base w wr) (fun i _ => L.length - (intOf i).toNat)
  case atStart => exact ⟨0, by omega, rfl, hS1, k0, hB1⟩
  case round =>
    obtain ⟨k, hk, rfl, hS, kw, hB⟩ := hrel
    by_cases hlt : k < L.length
    · obtain ⟨g, cur, rfl, hg, hgl, hb, hcur⟩ := hS (by omega)
      obtain ⟨z, hz⟩ := hcur (k * 256) (by omega)
      obtain ⟨z', hz'⟩ := byte_succ z
      have e2 : wr.cell? ⟨w.heap.size, 2, none⟩ = some (.slice (some ⟨g, 0, none⟩) L.length c) := kw.cell 2
      have e3 : wr.cell? ⟨g, k * 256, none⟩ = some (vb z) := by rw [hb.cell]; exact hz
      have e4 := hb.frozen (k * 256)
      go_wp2
      refine wp_region_cuts [.q [_, _, _, _, _, _, _, _, _]] [_, _, _] rfl (fun w'' => Below wr.heap.size wr w'') (by kernel_rfl) (by kernel_rfl) (fun _ _ d _ _ h => by cases d <;> exact h) ?_
      refine cut_q (Below.refl _ wr).drew ?_
      repeat (first | go_big_quiet_step ((intros; rfl)) | quiet_step ((intros; rfl)) | fail | (refine wq_loadB rfl rfl (by kernel_rfl) (by assumption) ?_; simp only [Act.put, List.setIfInBounds_toArray, List.set_cons_succ, List.set_cons_zero]))
      refine wpQuiet_nil ?_
      refine cut_end ?_
      go_wp2
      refine ⟨⟨k + 1, by omega, by go_num, fun _ => ⟨g, cur.setIfInBounds (k * 256) (vb z'), rfl, hg, hgl, (hb.set (k * 256) (vb z')).drew, fun j hj => ?_⟩, kw.other ⟨g, k * 256, none⟩ _ (by simp; omega), ?_⟩, by simp [intOf]; omega⟩
      · by_cases e : k * 256 = j
        · subst e
          have hs : k * 256 < cur.size := (Array.getElem?_eq_some_iff.1 hz).1
          exact ⟨z', by rw [Array.getElem?_setIfInBounds_self_of_lt hs]⟩
        · rw [Array.getElem?_setIfInBounds_ne e]
          exact hcur j hj
      · exact (hB.setCell (p := ⟨g, k * 256, none⟩) hg _).drew
    · go_wp2
      go_end0
      exact ⟨rfl, hB⟩

end Go.Proofs.Ytneajhldmecllaa
