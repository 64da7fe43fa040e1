/- octet.reads: what a reader reads, if it has not failed. -/
import Derived.Test.YtpooakhmpfbmgaaOctRd
namespace Go.Proofs.Ytpooakhmpfbmgaa
open Go.RowKit

theorem blk_at {w w' : World} {b : Nat} {cs : Array Value} {t : TypeId} (h : Blk w b cs t) (e : w'.heap[b]? = w.heap[b]?) : Blk w' b cs t := e.trans h

theorem gb_setNew {w w' : World} {row : Option Nat} (h : w.grownBy w' row) {p : Addr} (hp : w.heap.size ≤ p.block) (v : Value) : w.grownBy (w'.setCell p v) row :=
  ⟨h.os, h.tape, h.output, by simpa using h.size, fun k hk hne => (Below.heap_setCell _ _ _ _ (by omega)).trans (h.block k hk hne)⟩
theorem gb_of {w W0 w' : World} {row : Option Nat} (hB : Below w.heap.size w W0) (hg : W0.grownBy w' row) : w.grownBy w' row :=
  gb_trans (gb_below (gb_refl w row) hB (Nat.le_refl _)) hg
set_option maxRecDepth 100000 in
set_option maxHeartbeats 1000000 in
theorem reads_uint64 (f : FuncId) (caps : Array Value) (hcf : ∀ w : World, (callFunc f caps).run Try.prog w = .ok (.enter f caps) w) (b : Nat) (a : Option Addr) (n c : Nat) (w : World) (hb : Blk w b (rdC (.slice a n c) 0) 88) (R : Ending → World → Prop)
    (h : ∀ W0 : World, Below w.heap.size w W0 → Calls Try.prog f caps W0 fun e w' => W0.grownBy w' (some b) ∧
      ((∃ (i : Int), e = .returned (.int .u64 i) ∧ ∀ w2 : World, w.grownBy w2 (some b) → (∀ k, k < w.heap.size ∨ (W0.heap.size ≤ k ∧ k < w'.heap.size) → w2.heap[k]? = w'.heap[k]?) → R (.returned (.int .u64 i)) w2) ∨
       (∃ x v', x ≠ 0 ∧ e = .panicked (errP x) ∧ Blk w' b #[v', .int .i64 0] 88 ∧ ∀ w2 : World, w.grownBy w2 (some b) → Blk w2 b (rdC (.slice a n c) x) 88 → R (.returned (.int .u64 0)) w2))) :
    Calls Try.prog 63 #[.pointer (some ⟨b, 0, none⟩), .func (.func f) #[] caps] w R := by
  have e0 : w.cell? ⟨b, 0, none⟩ = some (.slice a n c) := hb.cell 0
  have e1 : w.cell? ⟨b, 1, none⟩ = some (.int .i64 0) := hb.cell 1
  have hbl := hb.lt
  go_enter Try.func63, Try.ntmps63
  go_wp2_with fail
  refine tries_uint64 f caps hcf _ _ ?_
  have hB := Below.upA (Below.upA (Below.new w (.cells #[.slice a n c] 86)) (.cells #[.int .u64 0] 26)) (.cells #[.int .i64 0] 29)
  have c0 := ((Blk.new w #[.slice a n c] 86).alloc (.cells #[.int .u64 0] 26)).alloc (.cells #[.int .i64 0] 29)
  have c1 := (Blk.new (w.alloc (.cells #[.slice a n c] 86)) #[.int .u64 0] 26).alloc (.cells #[.int .i64 0] 29)
  have c2 := Blk.new ((w.alloc (.cells #[.slice a n c] 86)).alloc (.cells #[.int .u64 0] 26)) #[.int .i64 0] 29
  simp only [World.size_alloc] at c1 c2 ⊢
  refine (h _ hB).mono ?_
  rintro e w' ⟨hg, hr⟩
  have hgs := hg.size
  simp only [World.size_alloc] at hgs
  have c0' := c0.grown hg (by simp; omega)
  have c1' := c1.grown hg (by simp; omega)
  have c2' := c2.grown hg (by simp; omega)
  refine ⟨c1', c2', ?_⟩
  rcases hr with ⟨i, rfl, hy⟩ | ⟨x, v', hx, rfl, hbx, hn⟩
  · refine .inl ⟨i, rfl, ?_⟩
    have hwg : w.grownBy ((w'.setCell ⟨w.heap.size + 1, 0, none⟩ (.int .u64 i)).setCell ⟨w.heap.size + 1 + 1, 0, none⟩ (.int .i64 0)) (some b) :=
      gb_setNew (gb_setNew (gb_of hB hg) (by simp) _) (by simp; omega) _
    have hy' := hy _ hwg (fun k hk => by
      simp only [World.size_alloc] at hk
      rw [Below.heap_setCell _ _ _ _ (by simp; omega), Below.heap_setCell _ _ _ _ (by simp; omega)])
    clear hy
    go_wp2
    exact hy'
  · refine .inr ⟨x, rfl, ?_⟩
    intro w2 hb2
    have hq : (x != 0) = true := by simpa using hx
    have hbx2 := hbx.up hb2
    have c02 := c0'.up hb2
    have c12 := c1'.up hb2
    have c22 := c2'.up hb2
    have k0 := (c02.other ⟨w.heap.size + 1, 0, none⟩ (.int .u64 0) (by simp)).other ⟨w.heap.size + 1 + 1, 0, none⟩ (.int .i64 x) (by simp; omega)
    have kb := (hbx2.other ⟨w.heap.size + 1, 0, none⟩ (.int .u64 0) (by simp; omega)).other ⟨w.heap.size + 1 + 1, 0, none⟩ (.int .i64 x) (by simp; omega)
    have d0 : ((w2.setCell ⟨w.heap.size + 1, 0, none⟩ (.int .u64 0)).setCell ⟨w.heap.size + 1 + 1, 0, none⟩ (.int .i64 x)).cell? ⟨w.heap.size, 0, none⟩ = some (.slice a n c) := k0.cell 0
    have d1 : ((w2.setCell ⟨w.heap.size + 1, 0, none⟩ (.int .u64 0)).setCell ⟨w.heap.size + 1 + 1, 0, none⟩ (.int .i64 x)).cell? ⟨b, 0, none⟩ = some v' := kb.cell 0
    have d2 : ((w2.setCell ⟨w.heap.size + 1, 0, none⟩ (.int .u64 0)).setCell ⟨w.heap.size + 1 + 1, 0, none⟩ (.int .i64 x)).cell? ⟨b, 1, none⟩ = some (.int .i64 0) := kb.cell 1
    have d3 := kb.frozen 0
    have d4 := kb.frozen 1
    have kb2 := (kb.set 0 (.slice a n c)).set 1 (.int .i64 x)
    have hwg : w.grownBy ((((w2.setCell ⟨w.heap.size + 1, 0, none⟩ (.int .u64 0)).setCell ⟨w.heap.size + 1 + 1, 0, none⟩ (.int .i64 x)).setCell ⟨b, 0, none⟩ (.slice a n c)).setCell ⟨b, 1, none⟩ (.int .i64 x)) (some b) :=
      gb_set (gb_set (gb_setNew (gb_setNew (gb_below (gb_of hB hg) hb2 (Nat.le_refl _)) (by simp) _) (by simp; omega) _) _ _) _ _
    have hn' := hn _ hwg kb2
    clear hn k0 kb kb2 hbx2 c02 c12 c22
    go_wp2
    exact hn'

set_option maxHeartbeats 400000 in
theorem readsF_uint64 (fn : Value) (b : Nat) (bs : Value) (x : Int) (w : World) (hb : Blk w b (rdC bs x) 88) (hx : x ≠ 0) :
    Calls Try.prog 63 #[.pointer (some ⟨b, 0, none⟩), fn] w fun e w' => e = .returned (.int .u64 0) ∧ w = w' := by
  have e1 : w.cell? ⟨b, 1, none⟩ = some (.int .i64 x) := hb.cell 1
  have hq : (x != 0) = true := by simpa using hx
  go_enter Try.func63, Try.ntmps63
  go_wp2
  go_ret
  exact ⟨rfl, rfl⟩

set_option maxHeartbeats 400000 in
theorem readsN_uint64 (fn : Value) (w : World) :
    Calls Try.prog 63 #[.pointer none, fn] w fun e w' => e = .returned (.int .u64 0) ∧ w = w' := by
  go_enter Try.func63, Try.ntmps63
  go_wp2
  go_ret
  exact ⟨rfl, rfl⟩
set_option maxRecDepth 100000 in
set_option maxHeartbeats 1000000 in
theorem reads_S_byte (f : FuncId) (caps : Array Value) (hcf : ∀ w : World, (callFunc f caps).run Try.prog w = .ok (.enter f caps) w) (b : Nat) (a : Option Addr) (n c : Nat) (w : World) (hb : Blk w b (rdC (.slice a n c) 0) 88) (R : Ending → World → Prop)
    (h : ∀ W0 : World, Below w.heap.size w W0 → Calls Try.prog f caps W0 fun e w' => W0.grownBy w' (some b) ∧
      ((∃ (va : Option Addr) (vn vc : Nat), e = .returned (.slice va vn vc) ∧ ∀ w2 : World, w.grownBy w2 (some b) → (∀ k, k < w.heap.size ∨ (W0.heap.size ≤ k ∧ k < w'.heap.size) → w2.heap[k]? = w'.heap[k]?) → R (.returned (.slice va vn vc)) w2) ∨
       (∃ x v', x ≠ 0 ∧ e = .panicked (errP x) ∧ Blk w' b #[v', .int .i64 0] 88 ∧ ∀ w2 : World, w.grownBy w2 (some b) → Blk w2 b (rdC (.slice a n c) x) 88 → R (.returned (.slice none 0 0)) w2))) :
    Calls Try.prog 53 #[.pointer (some ⟨b, 0, none⟩), .func (.func f) #[] caps] w R := by
  have e0 : w.cell? ⟨b, 0, none⟩ = some (.slice a n c) := hb.cell 0
  have e1 : w.cell? ⟨b, 1, none⟩ = some (.int .i64 0) := hb.cell 1
  have hbl := hb.lt
  go_enter Try.func53, Try.ntmps53
  go_wp2_with fail
  refine tries_S_byte f caps hcf _ _ ?_
  have hB := Below.upA (Below.upA (Below.new w (.cells #[.slice a n c] 86)) (.cells #[.slice none 0 0] 22)) (.cells #[.int .i64 0] 29)
  have c0 := ((Blk.new w #[.slice a n c] 86).alloc (.cells #[.slice none 0 0] 22)).alloc (.cells #[.int .i64 0] 29)
  have c1 := (Blk.new (w.alloc (.cells #[.slice a n c] 86)) #[.slice none 0 0] 22).alloc (.cells #[.int .i64 0] 29)
  have c2 := Blk.new ((w.alloc (.cells #[.slice a n c] 86)).alloc (.cells #[.slice none 0 0] 22)) #[.int .i64 0] 29
  simp only [World.size_alloc] at c1 c2 ⊢
  refine (h _ hB).mono ?_
  rintro e w' ⟨hg, hr⟩
  have hgs := hg.size
  simp only [World.size_alloc] at hgs
  have c0' := c0.grown hg (by simp; omega)
  have c1' := c1.grown hg (by simp; omega)
  have c2' := c2.grown hg (by simp; omega)
  refine ⟨c1', c2', ?_⟩
  rcases hr with ⟨va, vn, vc, rfl, hy⟩ | ⟨x, v', hx, rfl, hbx, hn⟩
  · refine .inl ⟨va, vn, vc, rfl, ?_⟩
    have hwg : w.grownBy ((w'.setCell ⟨w.heap.size + 1, 0, none⟩ (.slice va vn vc)).setCell ⟨w.heap.size + 1 + 1, 0, none⟩ (.int .i64 0)) (some b) :=
      gb_setNew (gb_setNew (gb_of hB hg) (by simp) _) (by simp; omega) _
    have hy' := hy _ hwg (fun k hk => by
      simp only [World.size_alloc] at hk
      rw [Below.heap_setCell _ _ _ _ (by simp; omega), Below.heap_setCell _ _ _ _ (by simp; omega)])
    clear hy
    go_wp2
    exact hy'
  · refine .inr ⟨x, rfl, ?_⟩
    intro w2 hb2
    have hq : (x != 0) = true := by simpa using hx
    have hbx2 := hbx.up hb2
    have c02 := c0'.up hb2
    have c12 := c1'.up hb2
    have c22 := c2'.up hb2
    have k0 := (c02.other ⟨w.heap.size + 1, 0, none⟩ (.slice none 0 0) (by simp)).other ⟨w.heap.size + 1 + 1, 0, none⟩ (.int .i64 x) (by simp; omega)
    have kb := (hbx2.other ⟨w.heap.size + 1, 0, none⟩ (.slice none 0 0) (by simp; omega)).other ⟨w.heap.size + 1 + 1, 0, none⟩ (.int .i64 x) (by simp; omega)
    have d0 : ((w2.setCell ⟨w.heap.size + 1, 0, none⟩ (.slice none 0 0)).setCell ⟨w.heap.size + 1 + 1, 0, none⟩ (.int .i64 x)).cell? ⟨w.heap.size, 0, none⟩ = some (.slice a n c) := k0.cell 0
    have d1 : ((w2.setCell ⟨w.heap.size + 1, 0, none⟩ (.slice none 0 0)).setCell ⟨w.heap.size + 1 + 1, 0, none⟩ (.int .i64 x)).cell? ⟨b, 0, none⟩ = some v' := kb.cell 0
    have d2 : ((w2.setCell ⟨w.heap.size + 1, 0, none⟩ (.slice none 0 0)).setCell ⟨w.heap.size + 1 + 1, 0, none⟩ (.int .i64 x)).cell? ⟨b, 1, none⟩ = some (.int .i64 0) := kb.cell 1
    have d3 := kb.frozen 0
    have d4 := kb.frozen 1
    have kb2 := (kb.set 0 (.slice a n c)).set 1 (.int .i64 x)
    have hwg : w.grownBy ((((w2.setCell ⟨w.heap.size + 1, 0, none⟩ (.slice none 0 0)).setCell ⟨w.heap.size + 1 + 1, 0, none⟩ (.int .i64 x)).setCell ⟨b, 0, none⟩ (.slice a n c)).setCell ⟨b, 1, none⟩ (.int .i64 x)) (some b) :=
      gb_set (gb_set (gb_setNew (gb_setNew (gb_below (gb_of hB hg) hb2 (Nat.le_refl _)) (by simp) _) (by simp; omega) _) _ _) _ _
    have hn' := hn _ hwg kb2
    clear hn k0 kb kb2 hbx2 c02 c12 c22
    go_wp2
    exact hn'

set_option maxHeartbeats 400000 in
theorem readsF_S_byte (fn : Value) (b : Nat) (bs : Value) (x : Int) (w : World) (hb : Blk w b (rdC bs x) 88) (hx : x ≠ 0) :
    Calls Try.prog 53 #[.pointer (some ⟨b, 0, none⟩), fn] w fun e w' => e = .returned (.slice none 0 0) ∧ w = w' := by
  have e1 : w.cell? ⟨b, 1, none⟩ = some (.int .i64 x) := hb.cell 1
  have hq : (x != 0) = true := by simpa using hx
  go_enter Try.func53, Try.ntmps53
  go_wp2
  go_ret
  exact ⟨rfl, rfl⟩

set_option maxHeartbeats 400000 in
theorem readsN_S_byte (fn : Value) (w : World) :
    Calls Try.prog 53 #[.pointer none, fn] w fun e w' => e = .returned (.slice none 0 0) ∧ w = w' := by
  go_enter Try.func53, Try.ntmps53
  go_wp2
  go_ret
  exact ⟨rfl, rfl⟩

end Go.Proofs.Ytpooakhmpfbmgaa
