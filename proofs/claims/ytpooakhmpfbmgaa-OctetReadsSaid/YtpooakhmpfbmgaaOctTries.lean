/- octet.tries: a panic that is caught. -/
import Derived.Test.YtpooakhmpfbmgaaOctSame
import Derived.Defers
import Derived.Recover
import Derived.Laws.Pointers
namespace Go.Proofs.Ytpooakhmpfbmgaa
open Go.RowKit

set_option maxRecDepth 100000 in
set_option maxHeartbeats 1000000 in
theorem catch_S_byte (ps pe : Nat) (v0 : Value) (e0 n : Int) (older : List PanicEntry) (w : World) (hs : Blk w ps #[v0] 22) (he : Blk w pe #[.int .i64 e0] 29) (hne : ps ≠ pe) :
    CallsD Try.prog 67 #[.pointer (some ⟨ps, 0, none⟩), .pointer (some ⟨pe, 0, none⟩)] (.panicking ({ v := errV n, recovered := false } :: older)) w fun e u' w' =>
      e = .returned (.tuple #[]) ∧ u' = .panicking ({ v := errV n, recovered := true } :: older) ∧ ∃ w1, Below w.heap.size w w1 ∧ w' = (w1.setCell ⟨ps, 0, none⟩ (.slice none 0 0)).setCell ⟨pe, 0, none⟩ (.int .i64 n) := by
  have hta : ∀ w, (Instr.typeAssert (errV n) 20 29 true).run Try.prog w = .ok (.tuple #[.int .i64 n, .bool true]) w := fun w => by kernel_rfl
  obtain ⟨c1, f1, l1⟩ := hs.all
  obtain ⟨c2, f2, l2⟩ := he.all
  have d1 : w.cell? ⟨ps, 0, none⟩ = some v0 := c1 0
  have d2 : w.cell? ⟨pe, 0, none⟩ = some (.int .i64 e0) := c2 0
  refine callsD_of_wpS Try.func67 rfl fun c₀ cs hu => ?_
  apply wpS_seq
  apply wpS_region
  simp [wpOpsS, go_sem, recoverD, hu, Try.ntmps67, Exit.thenS]
  refine wpS_of_wp ?_
  simp only [Array.replicate_succ, Array.replicate_zero, List.push_toArray, List.append_toArray, List.nil_append, List.cons_append, List.setIfInBounds_toArray, List.set_cons_succ, List.set_cons_zero]
  go_wp2
  exact ⟨rfl, _, rfl, .tuple #[], results_none (by kernel_rfl) _ _ _, rfl, rfl, _, Below.refl _ w, rfl⟩

theorem idle_S_byte (p q : Addr) (w : World) :
    CallsD Try.prog 67 #[.pointer (some p), .pointer (some q)] .returning w fun e u' w' => e = .returned (.tuple #[]) ∧ u' = .returning ∧ w' = w := by
  refine callsD_of_wpS Try.func67 rfl fun c₀ cs hu => ?_
  apply wpS_seq
  apply wpS_region
  simp [wpOpsS, go_sem, recoverD, hu, Try.ntmps67, Exit.thenS]
  refine wpS_of_wp ?_
  simp only [Array.replicate_succ, Array.replicate_zero, List.push_toArray, List.append_toArray, List.nil_append, List.cons_append, List.setIfInBounds_toArray, List.set_cons_succ, List.set_cons_zero]
  go_wp2
  cases c₀
  simp_all [bodyPostS, results, Try.results67]

set_option maxHeartbeats 1000000 in
theorem tries_S_byte (f : FuncId) (caps : Array Value) (hcf : ∀ w : World, (callFunc f caps).run Try.prog w = .ok (.enter f caps) w) (w : World) (R : Ending → World → Prop)
    (h : Calls Try.prog f caps ((w.alloc (.cells #[.slice none 0 0] 22)).alloc (.cells #[.int .i64 0] 29)) fun e w' => Blk w' w.heap.size #[.slice none 0 0] 22 ∧ Blk w' (w.heap.size + 1) #[.int .i64 0] 29 ∧
      ((∃ (a : Option Addr) (m c : Nat), e = .returned (.slice a m c) ∧ R (.returned (.tuple #[.slice a m c, .int .i64 0])) ((w'.setCell ⟨w.heap.size, 0, none⟩ (.slice a m c)).setCell ⟨w.heap.size + 1, 0, none⟩ (.int .i64 0))) ∨
       (∃ n, e = .panicked (errP n) ∧ ∀ w2, Below w'.heap.size w' w2 → R (.returned (.tuple #[.slice none 0 0, .int .i64 n])) ((w2.setCell ⟨w.heap.size, 0, none⟩ (.slice none 0 0)).setCell ⟨w.heap.size + 1, 0, none⟩ (.int .i64 n))))) :
    Calls Try.prog 44 #[.func (.func f) #[] caps] w R := by
  have hmf : ∀ (fn : Fn) (first cap : Array Value) (w : World), (Instr.makeFunc fn first cap).run Try.prog w = .ok (.func fn first cap) w := fun _ _ _ _ => rfl
  go_enter_defers Try.func44, Try.ntmps44
  go_wp2
  refine h.mono ?_
  rintro e w' ⟨hb1, hb2, ⟨a, m, c, rfl, hy⟩ | ⟨n, rfl, hn⟩⟩
  · obtain ⟨hc1, hf1, hl1⟩ := hb1.all
    obtain ⟨hc2, hf2, hl2⟩ := hb2.all
    have d1 : w'.cell? ⟨w.heap.size, 0, none⟩ = some (.slice none 0 0) := hc1 0
    have d2 : w'.cell? ⟨w.heap.size + 1, 0, none⟩ = some (.int .i64 0) := hc2 0
    go_wp2
    refine leaves_cons (f := 67) (args := #[.pointer (some ⟨w.heap.size, 0, none⟩), .pointer (some ⟨w.heap.size + 1, 0, none⟩)]) (by simp) (by simp [go_sem]) ?_
    refine (idle_S_byte ⟨w.heap.size, 0, none⟩ ⟨w.heap.size + 1, 0, none⟩ _).mono ?_
    rintro e u' w'' ⟨rfl, rfl, rfl⟩
    have B1 := (hb1.set 0 (.slice a m c)).other ⟨w.heap.size + 1, 0, none⟩ (.int .i64 0) (by simp)
    have B2 := (hb2.other ⟨w.heap.size, 0, none⟩ (.slice a m c) (by simp)).set 0 (.int .i64 0)
    have r1 : ((w'.setCell ⟨w.heap.size, 0, none⟩ (.slice a m c)).setCell ⟨w.heap.size + 1, 0, none⟩ (.int .i64 0)).cell? ⟨w.heap.size, 0, none⟩ = some (.slice a m c) := B1.cell 0
    have r2 : ((w'.setCell ⟨w.heap.size, 0, none⟩ (.slice a m c)).setCell ⟨w.heap.size + 1, 0, none⟩ (.int .i64 0)).cell? ⟨w.heap.size + 1, 0, none⟩ = some (.int .i64 0) := B2.cell 0
    simp [Leaves, settle, results, Try.results44, go_sem, r1, r2]
    exact hy
  · obtain ⟨hc1, hf1, hl1⟩ := hb1.all
    obtain ⟨hc2, hf2, hl2⟩ := hb2.all
    refine leaves_cons (f := 67) (args := #[.pointer (some ⟨w.heap.size, 0, none⟩), .pointer (some ⟨w.heap.size + 1, 0, none⟩)]) (by simp) (by simp [go_sem]) ?_
    refine (catch_S_byte w.heap.size (w.heap.size + 1) _ _ n [] _ hb1 hb2 (by omega)).mono ?_
    rintro e u' w'' ⟨rfl, rfl, w2, hbw, rfl⟩
    have B1 := ((hb1.below hbw hl1).set 0 (.slice none 0 0)).other ⟨w.heap.size + 1, 0, none⟩ (.int .i64 n) (by simp)
    have B2 := ((hb2.below hbw hl2).other ⟨w.heap.size, 0, none⟩ (.slice none 0 0) (by simp)).set 0 (.int .i64 n)
    have r1 : ((w2.setCell ⟨w.heap.size, 0, none⟩ (.slice none 0 0)).setCell ⟨w.heap.size + 1, 0, none⟩ (.int .i64 n)).cell? ⟨w.heap.size, 0, none⟩ = some (.slice none 0 0) := B1.cell 0
    have r2 : ((w2.setCell ⟨w.heap.size, 0, none⟩ (.slice none 0 0)).setCell ⟨w.heap.size + 1, 0, none⟩ (.int .i64 n)).cell? ⟨w.heap.size + 1, 0, none⟩ = some (.int .i64 n) := B2.cell 0
    simp [Leaves, settle, results, Try.results44, go_sem, r1, r2]
    exact hn _ hbw
set_option maxRecDepth 100000 in
set_option maxHeartbeats 1000000 in
theorem catch_uint64 (ps pe : Nat) (v0 : Value) (e0 n : Int) (older : List PanicEntry) (w : World) (hs : Blk w ps #[v0] 26) (he : Blk w pe #[.int .i64 e0] 29) (hne : ps ≠ pe) :
    CallsD Try.prog 68 #[.pointer (some ⟨ps, 0, none⟩), .pointer (some ⟨pe, 0, none⟩)] (.panicking ({ v := errV n, recovered := false } :: older)) w fun e u' w' =>
      e = .returned (.tuple #[]) ∧ u' = .panicking ({ v := errV n, recovered := true } :: older) ∧ ∃ w1, Below w.heap.size w w1 ∧ w' = (w1.setCell ⟨ps, 0, none⟩ (.int .u64 0)).setCell ⟨pe, 0, none⟩ (.int .i64 n) := by
  have hta : ∀ w, (Instr.typeAssert (errV n) 20 29 true).run Try.prog w = .ok (.tuple #[.int .i64 n, .bool true]) w := fun w => by kernel_rfl
  obtain ⟨c1, f1, l1⟩ := hs.all
  obtain ⟨c2, f2, l2⟩ := he.all
  have d1 : w.cell? ⟨ps, 0, none⟩ = some v0 := c1 0
  have d2 : w.cell? ⟨pe, 0, none⟩ = some (.int .i64 e0) := c2 0
  refine callsD_of_wpS Try.func68 rfl fun c₀ cs hu => ?_
  apply wpS_seq
  apply wpS_region
  simp [wpOpsS, go_sem, recoverD, hu, Try.ntmps68, Exit.thenS]
  refine wpS_of_wp ?_
  simp only [Array.replicate_succ, Array.replicate_zero, List.push_toArray, List.append_toArray, List.nil_append, List.cons_append, List.setIfInBounds_toArray, List.set_cons_succ, List.set_cons_zero]
  go_wp2
  exact ⟨rfl, _, rfl, .tuple #[], results_none (by kernel_rfl) _ _ _, rfl, rfl, _, Below.refl _ w, rfl⟩

theorem idle_uint64 (p q : Addr) (w : World) :
    CallsD Try.prog 68 #[.pointer (some p), .pointer (some q)] .returning w fun e u' w' => e = .returned (.tuple #[]) ∧ u' = .returning ∧ w' = w := by
  refine callsD_of_wpS Try.func68 rfl fun c₀ cs hu => ?_
  apply wpS_seq
  apply wpS_region
  simp [wpOpsS, go_sem, recoverD, hu, Try.ntmps68, Exit.thenS]
  refine wpS_of_wp ?_
  simp only [Array.replicate_succ, Array.replicate_zero, List.push_toArray, List.append_toArray, List.nil_append, List.cons_append, List.setIfInBounds_toArray, List.set_cons_succ, List.set_cons_zero]
  go_wp2
  cases c₀
  simp_all [bodyPostS, results, Try.results68]

set_option maxHeartbeats 1000000 in
theorem tries_uint64 (f : FuncId) (caps : Array Value) (hcf : ∀ w : World, (callFunc f caps).run Try.prog w = .ok (.enter f caps) w) (w : World) (R : Ending → World → Prop)
    (h : Calls Try.prog f caps ((w.alloc (.cells #[.int .u64 0] 26)).alloc (.cells #[.int .i64 0] 29)) fun e w' => Blk w' w.heap.size #[.int .u64 0] 26 ∧ Blk w' (w.heap.size + 1) #[.int .i64 0] 29 ∧
      ((∃ (i : Int), e = .returned (.int .u64 i) ∧ R (.returned (.tuple #[.int .u64 i, .int .i64 0])) ((w'.setCell ⟨w.heap.size, 0, none⟩ (.int .u64 i)).setCell ⟨w.heap.size + 1, 0, none⟩ (.int .i64 0))) ∨
       (∃ n, e = .panicked (errP n) ∧ ∀ w2, Below w'.heap.size w' w2 → R (.returned (.tuple #[.int .u64 0, .int .i64 n])) ((w2.setCell ⟨w.heap.size, 0, none⟩ (.int .u64 0)).setCell ⟨w.heap.size + 1, 0, none⟩ (.int .i64 n))))) :
    Calls Try.prog 48 #[.func (.func f) #[] caps] w R := by
  have hmf : ∀ (fn : Fn) (first cap : Array Value) (w : World), (Instr.makeFunc fn first cap).run Try.prog w = .ok (.func fn first cap) w := fun _ _ _ _ => rfl
  go_enter_defers Try.func48, Try.ntmps48
  go_wp2
  refine h.mono ?_
  rintro e w' ⟨hb1, hb2, ⟨i, rfl, hy⟩ | ⟨n, rfl, hn⟩⟩
  · obtain ⟨hc1, hf1, hl1⟩ := hb1.all
    obtain ⟨hc2, hf2, hl2⟩ := hb2.all
    have d1 : w'.cell? ⟨w.heap.size, 0, none⟩ = some (.int .u64 0) := hc1 0
    have d2 : w'.cell? ⟨w.heap.size + 1, 0, none⟩ = some (.int .i64 0) := hc2 0
    go_wp2
    refine leaves_cons (f := 68) (args := #[.pointer (some ⟨w.heap.size, 0, none⟩), .pointer (some ⟨w.heap.size + 1, 0, none⟩)]) (by simp) (by simp [go_sem]) ?_
    refine (idle_uint64 ⟨w.heap.size, 0, none⟩ ⟨w.heap.size + 1, 0, none⟩ _).mono ?_
    rintro e u' w'' ⟨rfl, rfl, rfl⟩
    have B1 := (hb1.set 0 (.int .u64 i)).other ⟨w.heap.size + 1, 0, none⟩ (.int .i64 0) (by simp)
    have B2 := (hb2.other ⟨w.heap.size, 0, none⟩ (.int .u64 i) (by simp)).set 0 (.int .i64 0)
    have r1 : ((w'.setCell ⟨w.heap.size, 0, none⟩ (.int .u64 i)).setCell ⟨w.heap.size + 1, 0, none⟩ (.int .i64 0)).cell? ⟨w.heap.size, 0, none⟩ = some (.int .u64 i) := B1.cell 0
    have r2 : ((w'.setCell ⟨w.heap.size, 0, none⟩ (.int .u64 i)).setCell ⟨w.heap.size + 1, 0, none⟩ (.int .i64 0)).cell? ⟨w.heap.size + 1, 0, none⟩ = some (.int .i64 0) := B2.cell 0
    simp [Leaves, settle, results, Try.results48, go_sem, r1, r2]
    exact hy
  · obtain ⟨hc1, hf1, hl1⟩ := hb1.all
    obtain ⟨hc2, hf2, hl2⟩ := hb2.all
    refine leaves_cons (f := 68) (args := #[.pointer (some ⟨w.heap.size, 0, none⟩), .pointer (some ⟨w.heap.size + 1, 0, none⟩)]) (by simp) (by simp [go_sem]) ?_
    refine (catch_uint64 w.heap.size (w.heap.size + 1) _ _ n [] _ hb1 hb2 (by omega)).mono ?_
    rintro e u' w'' ⟨rfl, rfl, w2, hbw, rfl⟩
    have B1 := ((hb1.below hbw hl1).set 0 (.int .u64 0)).other ⟨w.heap.size + 1, 0, none⟩ (.int .i64 n) (by simp)
    have B2 := ((hb2.below hbw hl2).other ⟨w.heap.size, 0, none⟩ (.int .u64 0) (by simp)).set 0 (.int .i64 n)
    have r1 : ((w2.setCell ⟨w.heap.size, 0, none⟩ (.int .u64 0)).setCell ⟨w.heap.size + 1, 0, none⟩ (.int .i64 n)).cell? ⟨w.heap.size, 0, none⟩ = some (.int .u64 0) := B1.cell 0
    have r2 : ((w2.setCell ⟨w.heap.size, 0, none⟩ (.int .u64 0)).setCell ⟨w.heap.size + 1, 0, none⟩ (.int .i64 n)).cell? ⟨w.heap.size + 1, 0, none⟩ = some (.int .i64 n) := B2.cell 0
    simp [Leaves, settle, results, Try.results48, go_sem, r1, r2]
    exact hn _ hbw
set_option maxRecDepth 100000 in
set_option maxHeartbeats 1000000 in
theorem catch_int (ps pe : Nat) (v0 : Value) (e0 n : Int) (older : List PanicEntry) (w : World) (hs : Blk w ps #[v0] 3) (he : Blk w pe #[.int .i64 e0] 29) (hne : ps ≠ pe) :
    CallsD Try.prog 69 #[.pointer (some ⟨ps, 0, none⟩), .pointer (some ⟨pe, 0, none⟩)] (.panicking ({ v := errV n, recovered := false } :: older)) w fun e u' w' =>
      e = .returned (.tuple #[]) ∧ u' = .panicking ({ v := errV n, recovered := true } :: older) ∧ ∃ w1, Below w.heap.size w w1 ∧ w' = (w1.setCell ⟨ps, 0, none⟩ (.int .i64 0)).setCell ⟨pe, 0, none⟩ (.int .i64 n) := by
  have hta : ∀ w, (Instr.typeAssert (errV n) 20 29 true).run Try.prog w = .ok (.tuple #[.int .i64 n, .bool true]) w := fun w => by kernel_rfl
  obtain ⟨c1, f1, l1⟩ := hs.all
  obtain ⟨c2, f2, l2⟩ := he.all
  have d1 : w.cell? ⟨ps, 0, none⟩ = some v0 := c1 0
  have d2 : w.cell? ⟨pe, 0, none⟩ = some (.int .i64 e0) := c2 0
  refine callsD_of_wpS Try.func69 rfl fun c₀ cs hu => ?_
  apply wpS_seq
  apply wpS_region
  simp [wpOpsS, go_sem, recoverD, hu, Try.ntmps69, Exit.thenS]
  refine wpS_of_wp ?_
  simp only [Array.replicate_succ, Array.replicate_zero, List.push_toArray, List.append_toArray, List.nil_append, List.cons_append, List.setIfInBounds_toArray, List.set_cons_succ, List.set_cons_zero]
  go_wp2
  exact ⟨rfl, _, rfl, .tuple #[], results_none (by kernel_rfl) _ _ _, rfl, rfl, _, Below.refl _ w, rfl⟩

theorem idle_int (p q : Addr) (w : World) :
    CallsD Try.prog 69 #[.pointer (some p), .pointer (some q)] .returning w fun e u' w' => e = .returned (.tuple #[]) ∧ u' = .returning ∧ w' = w := by
  refine callsD_of_wpS Try.func69 rfl fun c₀ cs hu => ?_
  apply wpS_seq
  apply wpS_region
  simp [wpOpsS, go_sem, recoverD, hu, Try.ntmps69, Exit.thenS]
  refine wpS_of_wp ?_
  simp only [Array.replicate_succ, Array.replicate_zero, List.push_toArray, List.append_toArray, List.nil_append, List.cons_append, List.setIfInBounds_toArray, List.set_cons_succ, List.set_cons_zero]
  go_wp2
  cases c₀
  simp_all [bodyPostS, results, Try.results69]

set_option maxHeartbeats 1000000 in
theorem tries_int (f : FuncId) (caps : Array Value) (hcf : ∀ w : World, (callFunc f caps).run Try.prog w = .ok (.enter f caps) w) (w : World) (R : Ending → World → Prop)
    (h : Calls Try.prog f caps ((w.alloc (.cells #[.int .i64 0] 3)).alloc (.cells #[.int .i64 0] 29)) fun e w' => Blk w' w.heap.size #[.int .i64 0] 3 ∧ Blk w' (w.heap.size + 1) #[.int .i64 0] 29 ∧
      ((∃ (i : Int), e = .returned (.int .i64 i) ∧ R (.returned (.tuple #[.int .i64 i, .int .i64 0])) ((w'.setCell ⟨w.heap.size, 0, none⟩ (.int .i64 i)).setCell ⟨w.heap.size + 1, 0, none⟩ (.int .i64 0))) ∨
       (∃ n, e = .panicked (errP n) ∧ ∀ w2, Below w'.heap.size w' w2 → R (.returned (.tuple #[.int .i64 0, .int .i64 n])) ((w2.setCell ⟨w.heap.size, 0, none⟩ (.int .i64 0)).setCell ⟨w.heap.size + 1, 0, none⟩ (.int .i64 n))))) :
    Calls Try.prog 56 #[.func (.func f) #[] caps] w R := by
  have hmf : ∀ (fn : Fn) (first cap : Array Value) (w : World), (Instr.makeFunc fn first cap).run Try.prog w = .ok (.func fn first cap) w := fun _ _ _ _ => rfl
  go_enter_defers Try.func56, Try.ntmps56
  go_wp2
  refine h.mono ?_
  rintro e w' ⟨hb1, hb2, ⟨i, rfl, hy⟩ | ⟨n, rfl, hn⟩⟩
  · obtain ⟨hc1, hf1, hl1⟩ := hb1.all
    obtain ⟨hc2, hf2, hl2⟩ := hb2.all
    have d1 : w'.cell? ⟨w.heap.size, 0, none⟩ = some (.int .i64 0) := hc1 0
    have d2 : w'.cell? ⟨w.heap.size + 1, 0, none⟩ = some (.int .i64 0) := hc2 0
    go_wp2
    refine leaves_cons (f := 69) (args := #[.pointer (some ⟨w.heap.size, 0, none⟩), .pointer (some ⟨w.heap.size + 1, 0, none⟩)]) (by simp) (by simp [go_sem]) ?_
    refine (idle_int ⟨w.heap.size, 0, none⟩ ⟨w.heap.size + 1, 0, none⟩ _).mono ?_
    rintro e u' w'' ⟨rfl, rfl, rfl⟩
    have B1 := (hb1.set 0 (.int .i64 i)).other ⟨w.heap.size + 1, 0, none⟩ (.int .i64 0) (by simp)
    have B2 := (hb2.other ⟨w.heap.size, 0, none⟩ (.int .i64 i) (by simp)).set 0 (.int .i64 0)
    have r1 : ((w'.setCell ⟨w.heap.size, 0, none⟩ (.int .i64 i)).setCell ⟨w.heap.size + 1, 0, none⟩ (.int .i64 0)).cell? ⟨w.heap.size, 0, none⟩ = some (.int .i64 i) := B1.cell 0
    have r2 : ((w'.setCell ⟨w.heap.size, 0, none⟩ (.int .i64 i)).setCell ⟨w.heap.size + 1, 0, none⟩ (.int .i64 0)).cell? ⟨w.heap.size + 1, 0, none⟩ = some (.int .i64 0) := B2.cell 0
    simp [Leaves, settle, results, Try.results56, go_sem, r1, r2]
    exact hy
  · obtain ⟨hc1, hf1, hl1⟩ := hb1.all
    obtain ⟨hc2, hf2, hl2⟩ := hb2.all
    refine leaves_cons (f := 69) (args := #[.pointer (some ⟨w.heap.size, 0, none⟩), .pointer (some ⟨w.heap.size + 1, 0, none⟩)]) (by simp) (by simp [go_sem]) ?_
    refine (catch_int w.heap.size (w.heap.size + 1) _ _ n [] _ hb1 hb2 (by omega)).mono ?_
    rintro e u' w'' ⟨rfl, rfl, w2, hbw, rfl⟩
    have B1 := ((hb1.below hbw hl1).set 0 (.int .i64 0)).other ⟨w.heap.size + 1, 0, none⟩ (.int .i64 n) (by simp)
    have B2 := ((hb2.below hbw hl2).other ⟨w.heap.size, 0, none⟩ (.int .i64 0) (by simp)).set 0 (.int .i64 n)
    have r1 : ((w2.setCell ⟨w.heap.size, 0, none⟩ (.int .i64 0)).setCell ⟨w.heap.size + 1, 0, none⟩ (.int .i64 n)).cell? ⟨w.heap.size, 0, none⟩ = some (.int .i64 0) := B1.cell 0
    have r2 : ((w2.setCell ⟨w.heap.size, 0, none⟩ (.int .i64 0)).setCell ⟨w.heap.size + 1, 0, none⟩ (.int .i64 n)).cell? ⟨w.heap.size + 1, 0, none⟩ = some (.int .i64 n) := B2.cell 0
    simp [Leaves, settle, results, Try.results56, go_sem, r1, r2]
    exact hn _ hbw
set_option maxRecDepth 100000 in
set_option maxHeartbeats 1000000 in
theorem catch_S_uint64 (ps pe : Nat) (v0 : Value) (e0 n : Int) (older : List PanicEntry) (w : World) (hs : Blk w ps #[v0] 51) (he : Blk w pe #[.int .i64 e0] 29) (hne : ps ≠ pe) :
    CallsD Try.prog 70 #[.pointer (some ⟨ps, 0, none⟩), .pointer (some ⟨pe, 0, none⟩)] (.panicking ({ v := errV n, recovered := false } :: older)) w fun e u' w' =>
      e = .returned (.tuple #[]) ∧ u' = .panicking ({ v := errV n, recovered := true } :: older) ∧ ∃ w1, Below w.heap.size w w1 ∧ w' = (w1.setCell ⟨ps, 0, none⟩ (.slice none 0 0)).setCell ⟨pe, 0, none⟩ (.int .i64 n) := by
  have hta : ∀ w, (Instr.typeAssert (errV n) 20 29 true).run Try.prog w = .ok (.tuple #[.int .i64 n, .bool true]) w := fun w => by kernel_rfl
  obtain ⟨c1, f1, l1⟩ := hs.all
  obtain ⟨c2, f2, l2⟩ := he.all
  have d1 : w.cell? ⟨ps, 0, none⟩ = some v0 := c1 0
  have d2 : w.cell? ⟨pe, 0, none⟩ = some (.int .i64 e0) := c2 0
  refine callsD_of_wpS Try.func70 rfl fun c₀ cs hu => ?_
  apply wpS_seq
  apply wpS_region
  simp [wpOpsS, go_sem, recoverD, hu, Try.ntmps70, Exit.thenS]
  refine wpS_of_wp ?_
  simp only [Array.replicate_succ, Array.replicate_zero, List.push_toArray, List.append_toArray, List.nil_append, List.cons_append, List.setIfInBounds_toArray, List.set_cons_succ, List.set_cons_zero]
  go_wp2
  exact ⟨rfl, _, rfl, .tuple #[], results_none (by kernel_rfl) _ _ _, rfl, rfl, _, Below.refl _ w, rfl⟩

theorem idle_S_uint64 (p q : Addr) (w : World) :
    CallsD Try.prog 70 #[.pointer (some p), .pointer (some q)] .returning w fun e u' w' => e = .returned (.tuple #[]) ∧ u' = .returning ∧ w' = w := by
  refine callsD_of_wpS Try.func70 rfl fun c₀ cs hu => ?_
  apply wpS_seq
  apply wpS_region
  simp [wpOpsS, go_sem, recoverD, hu, Try.ntmps70, Exit.thenS]
  refine wpS_of_wp ?_
  simp only [Array.replicate_succ, Array.replicate_zero, List.push_toArray, List.append_toArray, List.nil_append, List.cons_append, List.setIfInBounds_toArray, List.set_cons_succ, List.set_cons_zero]
  go_wp2
  cases c₀
  simp_all [bodyPostS, results, Try.results70]

set_option maxHeartbeats 1000000 in
theorem tries_S_uint64 (f : FuncId) (caps : Array Value) (hcf : ∀ w : World, (callFunc f caps).run Try.prog w = .ok (.enter f caps) w) (w : World) (R : Ending → World → Prop)
    (h : Calls Try.prog f caps ((w.alloc (.cells #[.slice none 0 0] 51)).alloc (.cells #[.int .i64 0] 29)) fun e w' => Blk w' w.heap.size #[.slice none 0 0] 51 ∧ Blk w' (w.heap.size + 1) #[.int .i64 0] 29 ∧
      ((∃ (a : Option Addr) (m c : Nat), e = .returned (.slice a m c) ∧ R (.returned (.tuple #[.slice a m c, .int .i64 0])) ((w'.setCell ⟨w.heap.size, 0, none⟩ (.slice a m c)).setCell ⟨w.heap.size + 1, 0, none⟩ (.int .i64 0))) ∨
       (∃ n, e = .panicked (errP n) ∧ ∀ w2, Below w'.heap.size w' w2 → R (.returned (.tuple #[.slice none 0 0, .int .i64 n])) ((w2.setCell ⟨w.heap.size, 0, none⟩ (.slice none 0 0)).setCell ⟨w.heap.size + 1, 0, none⟩ (.int .i64 n))))) :
    Calls Try.prog 60 #[.func (.func f) #[] caps] w R := by
  have hmf : ∀ (fn : Fn) (first cap : Array Value) (w : World), (Instr.makeFunc fn first cap).run Try.prog w = .ok (.func fn first cap) w := fun _ _ _ _ => rfl
  go_enter_defers Try.func60, Try.ntmps60
  go_wp2
  refine h.mono ?_
  rintro e w' ⟨hb1, hb2, ⟨a, m, c, rfl, hy⟩ | ⟨n, rfl, hn⟩⟩
  · obtain ⟨hc1, hf1, hl1⟩ := hb1.all
    obtain ⟨hc2, hf2, hl2⟩ := hb2.all
    have d1 : w'.cell? ⟨w.heap.size, 0, none⟩ = some (.slice none 0 0) := hc1 0
    have d2 : w'.cell? ⟨w.heap.size + 1, 0, none⟩ = some (.int .i64 0) := hc2 0
    go_wp2
    refine leaves_cons (f := 70) (args := #[.pointer (some ⟨w.heap.size, 0, none⟩), .pointer (some ⟨w.heap.size + 1, 0, none⟩)]) (by simp) (by simp [go_sem]) ?_
    refine (idle_S_uint64 ⟨w.heap.size, 0, none⟩ ⟨w.heap.size + 1, 0, none⟩ _).mono ?_
    rintro e u' w'' ⟨rfl, rfl, rfl⟩
    have B1 := (hb1.set 0 (.slice a m c)).other ⟨w.heap.size + 1, 0, none⟩ (.int .i64 0) (by simp)
    have B2 := (hb2.other ⟨w.heap.size, 0, none⟩ (.slice a m c) (by simp)).set 0 (.int .i64 0)
    have r1 : ((w'.setCell ⟨w.heap.size, 0, none⟩ (.slice a m c)).setCell ⟨w.heap.size + 1, 0, none⟩ (.int .i64 0)).cell? ⟨w.heap.size, 0, none⟩ = some (.slice a m c) := B1.cell 0
    have r2 : ((w'.setCell ⟨w.heap.size, 0, none⟩ (.slice a m c)).setCell ⟨w.heap.size + 1, 0, none⟩ (.int .i64 0)).cell? ⟨w.heap.size + 1, 0, none⟩ = some (.int .i64 0) := B2.cell 0
    simp [Leaves, settle, results, Try.results60, go_sem, r1, r2]
    exact hy
  · obtain ⟨hc1, hf1, hl1⟩ := hb1.all
    obtain ⟨hc2, hf2, hl2⟩ := hb2.all
    refine leaves_cons (f := 70) (args := #[.pointer (some ⟨w.heap.size, 0, none⟩), .pointer (some ⟨w.heap.size + 1, 0, none⟩)]) (by simp) (by simp [go_sem]) ?_
    refine (catch_S_uint64 w.heap.size (w.heap.size + 1) _ _ n [] _ hb1 hb2 (by omega)).mono ?_
    rintro e u' w'' ⟨rfl, rfl, w2, hbw, rfl⟩
    have B1 := ((hb1.below hbw hl1).set 0 (.slice none 0 0)).other ⟨w.heap.size + 1, 0, none⟩ (.int .i64 n) (by simp)
    have B2 := ((hb2.below hbw hl2).other ⟨w.heap.size, 0, none⟩ (.slice none 0 0) (by simp)).set 0 (.int .i64 n)
    have r1 : ((w2.setCell ⟨w.heap.size, 0, none⟩ (.slice none 0 0)).setCell ⟨w.heap.size + 1, 0, none⟩ (.int .i64 n)).cell? ⟨w.heap.size, 0, none⟩ = some (.slice none 0 0) := B1.cell 0
    have r2 : ((w2.setCell ⟨w.heap.size, 0, none⟩ (.slice none 0 0)).setCell ⟨w.heap.size + 1, 0, none⟩ (.int .i64 n)).cell? ⟨w.heap.size + 1, 0, none⟩ = some (.int .i64 n) := B2.cell 0
    simp [Leaves, settle, results, Try.results60, go_sem, r1, r2]
    exact hn _ hbw

end Go.Proofs.Ytpooakhmpfbmgaa
