/- runs: the reader's reads (a panic that is caught), ReadTile. -/
import Derived.Test.YtneajhldmecllaaRunsRdTile
import Derived.Defers
import Derived.Recover
import Derived.Laws.Pointers
namespace Go.Proofs.Ytneajhldmecllaa
open Go.RowKit

set_option maxRecDepth 100000 in
set_option maxHeartbeats 1000000 in
theorem catch_wrong (p : Addr) (x : Bool) (older : List PanicEntry) (w : World) (hc : w.cell? p = some (.bool x)) (hz : w.frozen? p = false) (hp : p.block < w.heap.size) :
    CallsD Try.prog 56 #[.pointer (some p)] (.panicking ({ v := wrongV, recovered := false } :: older)) w fun e u' w' =>
      e = .returned (.tuple #[]) ∧ u' = .panicking ({ v := wrongV, recovered := true } :: older) ∧ ∃ w1, Below w.heap.size w w1 ∧ w' = w1.setCell p (.bool false) := by
  have hta : ∀ w, (Instr.typeAssert wrongV 20 90 true).run Try.prog w = .ok (.tuple #[.agg #[], .bool true]) w := fun w => by kernel_rfl
  obtain ⟨pb, po, ps⟩ := p
  replace hp : pb < w.heap.size := hp
  have hne : ¬ pb = w.heap.size := by omega
  have hz' : (w.alloc (.cells #[] 90)).frozen? ⟨pb, po, ps⟩ = false := (((Below.refl _ w).alloc (Nat.le_refl _) _).frozen hp).trans hz
  have hc' : (w.alloc (.cells #[] 90)).cell? ⟨pb, po, ps⟩ = some (.bool x) := (((Below.refl _ w).alloc (Nat.le_refl _) _).cell hp).trans hc
  refine callsD_of_wpS Try.func56 rfl fun c₀ cs hu => ?_
  apply wpS_seq
  apply wpS_region
  simp [wpOpsS, go_sem, recoverD, hu, Try.ntmps56, Exit.thenS]
  refine wpS_of_wp ?_
  simp only [Array.replicate_succ, Array.replicate_zero, List.push_toArray, List.append_toArray, List.nil_append, List.cons_append, List.setIfInBounds_toArray, List.set_cons_succ, List.set_cons_zero]
  go_wp2
  exact ⟨rfl, _, rfl, .tuple #[], results_none (by kernel_rfl) _ _ _, rfl, rfl, _, (Below.refl _ w).alloc (Nat.le_refl _) _, rfl⟩

theorem catch_idle (p : Addr) (w : World) :
    CallsD Try.prog 56 #[.pointer (some p)] .returning w fun e u' w' => e = .returned (.tuple #[]) ∧ u' = .returning ∧ w' = w := by
  refine callsD_of_wpS Try.func56 rfl fun c₀ cs hu => ?_
  apply wpS_seq
  apply wpS_region
  simp [wpOpsS, go_sem, recoverD, hu, Try.ntmps56, Exit.thenS]
  refine wpS_of_wp ?_
  simp only [Array.replicate_succ, Array.replicate_zero, List.push_toArray, List.append_toArray, List.nil_append, List.cons_append, List.setIfInBounds_toArray, List.set_cons_succ, List.set_cons_zero]
  go_wp2
  cases c₀
  simp_all [bodyPostS, results, Try.results56]

set_option maxHeartbeats 1000000 in
theorem reads_any (f : FuncId) (caps : Array Value) (hcf : ∀ w : World, (callFunc f caps).run Try.prog w = .ok (.enter f caps) w) (br : Nat) (w : World) (Yes No : World → Prop)
    (h : Calls Try.prog f caps (w.alloc (.cells #[.bool false] 4)) fun e w' => Blk w' w.heap.size #[.bool false] 4 ∧ ((e = .returned (.tuple #[]) ∧ Yes w') ∨ (e = .panicked wrongP ∧ No w'))) :
    Calls Try.prog 32 #[rd br, .func (.func f) #[] caps] w fun e w' =>
      (e = .returned (.bool true) ∧ ∃ w1, Yes w1 ∧ w' = w1.setCell ⟨w.heap.size, 0, none⟩ (.bool true)) ∨ (e = .returned (.bool false) ∧ ∃ w1 w2, No w1 ∧ Below w1.heap.size w1 w2 ∧ w' = w2.setCell ⟨w.heap.size, 0, none⟩ (.bool false)) := by
  have hmf : ∀ (fn : Fn) (first cap : Array Value) (w : World), (Instr.makeFunc fn first cap).run Try.prog w = .ok (.func fn first cap) w := fun _ _ _ _ => rfl
  go_enter_defers Try.func32, Try.ntmps32
  go_wp2
  refine h.mono ?_
  rintro e w' ⟨hb, ⟨rfl, hy⟩ | ⟨rfl, hn⟩⟩
  · obtain ⟨hc, hf, hl⟩ := hb.all
    go_wp2
    refine leaves_cons (f := 56) (args := #[.pointer (some ⟨w.heap.size, 0, none⟩)]) (by simp) (by simp [go_sem]) ?_
    refine (catch_idle ⟨w.heap.size, 0, none⟩ _).mono ?_
    rintro e u' w'' ⟨rfl, rfl, rfl⟩
    have hc' : (w'.setCell ⟨w.heap.size, 0, none⟩ (.bool true)).cell? ⟨w.heap.size, 0, none⟩ = some (.bool true) := (Blk.set hb 0 (.bool true)).cell 0
    simp [Leaves, settle, results, Try.results32, go_sem, hc']
    exact ⟨w', hy, rfl⟩
  · obtain ⟨hc, hf, hl⟩ := hb.all
    refine leaves_cons (f := 56) (args := #[.pointer (some ⟨w.heap.size, 0, none⟩)]) (by simp) (by simp [go_sem]) ?_
    refine (catch_wrong ⟨w.heap.size, 0, none⟩ false [] _ (hc 0) (hf 0) hl).mono ?_
    rintro e u' w'' ⟨rfl, rfl, w2, hb2, rfl⟩
    have hc' : (w2.setCell ⟨w.heap.size, 0, none⟩ (.bool false)).cell? ⟨w.heap.size, 0, none⟩ = some (.bool false) := (Blk.set (hb.below hb2 hl) 0 (.bool false)).cell 0
    simp [Leaves, settle, results, Try.results32, go_sem, hc']
    exact ⟨w', hn, w2, hb2, rfl⟩

/-- what was there stays, but for some blocks -/
structure Kept (S : Nat → Prop) (w w' : World) : Prop where
  os : w'.os = w.os
  tape : w'.tape = w.tape
  output : w'.output = w.output
  size : w.heap.size ≤ w'.heap.size
  block : ∀ k, k < w.heap.size → ¬ S k → w'.heap[k]? = w.heap[k]?
theorem Kept.of_grown {w w' : World} {row : Option Nat} {S : Nat → Prop} (h : w.grownBy w' row) (hS : ∀ k, some k = row → S k) : Kept S w w' := ⟨h.os, h.tape, h.output, h.size, fun k hk hn => h.block k hk (fun e => hn (hS k e))⟩
theorem Kept.of_below {w w' : World} {S : Nat → Prop} (h : Below w.heap.size w w') : Kept S w w' := ⟨h.os, h.tape, h.output, h.size, fun k hk _ => h.block k hk⟩
theorem Kept.refl (S : Nat → Prop) (w : World) : Kept S w w := ⟨rfl, rfl, rfl, Nat.le_refl _, fun _ _ _ => rfl⟩
theorem Kept.trans {w w1 w2 : World} {S : Nat → Prop} (h : Kept S w w1) (k : Kept S w1 w2) : Kept S w w2 :=
  ⟨k.os.trans h.os, k.tape.trans h.tape, k.output.trans h.output, Nat.le_trans h.size k.size, fun i hi hn => (k.block i (Nat.lt_of_lt_of_le hi h.size) hn).trans (h.block i hi hn)⟩
theorem Kept.alloc {w w1 : World} {S : Nat → Prop} (h : Kept S w w1) (o : Obj) : Kept S w (w1.alloc o) := h.trans (.of_below ((Below.refl _ _).alloc (Nat.le_refl _) _))
theorem Kept.setRow {w w1 : World} {S : Nat → Prop} (h : Kept S w w1) (n : Nat) (hn : w.heap.size ≤ n ∨ S n) (cs : Array Value) : Kept S w (w1.setRow n cs) :=
  ⟨h.os, h.tape, h.output, Nat.le_trans h.size (by simp), fun i hi hr => (setRow_other w1 n i cs (by rintro rfl; rcases hn with h | h; omega; exact hr h)).trans (h.block i hi hr)⟩
theorem Kept.setCell {w w1 : World} {S : Nat → Prop} (h : Kept S w w1) (n j : Nat) (v : Value) (hn : w.heap.size ≤ n ∨ S n) : Kept S w (w1.setCell ⟨n, j, none⟩ v) :=
  ⟨h.os, h.tape, h.output, Nat.le_trans h.size (by simp), fun i hi hr => (heap_setCell_other w1 ⟨n, j, none⟩ i v (by rintro rfl; rcases hn with h | h; exact absurd h (by simp; omega); exact hr h)).trans (h.block i hi hr)⟩
theorem Kept.below {w w1 : World} {S : Nat → Prop} {B : Nat} (h : Kept S w w1) (hB : B ≤ w.heap.size) (hS : ∀ k, S k → B ≤ k) : Below B w w1 := ⟨h.os, h.tape, h.output, h.size, fun k hk => h.block k (by omega) (fun hs => by have := hS k hs; omega)⟩
theorem Blk.kept {w w' : World} {b : Nat} {cs : Array Value} {t : TypeId} {S : Nat → Prop} (h : Blk w b cs t) (hk : Kept S w w') (hn : ¬ S b) : Blk w' b cs t := (hk.block b h.lt hn).trans h

theorem readT_len (T : List Col) (l : List UInt8) (T' : List Col) (k : Nat) (hr : readT T l = some (T', k)) : T'.length = 64 := by
  by_cases h : T.length = 64
  · rw [readT_full T l h] at hr; cases hr; exact h
  · match l, hr with
    | m :: r :: g :: b :: a :: rest, hr =>
      rw [readT, if_neg h] at hr
      split at hr
      · obtain ⟨p, hp, he⟩ := Option.map_eq_some_iff.1 hr
        cases he
        exact readT_len _ rest p.1 p.2 hp
      · cases hr
    | [], hr => unfold readT at hr; simp [h] at hr
    | [_], hr => unfold readT at hr; simp [h] at hr
    | [_, _], hr => unfold readT at hr; simp [h] at hr
    | [_, _, _], hr => unfold readT at hr; simp [h] at hr
    | [_, _, _, _], hr => unfold readT at hr; simp [h] at hr
termination_by l.length

theorem noB_rd (a b : Int) (p q : Option Addr) (m c m' c' : Nat) (n : Nat) : noB (rdC (.int .i64 a) (.int .i64 b) (.slice p m c) (.slice q m' c') n) := fun j x => by
  rcases j with _ | _ | _ | _ | _ | j <;> simp

set_option maxHeartbeats 1000000 in
theorem readtile1_any (wd hg tl bs : Value) (at_ br pr pt : Nat) (T0 : List Col) (l : List UInt8) (w : World) (h : Blk w br (rdC wd hg tl bs at_) 68) (hc : Blk w pr #[rd br] 66) (ht : Blk w pt (tcells T0) 29) (hT0 : T0.length = 64) (hne : br ≠ pt)
    (hb : Bytes w bs l) (ha : at_ ≤ l.length) (hn : ∀ n : Nat, noB (rdC wd hg tl bs n)) :
    Calls Try.prog 33 #[.pointer (some ⟨pr, 0, none⟩), .pointer (some ⟨pt, 0, none⟩)] w fun e w' => Kept (fun k => k = br ∨ k = pt) w w' ∧
      ((e = .returned (.tuple #[]) ∧ ∃ T k, readT [] (l.drop at_) = some (T, k) ∧ T.length = 64 ∧ Blk w' br (rdC wd hg tl bs (at_ + k)) 68 ∧ Blk w' pt (tcells T) 29) ∨ (e = .panicked wrongP ∧ readT [] (l.drop at_) = none)) := by
  obtain ⟨c1, f1, l1⟩ := hc.all
  have hm := rdtile_any wd hg tl bs at_ br l w h hb ha hn
  cases hr : readT [] (l.drop at_) with
  | none =>
    rw [hr] at hm
    go_enter Try.func33, Try.ntmps33
    go_wp2_with (go_at_call 34; refine hm.mono ?_; rintro e w' ⟨rfl, ⟨k, hk⟩, hg'⟩)
    exact ⟨rfl, .of_grown hg' (by rintro k ⟨⟩; exact .inl rfl), .inr ⟨rfl, trivial⟩⟩
  | some p =>
    obtain ⟨T, k⟩ := p
    have hT : T.length = 64 := readT_len _ _ _ _ hr
    rw [hr] at hm
    go_enter Try.func33, Try.ntmps33
    go_wp2_with (first | (refine wl_store_tile rfl rfl rfl (Blk.grown ht (by assumption) (by simpa using Ne.symm hne)) (by rw [tcells_size, hT0]) hT ?_) | (go_at_call 34; refine hm.mono ?_; rintro e w' ⟨rfl, hB, hg'⟩))
    go_end0
    exact ⟨(Kept.of_grown hg' (by rintro k ⟨⟩; exact .inl rfl)).setRow pt (.inr (.inr rfl)) _, .inl ⟨rfl, T, k, rfl, hT, (setRow_other w' pt br _ hne).trans hB, (ht.grown hg' (by simpa using Ne.symm hne)).setRow⟩⟩

/-- what ReadTile reads -/
def readTile (l : List UInt8) : Option (List Col × Nat) := readT [] l

def rtV : Option (List Col × Nat) → Value
  | some (T, k) => .tuple #[tileV T, .int .i64 k, .int .i64 0]
  | none => .tuple #[tileV noTile, .int .i64 0, .int .i64 200]

theorem op_build_tile {dst : Option Tmp} {ty : TypeId} {pos : String} {af : Array Edge} {g : Option (Nat × Bool)} (ev : Operand → Value) (w : World) : (execOp ev ⟨dst, .build 29 #[], ty, pos, af, g⟩).run Try.prog w = .ok (.value (tileV noTile)) w := by
  kernel_rfl
theorem wl_build_tile {ops : Array Oper} {Q : Exit → Act → World → Prop} {rest : List Oper} {a : Act} {w : World} {dst : Option Tmp} {ty : TypeId} {pos : String} {af : Array Edge} {g : Option (Nat × Bool)} (hw : Region.wanted ⟨dst, .build 29 #[], ty, pos, af, g⟩ (yielded ops a.tmps) = true)
    (hk : wpList Try.prog ops Q rest (a.put dst (tileV noTile)) w) : wpList Try.prog ops Q (⟨dst, .build 29 #[], ty, pos, af, g⟩ :: rest) a w := wl_of hw (op_build_tile _ w) hk

theorem results_tile3 {fn : Func} {p u v : Tmp} (h : fn.results = #[.cell p 29, .tmp u, .tmp v]) (tmps : Array Value) (w : World) (b : Nat) (T : List Col) (hT : T.length = 64) (hp : tmps.getD p undef = .pointer (some ⟨b, 0, none⟩)) (ht : TileAt w b 0 T) :
    (results fn tmps).run Try.prog w = .ok (.tuple #[tileV T, tmps.getD u undef, tmps.getD v undef]) w := by
  have hp' : tmps[p]?.getD undef = .pointer (some ⟨b, 0, none⟩) := by simpa using hp
  simp [results, h, hp', asAddr, run_loadVar_tile w b 0 T hT ht]

theorem calls_world {P : Program} {f : FuncId} {args : Array Value} {w1 w2 : World} {R : Ending → World → Prop} (h : w1 = w2) (hc : Calls P f args w2 R) : Calls P f args w1 R := h ▸ hc

set_option maxRecDepth 100000 in
set_option maxHeartbeats 2000000 in
theorem readtile_any (v : Value) (l : List UInt8) (w : World) (hb : Bytes w v l) :
    Calls Try.prog 14 #[v] w fun e w' => Below w.heap.size w w' ∧ e = .returned (rtV (readTile l)) := by
  have hmf : ∀ (fn : Fn) (first cap : Array Value) (w : World), (Instr.makeFunc fn first cap).run Try.prog w = .ok (.func fn first cap) w := fun _ _ _ _ => rfl
  have hb0 := hb
  obtain ⟨ad, cc, rfl, hc, hcm, hnil, r⟩ := hb0
  have hcf : ∀ (p q : Value) (w : World), (callFunc 33 #[p, q]).run Try.prog w = .ok (.enter 33 #[p, q]) w := fun p q w => by kernel_rfl
  have n0 := Blk.new w (tcells noTile) 29
  have n1 := Blk.new (w.alloc (.cells (tcells noTile) 29)) (rdC (.int .i64 0) (.int .i64 0) (.slice none 0 0) (.slice ad l.length cc) 0) 68
  have n2 := Blk.new ((w.alloc (.cells (tcells noTile) 29)).alloc (.cells (rdC (.int .i64 0) (.int .i64 0) (.slice none 0 0) (.slice ad l.length cc) 0) 68)) (#[rd (w.heap.size + 1)]) 66
  have n3 := Blk.new (((w.alloc (.cells (tcells noTile) 29)).alloc (.cells (rdC (.int .i64 0) (.int .i64 0) (.slice none 0 0) (.slice ad l.length cc) 0) 68)).alloc (.cells (#[rd (w.heap.size + 1)]) 66)) (tcells noTile) 29
  have hB4 : Below w.heap.size w ((((w.alloc (.cells (tcells noTile) 29)).alloc (.cells (rdC (.int .i64 0) (.int .i64 0) (.slice none 0 0) (.slice ad l.length cc) 0) 68)).alloc (.cells (#[rd (w.heap.size + 1)]) 66)).alloc (.cells (tcells noTile) 29)) := by repeat (first | assumption | exact Below.refl _ _ | refine below_dN ?_ _ | refine Below.alloc ?_ (by first | exact Nat.le_refl _ | omega | (simp; done) | (simp; omega)) _ | refine Below.setCell ?_ (by first | exact Nat.le_refl _ | omega | (simp; done) | (simp; omega)) _ | refine Below.drew ?_ | refine Below.trans ?_ (Below.mono (by assumption) (by first | exact Nat.le_refl _ | omega | (simp; done) | (simp; omega))))
  have hs4 : ((((w.alloc (.cells (tcells noTile) 29)).alloc (.cells (rdC (.int .i64 0) (.int .i64 0) (.slice none 0 0) (.slice ad l.length cc) 0) 68)).alloc (.cells (#[rd (w.heap.size + 1)]) 66)).alloc (.cells (tcells noTile) 29)).heap.size = w.heap.size + 4 := by simp
  replace n0 := ((n0.alloc (.cells (rdC (.int .i64 0) (.int .i64 0) (.slice none 0 0) (.slice ad l.length cc) 0) 68)).alloc (.cells (#[rd (w.heap.size + 1)]) 66)).alloc (.cells (tcells noTile) 29)
  replace n1 := (n1.alloc (.cells (#[rd (w.heap.size + 1)]) 66)).alloc (.cells (tcells noTile) 29)
  replace n2 := n2.alloc (.cells (tcells noTile) 29)
  simp only [World.size_alloc] at n1 n2 n3
  go_enter Try.func14, Try.ntmps14
  go_wp2_with (first | refine wl_alloc_tile rfl ?_)
  obtain ⟨W4, hW4⟩ : ∃ W4, ((((w.alloc (.cells (tcells noTile) 29)).alloc (.cells (rdC (.int .i64 0) (.int .i64 0) (.slice none 0 0) (.slice ad l.length cc) 0) 68)).alloc (.cells (#[rd (w.heap.size + 1)]) 66)).alloc (.cells (tcells noTile) 29)) = W4 := ⟨_, rfl⟩
  rw [hW4] at n0 n1 n2 n3 hB4 hs4
  refine calls_world hW4 ?_
  clear hW4
  have hbW : Bytes W4 (.slice ad l.length cc) l := hb.below hB4
  have hbW' := hbW.below ((Below.refl _ W4).alloc (Nat.le_refl _) (.cells #[.bool false] 4))
  have H := readtile1_any (.int .i64 0) (.int .i64 0) (.slice none 0 0) (.slice ad l.length cc) 0 (w.heap.size + 1) (w.heap.size + 2) (w.heap.size + 3) noTile l (W4.alloc (.cells #[.bool false] 4)) (n1.alloc _) (n2.alloc _) (n3.alloc _) noTile_len (by omega) hbW' (by omega) (fun n => noB_rd _ _ _ _ _ _ _ _ n)
  have nn := Blk.new W4 #[.bool false] 4
  refine (reads_any 33 _ (hcf _ _) (w.heap.size + 1) W4 (fun w' => Kept (fun k => k = w.heap.size + 1 ∨ k = w.heap.size + 3) (W4.alloc (.cells #[.bool false] 4)) w' ∧ ∃ T k, readT [] l = some (T, k) ∧ T.length = 64 ∧ Blk w' (w.heap.size + 1) (rdC (.int .i64 0) (.int .i64 0) (.slice none 0 0) (.slice ad l.length cc) (0 + k)) 68 ∧ Blk w' (w.heap.size + 3) (tcells T) 29)
    (fun w' => Kept (fun k => k = w.heap.size + 1 ∨ k = w.heap.size + 3) (W4.alloc (.cells #[.bool false] 4)) w' ∧ readT [] l = none) (H.mono ?_)).mono ?_
  · rintro e w' ⟨hk, hh⟩
    refine ⟨nn.kept hk (by omega), ?_⟩
    rcases hh with ⟨rfl, T, k, h1, h2, h3, h4⟩ | ⟨rfl, h1⟩
    · exact .inl ⟨rfl, hk, T, k, by simpa using h1, h2, h3, h4⟩
    · exact .inr ⟨rfl, hk, by simpa using h1⟩
  rintro e w' (⟨rfl, w1, ⟨hk, T, k, h1, h2, h3, h4⟩, rfl⟩ | ⟨rfl, w1, w2, ⟨hk, h1⟩, hb2, rfl⟩)
  · have hsz : w.heap.size + 5 ≤ w1.heap.size := by have := hk.size; simp at this; omega
    have m0 := ((n0.alloc (.cells #[.bool false] 4)).kept hk (by omega)).other ⟨W4.heap.size, 0, none⟩ (.bool true) (by simp; omega)
    have m2 := ((n2.alloc (.cells #[.bool false] 4)).kept hk (by omega)).other ⟨W4.heap.size, 0, none⟩ (.bool true) (by simp; omega)
    have m1 := h3.other ⟨W4.heap.size, 0, none⟩ (.bool true) (by simp; omega)
    have m3 := h4.other ⟨W4.heap.size, 0, none⟩ (.bool true) (by simp; omega)
    have hB6 : Below w.heap.size w (w1.setCell ⟨W4.heap.size, 0, none⟩ (.bool true)) := ((hB4.alloc (by omega) _).trans (hk.below (by simp; omega) (by rintro k (rfl | rfl) <;> omega))).setCell (p := ⟨W4.heap.size, 0, none⟩) (by show w.heap.size ≤ W4.heap.size; omega) _
    have hs6 : w.heap.size + 5 ≤ (w1.setCell ⟨W4.heap.size, 0, none⟩ (.bool true)).heap.size := by simpa using hsz
    clear n0 n1 n2 n3 h3 h4 hsz hk nn H hbW hbW'
    obtain ⟨W6, hW6⟩ : ∃ W6, w1.setCell ⟨W4.heap.size, 0, none⟩ (.bool true) = W6 := ⟨_, rfl⟩
    rw [hW6] at m0 m1 m2 m3 hB6 hs6 ⊢
    clear hW6
    have e2 : W6.cell? ⟨w.heap.size + 2, 0, none⟩ = some (rd (w.heap.size + 1)) := m2.cell 0
    have e1 : W6.cell? ⟨w.heap.size + 1, 4, none⟩ = some (.int .i64 k) := by rw [m1.cell]; simp
    go_wp2
    refine wp_region_cuts [.q [_, _, _, _, _], .e _] [_, _] rfl (fun w'' => Blk w'' (w.heap.size + 1) (rdC (.int .i64 0) (.int .i64 0) (.slice none 0 0) (.slice ad l.length cc) (0 + k)) 68 ∧ Blk w'' (w.heap.size + 2) (#[rd (w.heap.size + 1)]) 66 ∧ Blk w'' (w.heap.size + 3) (tcells T) 29) (by kernel_rfl) (by kernel_rfl) (fun _ _ d _ _ h => by cases d <;> exact h) ?_
    refine cut_q ⟨m1, m2, m3⟩ ?_
    repeat (first | go_big_quiet_step ((intros; rfl)) | quiet_step ((intros; rfl)) | (refine wq_load_tile rfl rfl h2 (fun w'' hC => hC.2.2.tileAt) ?_; simp only [Act.put, List.setIfInBounds_toArray, List.set_cons_succ, List.set_cons_zero]) | (refine wq_load1 (v := rd (w.heap.size + 1)) rfl rfl (by kernel_rfl) (fun w'' hC => hC.2.1.cell 0) ?_; simp only [Act.put, List.setIfInBounds_toArray, List.set_cons_succ, List.set_cons_zero]) | (refine wq_load1 (v := .int .i64 ((0 + k : Nat) : Int)) rfl rfl (by kernel_rfl) (fun w'' hC => hC.1.cell 4) ?_; simp only [Act.put, List.setIfInBounds_toArray, List.set_cons_succ, List.set_cons_zero]) | (refine wq_loadB rfl rfl (by kernel_rfl) (by assumption) ?_; simp only [Act.put, List.setIfInBounds_toArray, List.set_cons_succ, List.set_cons_zero]))
    refine wpQuiet_nil ?_
    refine cut_e ?_
    go_wp2_with (refine wl_store_tile rfl rfl rfl m0 (by rfl) h2 ?_)
    refine ⟨⟨(setRow_other _ _ _ _ (by omega)).trans m1, (setRow_other _ _ _ _ (by omega)).trans m2, (setRow_other _ _ _ _ (by omega)).trans m3⟩, ?_⟩
    refine cut_end ?_
    go_wp2
    refine bodyPost_ret (results_tile3 (p := 2) (u := 3) (v := 4) (by kernel_rfl) _ _ w.heap.size T h2 rfl (Blk.tileAt (b := w.heap.size) (t := 29) (m0.setRow))) rfl ?_
    refine ⟨?_, by rw [show readTile l = some (T, k) from h1]; rfl⟩
    exact Kept.below (S := fun _ => False) (Kept.setRow (w1 := W6.drew) ⟨hB6.os, hB6.drew.tape, hB6.output, hB6.size, fun k hk _ => hB6.block k hk⟩ _ (.inl (Nat.le_refl _)) _) (Nat.le_refl _) (fun k hk => hk.elim)
  · have hsz : w.heap.size + 5 ≤ w2.heap.size := by have := hk.size; have := hb2.size; simp at *; omega
    have hs1 : w.heap.size + 5 ≤ w1.heap.size := by have := hk.size; simp at this; omega
    have m0 := (((n0.alloc (.cells #[.bool false] 4)).kept hk (by omega)).below hb2 (by omega)).other ⟨W4.heap.size, 0, none⟩ (.bool false) (by simp; omega)
    have hB6 : Below w.heap.size w (w2.setCell ⟨W4.heap.size, 0, none⟩ (.bool false)) := (((hB4.alloc (by omega) _).trans (hk.below (by simp; omega) (by rintro k (rfl | rfl) <;> omega))).trans (hb2.mono (by omega))).setCell (p := ⟨W4.heap.size, 0, none⟩) (by show w.heap.size ≤ W4.heap.size; omega) _
    clear n0 n1 n2 n3 hsz hk nn H hbW hbW'
    obtain ⟨W6, hW6⟩ : ∃ W6, w2.setCell ⟨W4.heap.size, 0, none⟩ (.bool false) = W6 := ⟨_, rfl⟩
    rw [hW6] at m0 hB6 ⊢
    clear hW6
    go_wp2_with (first | refine wl_build_tile rfl ?_ | refine wl_store_tile rfl rfl rfl m0 (by rfl) noTile_len ?_)
    refine bodyPost_ret (results_tile3 (p := 2) (u := 3) (v := 4) (by kernel_rfl) _ _ w.heap.size noTile noTile_len rfl (Blk.tileAt (b := w.heap.size) (t := 29) (m0.setRow))) rfl ?_
    refine ⟨?_, by rw [show readTile l = none from h1]; rfl⟩
    exact Kept.below (S := fun _ => False) (Kept.setRow ⟨hB6.os, hB6.tape, hB6.output, hB6.size, fun k hk _ => hB6.block k hk⟩ _ (.inl (Nat.le_refl _)) _) (Nat.le_refl _) (fun k hk => hk.elim)

end Go.Proofs.Ytneajhldmecllaa
