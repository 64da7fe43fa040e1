/- Walks by data and names, part 30: runs: the reader's reads (a panic that is caught), ReadTile.  runs.Tile: the bytes of a tile, run by run. -/
import Derived.Defers
import Derived.Recover
import Derived.Laws.Pointers
import Derived.Maps.AppendAt
import Derived.Test.YtkjpcjccddggoaaGreatQk29
import Derived.Test.YtkjpcjccddggoaaGreatQk28
import Derived.Test.YtkjpcjccddggoaaGreatQk1
namespace Go.Proofs.YtkjpcjccddggoaaGreat
set_option maxRecDepth 20000
open Go.RowKit
set_option maxRecDepth 100000 in
set_option maxHeartbeats 1000000 in
theorem catch_wrong (p : Addr) (x : Bool) (older : List PanicEntry) (w : World) (hc : w.cell? p = some (.bool x)) (hz : w.frozen? p = false) (hp : p.block < w.heap.size) :
    CallsD Tryz.prog 147 #[.pointer (some p)] (.panicking ({ v := wrongV, recovered := false } :: older)) w fun e u' w' =>
      e = .returned (.tuple #[]) ∧ u' = .panicking ({ v := wrongV, recovered := true } :: older) ∧ ∃ w1, Below w.heap.size w w1 ∧ w' = w1.setCell p (.bool false) := by
  have hta : ∀ w, (Instr.typeAssert wrongV 20 211 true).run Tryz.prog w = .ok (.tuple #[.agg #[], .bool true]) w := fun w => by kernel_rfl
  obtain ⟨pb, po, ps⟩ := p
  replace hp : pb < w.heap.size := hp
  have hne : ¬ pb = w.heap.size := by omega
  have hz' : (w.alloc (.cells #[] 211)).frozen? ⟨pb, po, ps⟩ = false := (((Below.refl _ w).alloc (Nat.le_refl _) _).frozen hp).trans hz
  have hc' : (w.alloc (.cells #[] 211)).cell? ⟨pb, po, ps⟩ = some (.bool x) := (((Below.refl _ w).alloc (Nat.le_refl _) _).cell hp).trans hc
  refine callsD_of_wpS Tryz.func147 rfl fun c₀ cs hu => ?_
  apply wpS_seq
  apply wpS_region
  simp [wpOpsS, go_sem, recoverD, hu, Tryz.ntmps147, Exit.thenS]
  refine wpS_of_wp ?_
  simp only [Array.replicate_succ, Array.replicate_zero, List.push_toArray, List.append_toArray, List.nil_append, List.cons_append, List.setIfInBounds_toArray, List.set_cons_succ, List.set_cons_zero]
  go_wp2
  exact ⟨rfl, _, rfl, .tuple #[], results_none (by kernel_rfl) _ _ _, rfl, rfl, _, (Below.refl _ w).alloc (Nat.le_refl _) _, rfl⟩
theorem catch_idle (p : Addr) (w : World) :
    CallsD Tryz.prog 147 #[.pointer (some p)] .returning w fun e u' w' => e = .returned (.tuple #[]) ∧ u' = .returning ∧ w' = w := by
  refine callsD_of_wpS Tryz.func147 rfl fun c₀ cs hu => ?_
  apply wpS_seq
  apply wpS_region
  simp [wpOpsS, go_sem, recoverD, hu, Tryz.ntmps147, Exit.thenS]
  refine wpS_of_wp ?_
  simp only [Array.replicate_succ, Array.replicate_zero, List.push_toArray, List.append_toArray, List.nil_append, List.cons_append, List.setIfInBounds_toArray, List.set_cons_succ, List.set_cons_zero]
  go_wp2
  cases c₀
  simp_all [bodyPostS, results, Tryz.results147]
set_option maxHeartbeats 1000000 in
theorem reads_any (f : FuncId) (caps : Array Value) (hcf : ∀ w : World, (callFunc f caps).run Tryz.prog w = .ok (.enter f caps) w) (br : Nat) (w : World) (Yes No : World → Prop)
    (h : Calls Tryz.prog f caps (w.alloc (.cells #[.bool false] 4)) fun e w' => Blk w' w.heap.size #[.bool false] 4 ∧ ((e = .returned (.tuple #[]) ∧ Yes w') ∨ (e = .panicked wrongP ∧ No w'))) :
    Calls Tryz.prog 121 #[rd br, .func (.func f) #[] caps] w fun e w' =>
      (e = .returned (.bool true) ∧ ∃ w1, Yes w1 ∧ w' = w1.setCell ⟨w.heap.size, 0, none⟩ (.bool true)) ∨ (e = .returned (.bool false) ∧ ∃ w1 w2, No w1 ∧ Below w1.heap.size w1 w2 ∧ w' = w2.setCell ⟨w.heap.size, 0, none⟩ (.bool false)) := by
  have hmf : ∀ (fn : Fn) (first cap : Array Value) (w : World), (Instr.makeFunc fn first cap).run Tryz.prog w = .ok (.func fn first cap) w := fun _ _ _ _ => rfl
  go_enter_defers Tryz.func121, Tryz.ntmps121
  go_wp2
  refine h.mono ?_
  rintro e w' ⟨hb, ⟨rfl, hy⟩ | ⟨rfl, hn⟩⟩
  · obtain ⟨hc, hf, hl⟩ := hb.all
    go_wp2
    refine leaves_cons (f := 147) (args := #[.pointer (some ⟨w.heap.size, 0, none⟩)]) (by simp) (by simp [go_sem]) ?_
    refine (catch_idle ⟨w.heap.size, 0, none⟩ _).mono ?_
    rintro e u' w'' ⟨rfl, rfl, rfl⟩
    have hc' : (w'.setCell ⟨w.heap.size, 0, none⟩ (.bool true)).cell? ⟨w.heap.size, 0, none⟩ = some (.bool true) := (Blk.set hb 0 (.bool true)).cell 0
    simp [Leaves, settle, results, Tryz.results121, go_sem, hc']
    exact ⟨w', hy, rfl⟩
  · obtain ⟨hc, hf, hl⟩ := hb.all
    refine leaves_cons (f := 147) (args := #[.pointer (some ⟨w.heap.size, 0, none⟩)]) (by simp) (by simp [go_sem]) ?_
    refine (catch_wrong ⟨w.heap.size, 0, none⟩ false [] _ (hc 0) (hf 0) hl).mono ?_
    rintro e u' w'' ⟨rfl, rfl, w2, hb2, rfl⟩
    have hc' : (w2.setCell ⟨w.heap.size, 0, none⟩ (.bool false)).cell? ⟨w.heap.size, 0, none⟩ = some (.bool false) := (Blk.set (hb.below hb2 hl) 0 (.bool false)).cell 0
    simp [Leaves, settle, results, Tryz.results121, go_sem, hc']
    exact ⟨w', hn, w2, hb2, rfl⟩
/-- what was there stays, but for some blocks -/
structure Kept (S : Nat → Prop) (w w' : World) : Prop where
  os : w'.os = w.os
  tape : w'.tape = w.tape
  output : w'.output = w.output
  size : w.heap.size ≤ w'.heap.size
  block : ∀ k, k < w.heap.size → ¬ S k → w'.heap[k]? = w.heap[k]?
theorem Kept.of_grown {w w' : World} {row : Option Nat} {S : Nat → Prop} (h : w.grownBy w' row) (hS : ∀ k, some k = row → S k) : Kept S w w' := ⟨h.os, h.tape, h.output, h.size, fun k hk hn => h.block k hk (fun e => hn (hS k e))⟩
theorem Kept.of_below {w w' : World} {S : Nat → Prop} (h : Below w.heap.size w w') : Kept S w w' := ⟨h.os, h.tape, h.output, h.size, fun k hk _ => h.block k hk⟩
theorem Kept.refl (S : Nat → Prop) (w : World) : Kept S w w := ⟨rfl, rfl, rfl, Nat.le_refl _, fun _ _ _ => rfl⟩
theorem Kept.trans {w w1 w2 : World} {S : Nat → Prop} (h : Kept S w w1) (k : Kept S w1 w2) : Kept S w w2 :=
  ⟨k.os.trans h.os, k.tape.trans h.tape, k.output.trans h.output, Nat.le_trans h.size k.size, fun i hi hn => (k.block i (Nat.lt_of_lt_of_le hi h.size) hn).trans (h.block i hi hn)⟩
theorem Kept.alloc {w w1 : World} {S : Nat → Prop} (h : Kept S w w1) (o : Obj) : Kept S w (w1.alloc o) := h.trans (.of_below ((Below.refl _ _).alloc (Nat.le_refl _) _))
theorem Kept.setRow {w w1 : World} {S : Nat → Prop} (h : Kept S w w1) (n : Nat) (hn : w.heap.size ≤ n ∨ S n) (cs : Array Value) : Kept S w (w1.setRow n cs) :=
  ⟨h.os, h.tape, h.output, Nat.le_trans h.size (by simp), fun i hi hr => (setRow_other w1 n i cs (by rintro rfl; rcases hn with h | h; omega; exact hr h)).trans (h.block i hi hr)⟩
theorem Kept.setCell {w w1 : World} {S : Nat → Prop} (h : Kept S w w1) (n j : Nat) (v : Value) (hn : w.heap.size ≤ n ∨ S n) : Kept S w (w1.setCell ⟨n, j, none⟩ v) :=
  ⟨h.os, h.tape, h.output, Nat.le_trans h.size (by simp), fun i hi hr => (heap_setCell_other w1 ⟨n, j, none⟩ i v (by rintro rfl; rcases hn with h | h; exact absurd h (by simp; omega); exact hr h)).trans (h.block i hi hr)⟩
theorem Kept.below {w w1 : World} {S : Nat → Prop} {B : Nat} (h : Kept S w w1) (hB : B ≤ w.heap.size) (hS : ∀ k, S k → B ≤ k) : Below B w w1 := ⟨h.os, h.tape, h.output, h.size, fun k hk => h.block k (by omega) (fun hs => by have := hS k hs; omega)⟩
theorem Blk.kept {w w' : World} {b : Nat} {cs : Array Value} {t : TypeId} {S : Nat → Prop} (h : Blk w b cs t) (hk : Kept S w w') (hn : ¬ S b) : Blk w' b cs t := (hk.block b h.lt hn).trans h
theorem readT_len (T : List Col) (l : List UInt8) (T' : List Col) (k : Nat) (hr : readT T l = some (T', k)) : T'.length = 64 := by
  by_cases h : T.length = 64
  · rw [readT_full T l h] at hr; cases hr; exact h
  · match l, hr with
    | m :: r :: g :: b :: a :: rest, hr =>
      rw [readT, if_neg h] at hr
      split at hr
      · obtain ⟨p, hp, he⟩ := Option.map_eq_some_iff.1 hr
        cases he
        exact readT_len _ rest p.1 p.2 hp
      · cases hr
    | [], hr => unfold readT at hr; simp [h] at hr
    | [_], hr => unfold readT at hr; simp [h] at hr
    | [_, _], hr => unfold readT at hr; simp [h] at hr
    | [_, _, _], hr => unfold readT at hr; simp [h] at hr
    | [_, _, _, _], hr => unfold readT at hr; simp [h] at hr
termination_by l.length
theorem noB_rd (a b : Int) (p q : Option Addr) (m c m' c' : Nat) (n : Nat) : noB (rdC (.int .i64 a) (.int .i64 b) (.slice p m c) (.slice q m' c') n) := fun j x => by
  rcases j with _ | _ | _ | _ | _ | j <;> simp
/-- what ReadTile reads -/
def readTile (l : List UInt8) : Option (List Col × Nat) := readT [] l
theorem op_build_tile {dst : Option Tmp} {ty : TypeId} {pos : String} {af : Array Edge} {g : Option (Nat × Bool)} (ev : Operand → Value) (w : World) : (execOp ev ⟨dst, .build 109 #[], ty, pos, af, g⟩).run Tryz.prog w = .ok (.value (tileV noTile)) w := by
  kernel_rfl
theorem wl_build_tile {ops : Array Oper} {Q : Exit → Act → World → Prop} {rest : List Oper} {a : Act} {w : World} {dst : Option Tmp} {ty : TypeId} {pos : String} {af : Array Edge} {g : Option (Nat × Bool)} (hw : Region.wanted ⟨dst, .build 109 #[], ty, pos, af, g⟩ (yielded ops a.tmps) = true)
    (hk : wpList Tryz.prog ops Q rest (a.put dst (tileV noTile)) w) : wpList Tryz.prog ops Q (⟨dst, .build 109 #[], ty, pos, af, g⟩ :: rest) a w := wl_of hw (op_build_tile _ w) hk
theorem calls_world {P : Program} {f : FuncId} {args : Array Value} {w1 w2 : World} {R : Ending → World → Prop} (h : w1 = w2) (hc : Calls P f args w2 R) : Calls P f args w1 R := h ▸ hc
end Go.Proofs.YtkjpcjccddggoaaGreat

namespace Go.Proofs.YtkjpcjccddggoaaGreat
set_option maxRecDepth 20000
open Go.RowKit Go.Shelf
attribute [local go_sem] Oper.semAt_some
/-- the runs of a row: how many of a colour, and which -/
def rleGo (n : Nat) (c : Col) : List Col → List (Nat × Col)
  | [] => [(n, c)]
  | d :: ds => if d = c then rleGo (n + 1) c ds else (n, c) :: rleGo 1 d ds
def rle : List Col → List (Nat × Col)
  | [] => []
  | c :: cs => rleGo 1 c cs
set_option maxRecDepth 100000 in
set_option maxHeartbeats 1000000 in
theorem each1_in (n l b : Nat) (T : List Col) (hT : T.length = 64) (J Jx : List (Nat × Col) → World → Prop)
    (hY : ∀ pre x W, J pre W → pre.length < 64 → YieldAt Fence.wide (n - 1) Tryz.prog l #[.int .i64 x.1, colV x.2] W fun e W' =>
      (e = .returned (.bool true) ∧ J (pre ++ [x]) W' ∧ KeepB b W W') ∨ (e = .returned (.bool false) ∧ Jx (pre ++ [x]) W'))
    (hA : ∀ s W W' row, J s W → W.grownBy W' row → (∀ r, row = some r → False) → J s W')
    (W : World) (hb : Blk W b (tcells T) 109) (h0 : J [] W) :
    CallsIn Fence.wide n Tryz.prog 159 #[.func (.yield l) #[] #[], .pointer (some ⟨b, 0, none⟩)] W fun e W' => (∃ v, e = .returned v) ∧
      ((∃ ys, ys = rle T ∧ J ys W') ∨ (∃ pre, pre <+: rle T ∧ Jx pre W')) := by
  refine callsIn_of_wp Tryz.func159 rfl trivial ?_ rfl
  simp only [Tryz.ntmps159, List.size_toArray, List.length_cons, List.length_nil, Nat.reduceAdd, Nat.reduceSub, Array.replicate_succ, Array.replicate_zero, List.push_toArray, List.append_toArray, List.nil_append, List.cons_append]
  gi_wp2
  refine wpIn_scope_straight ?_
  gi_wp2
  refine wpIn_label ?_
  gi_wp2
  gi_loopw [3, 4] (fun f i wr => ∃ (k f0 : Nat) (pre : List (Nat × Col)), i = .int .i64 k ∧ f = .int .i64 f0 ∧ Blk wr b (tcells T) 109 ∧ J pre wr ∧ pre.length ≤ f0 ∧
      ((k ≤ 64 ∧ f0 < k ∧ ∃ h : f0 < T.length, pre ++ rleGo (k - f0) T[f0] (T.drop k) = rle T) ∨ (k = 65 ∧ pre = rle T)))
    (fun _ i _ => 66 - (intOf i).toNat)
  case atStart =>
    refine ⟨1, 0, [], rfl, rfl, hb, h0, by simp, .inl ⟨by omega, by omega, by omega, ?_⟩⟩
    cases T with
    | nil => simp at hT
    | cons c T => rfl
  case round =>
    obtain ⟨k, f0, pre, rfl, rfl, hB, hJ, hpl, hk | hk⟩ := hrel
    · obtain ⟨hk, hf, hfl, hx⟩ := hk
      obtain ⟨g0, g1, g2, g3⟩ := tcells_at T f0 hfl
      have hc := hB.cell
      by_cases h64 : k < 64
      · obtain ⟨h0, h1, h2, h3⟩ := tcells_at T k (by omega)
        have HX := Lib.hid hx
        have hgd : decide ((k : Int) < 64) = true := by simp; omega
        clear hx
        by_cases hq : (T[k] == T[f0]) = true
        · gi_wp2
          refine wpIn_wide.2 ?_
          refine wp_region_quiet_lit (by kernel_rfl) (by kernel_rfl) ?_
          repeat (first | refine wq_eql_col rfl rfl rfl ?_ | go_big_quiet_step (fail) | quiet_step (fail))
          refine wpQuiet_nil ?_
          intro _ hw'
          obtain ⟨nq, hw''⟩ := hw'
          subst hw''
          have hJ' := hA pre _ (wr.drewN nq) none hJ (gb_drewN wr nq _) (by simp)
          have hB' : Blk (wr.drewN nq) b (tcells T) 109 := hB
          gi_wp2
          go_roundw
          case rel =>
            refine ⟨k + 1, f0, pre, by go_num, rfl, hB', hJ', hpl, .inl ⟨by omega, by omega, hfl, ?_⟩⟩
            rw [← HX.out, List.drop_eq_getElem_cons (by omega : k < T.length), rleGo, if_pos (by simpa using hq), show k + 1 - f0 = k - f0 + 1 from by omega]
          case measure => simp only [intOf]; omega
        · have hq' : (T[k] == T[f0]) = false := by simpa using hq
          clear hq
          gi_wp2
          refine wpIn_wide.2 ?_
          refine wp_region_quiet_lit (by kernel_rfl) (by kernel_rfl) ?_
          repeat (first | refine wq_eql_col rfl rfl rfl ?_ | go_big_quiet_step (fail) | quiet_step (fail))
          refine wpQuiet_nil ?_
          intro _ hw'
          obtain ⟨nq, hw''⟩ := hw'
          subst hw''
          have hJ' := hA pre _ (wr.drewN nq) none hJ (gb_drewN wr nq _) (by simp)
          have hB' : Blk (wr.drewN nq) b (tcells T) 109 := hB
          obtain ⟨fn, tmps, assign, body, hy, hR⟩ := hY pre (k - f0, T[f0]) (wr.drewN nq) hJ' (by omega)
          have e : ((k - f0 : Nat) : Int) = k - f0 := by omega
          simp only [e] at hy
          clear e
          gi_wp2
          refine ⟨(fun h => by cases h), hR.mono ?_⟩
          rintro e W3 (⟨rfl, hJ3, hk3⟩ | ⟨rfl, hJx3⟩)
          · gi_wp2
            go_roundw
            case rel =>
              refine ⟨k + 1, k, pre ++ [(k - f0, T[f0])], by go_num, rfl, hB'.keepB hk3, hJ3, by simp; omega, .inl ⟨by omega, by omega, by omega, ?_⟩⟩
              rw [← HX.out, List.drop_eq_getElem_cons (by omega : k < T.length), rleGo, if_neg (by simpa using hq'), show k + 1 - k = 1 from by omega]
              simp
            case measure => simp only [intOf]; omega
          · gi_wp2
            rw [Exit.noGoto_normal]
            go_end0
            refine ⟨⟨_, rfl⟩, .inr ⟨_, ?_, hJx3⟩⟩
            rw [← HX.out, List.drop_eq_getElem_cons (by omega : k < T.length), rleGo, if_neg (by simpa using hq')]
            exact ⟨rleGo 1 T[k] (T.drop (k + 1)), by simp⟩
      · obtain rfl : k = 64 := by omega
        have hgd : decide (((64 : Nat) : Int) < 64) = false := by simp
        have HX : Hid (pre ++ [(64 - f0, T[f0])] = rle T) := by rw [← hx, List.drop_of_length_le (by omega)]; rfl
        clear hx h64
        gi_wp2
        refine wpIn_wide.2 ?_
        refine wp_region_quiet_lit (by kernel_rfl) (by kernel_rfl) ?_
        repeat (first | go_big_quiet_step (fail) | quiet_step (fail))
        refine wpQuiet_nil ?_
        intro _ hw'
        obtain ⟨nq, hw''⟩ := hw'
        subst hw''
        have hJ' := hA pre _ (wr.drewN nq) none hJ (gb_drewN wr nq _) (by simp)
        have hB' : Blk (wr.drewN nq) b (tcells T) 109 := hB
        obtain ⟨fn, tmps, assign, body, hy, hR⟩ := hY pre (64 - f0, T[f0]) (wr.drewN nq) hJ' (by omega)
        have e : ((64 - f0 : Nat) : Int) = 64 - f0 := by omega
        simp only [e] at hy
        clear e
        gi_wp2
        refine ⟨(fun h => by cases h), hR.mono ?_⟩
        rintro e W3 (⟨rfl, hJ3, hk3⟩ | ⟨rfl, hJx3⟩)
        · gi_wp2
          go_roundw
          case rel =>
            exact ⟨65, 64, pre ++ [(64 - f0, T[f0])], by go_num, rfl, hB'.keepB hk3, hJ3, by simp; omega, .inr ⟨rfl, HX.out⟩⟩
          case measure => simp only [intOf]; omega
        · gi_wp2
          rw [Exit.noGoto_normal]
          go_end0
          exact ⟨⟨_, rfl⟩, .inr ⟨_, ⟨[], by rw [List.append_nil, HX.out]⟩, hJx3⟩⟩
    · obtain ⟨rfl, rfl⟩ := hk
      gi_wp2
      rw [Exit.noGoto_normal]
      go_end0
      exact ⟨⟨_, rfl⟩, .inl ⟨_, rfl, hJ⟩⟩
end Go.Proofs.YtkjpcjccddggoaaGreat

namespace Go.Proofs.YtkjpcjccddggoaaGreat
set_option maxRecDepth 20000
open Go.RowKit Go.Shelf
attribute [local go_sem] Oper.semAt_some
theorem info_u8 : (Tryz.prog.info? 5).map (fun i => (i.zero, i.size, i.bytes)) = some (some (.int .u8 0), 1, 1) := by kernel_rfl
def rleB (x : Nat × Col) : List UInt8 := [UInt8.ofNat x.1, x.2.r, x.2.g, x.2.b, x.2.a]
/-- the bytes of runs -/
def encR (l : List (Nat × Col)) : List UInt8 := l.flatMap rleB
/-- the bytes of a row, run by run -/
def enc (T : List Col) : List UInt8 := encR (rle T)
theorem encR_snoc (l : List (Nat × Col)) (x : Nat × Col) : encR (l ++ [x]) = encR l ++ rleB x := by simp [encR]
theorem rleB_map (x : Nat × Col) : (rleB x).map vb = [.int .u8 ((x.1 : Int) % 256), vb x.2.r, vb x.2.g, vb x.2.b, vb x.2.a] := by
  simp [rleB, vb]
theorem rleB_len (l : List (Nat × Col)) : (encR l).length = 5 * l.length := by
  unfold encR
  induction l with
  | nil => rfl
  | cons x l ih => rw [List.flatMap_cons, List.length_append, ih]; simp [rleB]; omega
set_option maxHeartbeats 400000 in
theorem each_any (T : List Col) (w : World) :
    Calls Tryz.prog 153 #[tileV T] w fun e w' => e = .returned (.func (.func 159) #[] #[.pointer (some ⟨w.heap.size, 0, none⟩)]) ∧ w' = w.alloc (.cells (tcells T) 109) := by
  unfold tileV
  go_enter Tryz.func153, Tryz.ntmps153
  go_wp2
  go_ret
  exact ⟨rfl, rfl⟩
theorem each_stops (n b : Nat) (T : List Col) (hT : T.length = 64) (w : World) (hb : Blk w b (tcells T) 109) :
    SeqStopsK Fence.wide n Tryz.prog 159 #[.pointer (some ⟨b, 0, none⟩)] (fun x : Nat × Col => #[Value.int .i64 x.1, colV x.2]) (KeepB b) (fun ys => ys = rle T) (fun pre => pre <+: rle T) 64 w := fun l J Jx W hW hJ _ hY h0 =>
  each1_in n l b T hT J Jx hY (fun s A B row hs hg hr => hJ s A B row hs hg (fun r e => (hr r e).elim)) W (hb.below hW hb.lt) h0
set_option maxRecDepth 100000 in
set_option maxHeartbeats 2000000 in
theorem tile_any (T : List Col) (hT : T.length = 64) (w : World) :
    Calls Tryz.prog 138 #[tileV T] w fun e w' => ∃ v, e = .returned v ∧ w'.ownsRow w.heap.size 5 1 v (enc T).length ((enc T).map vb) ∧ Below w.heap.size w w' := by
  obtain ⟨i0, hi, hz0, hz1, hz2⟩ := info_parts info_u8
  refine (callsIn_wide (n := 3)).1 ?_
  refine callsIn_of_wp_marks Tryz.func138 rfl trivial ?_ rfl
  simp only [Tryz.ntmps138, List.size_toArray, List.length_cons, List.length_nil, Nat.reduceAdd, Nat.reduceSub, Array.replicate_succ, Array.replicate_zero, List.push_toArray, List.append_toArray, List.nil_append, List.cons_append]
  refine wpIn_wide.2 ?_
  have ht : tileV T = .agg (tcells T) := rfl
  go_wp2_with (first | refine wl_load_tile rfl rfl hT ((Blk.new w _ _).alloc _).tileAt ?_ | (go_at_call 153; refine (each_any T _).mono ?_; rintro e w' ⟨rfl, rfl⟩))
  refine (wpIn_wide (n := 3)).1 ?_
  have hB0 : Below w.heap.size w (((w.alloc (.cells (tcells T) 109)).alloc (.cells #[.slice none 0 0] 23)).alloc (.cells (tcells T) 109)) := by
    repeat (first | assumption | exact Below.refl _ _ | refine below_dN ?_ _ | refine Below.alloc ?_ (by first | exact Nat.le_refl _ | omega | (simp; fail_if_success (focus skip)) | (simp; omega)) _ | refine Below.setCell ?_ (by first | exact Nat.le_refl _ | omega | (simp; fail_if_success (focus skip)) | (simp; omega)) _ | refine Below.drew ?_ | refine Below.trans ?_ (Below.mono (by assumption) (by first | exact Nat.le_refl _ | omega | (simp; fail_if_success (focus skip)) | (simp; omega))))
  have bO : Boxed (((w.alloc (.cells (tcells T) 109)).alloc (.cells #[.slice none 0 0] 23)).alloc (.cells (tcells T) 109)) (w.heap.size + 1) 23 (.slice none 0 0) := by
    have := (Boxed.new (w.alloc (.cells (tcells T) 109)) 23 (.slice none 0 0)).alloc (.cells (tcells T) 109)
    simpa using this
  have bT : Blk (((w.alloc (.cells (tcells T) 109)).alloc (.cells #[.slice none 0 0] 23)).alloc (.cells (tcells T) 109)) (w.heap.size + 1 + 1) (tcells T) 109 := by
    have := Blk.new ((w.alloc (.cells (tcells T) 109)).alloc (.cells #[.slice none 0 0] 23)) (tcells T) 109
    simpa using this
  have hsz : (((w.alloc (.cells (tcells T) 109)).alloc (.cells #[.slice none 0 0] 23)).alloc (.cells (tcells T) 109)).heap.size = w.heap.size + 3 := by simp
  obtain ⟨W0, hW0⟩ : ∃ W0, ((w.alloc (.cells (tcells T) 109)).alloc (.cells #[.slice none 0 0] 23)).alloc (.cells (tcells T) 109) = W0 := ⟨_, rfl⟩
  rw [hW0] at hB0 bO bT hsz ⊢
  clear hW0
  refine wpIn_rangeFunc_ownH rfl (by omega) (gf := 159) (lb := #[.pointer (some ⟨w.heap.size + 1 + 1, 0, none⟩)]) rfl trivial (enters_of Tryz.func159 (by kernel_rfl) rfl)
    (each_stops 2 (w.heap.size + 1 + 1) T hT W0 bT) keepB_t (keepB_b (by omega)) (Below.refl _ _) (fun _ => rfl)
    (fun pre W => (∃ v, Boxed W (w.heap.size + 1) 23 v ∧ W.ownsRow (w.heap.size + 3) 5 1 v (encR pre).length ((encR pre).map vb) ∧ True) ∧ Below w.heap.size w W ∧ w.heap.size + 3 ≤ W.heap.size)
    (fun _ _ _ => False)
    (OwnFrom.and (Own.from (holdsRow_own (w.heap.size + 3) (w.heap.size + 1) 23 5 1 (fun pre : List (Nat × Col) => (encR pre).length) (fun pre => (encR pre).map vb) (fun _ _ => True)) _) (OwnFrom.and (ownFrom_below (Nat.le_refl _) (by omega)) (ownFrom_size _ _)))
    (fun _ _ _ _ _ hs _ _ => hs)
    ⟨⟨_, bO, World.ownsRow_nil _ _ _ _, trivial⟩, hB0, by omega⟩
    (fun x a' W => ∃ Bx, w.heap.size + 3 ≤ Bx ∧ Blk W Bx x.2.cells 107 ∧ a' = { tmps := #[.agg (tcells T), .pointer (some ⟨w.heap.size, 0, none⟩), .slice none 0 0, .pointer (some ⟨w.heap.size + 1, 0, none⟩), .int .i64 x.1, .pointer (some ⟨Bx, 0, none⟩), .agg (tcells T), .func (.func 159) #[] #[.pointer (some ⟨w.heap.size + 1 + 1, 0, none⟩)], .int .i64 x.1, colV x.2, undef, undef, undef, undef, undef, undef, undef, undef, undef, undef, undef, undef, undef, undef], defers := [] })
    (fun x a' _ X Y row hs hg hr => by
      obtain ⟨Bx, h1, h2, h3⟩ := hs
      exact ⟨Bx, h1, h2.grown hg (fun e => by obtain ⟨_, o, ho, hc⟩ := hr Bx e.symm; rw [show X.heap[Bx]? = _ from h2] at ho; cases ho; cases hc), h3⟩)
    ?assign ?body ?done ?stop
  case assign =>
    rintro l pre x W K ⟨⟨v, hv, hrow, _⟩, hB, hs3⟩ hK
    have hlt := hv.lt
    gi_wp2
    exact hK _ _ ((KeepsOthers.alloc _ _).from _) (Below.heap_alloc _ _ _ (by omega)) ⟨⟨v, hv.alloc _, hrow.alloc _, trivial⟩, hB.alloc hB.size _, by simp; omega⟩ ⟨W.heap.size, hs3, Blk.new W _ _, rfl⟩
  case body =>
    rintro l pre x a' W hl ⟨r, hr⟩ ⟨⟨v, hv, hrow, _⟩, hB, hs3⟩ ⟨Bx, hBx, bX, rfl⟩ hlt
    have hpl : (encR pre).length ≤ 320 := by rw [rleB_len]; omega
    obtain ⟨hc, hf, hbx⟩ := bX.all
    have hv1 := hv.cell
    gi_wp2_with (gi_at_builtin; refine wpListIn_append_own _ rfl _ _ 23 rfl (w.heap.size + 3) 5 i0 (.int .u8 0) 1 1 Tryz.underlying23 hi hz0 hz1 hz2 rfl (by decide) _ _ _ rfl (hrow.alloc _) ⟨W.heap.size, 0, none⟩ 5 5 _ rfl (by rfl) (cells_new _ _ _) (by simp [Value.oneCell']) (by unfold maxLen; omega) (by omega) (by simp; omega) ?_; intro v' w1 hown' hgrow _; obtain ⟨g', cap', rfl⟩ := ownsRow_succ hown'; obtain ⟨k1, k2, k3, k4, k5⟩ := boxed_appended hv (by decide) hrow hown' hgrow; have hc1 := k1.cell; have hf1 := k1.frozen)
    exact ⟨k4.from _, k5 _ (by omega) (by omega) (by omega), ⟨_, k2, by rw [encR_snoc, List.length_append, List.map_append, rleB_map]; exact k3⟩,
      hB.trans (below_of ⟨(hgrow.os).symm, hgrow.tape.symm, hgrow.output.symm, k4.size⟩ (fun c hc => k5 c (by omega) (by omega) (by omega))), Nat.le_trans hs3 k4.size⟩
  case done =>
    rintro D ys W hD rfl ⟨⟨v, hv, hrow, _⟩, hB, hs3⟩ hK
    have hc := hv.cell
    go_wp2
    refine ⟨by simp, .inl ⟨_, _, rfl, run_takeDeferred hK, ?_⟩⟩
    exact ⟨_, results_tmp rfl _ _ _, v, rfl, ownsRow_base (ownsRow_putObj hrow _ hK rfl) (by omega), hB.trans (belowK_b (w := w) (Nat.le_refl _) W D _ _ (by omega) hK rfl rfl)⟩
  case stop =>
    rintro D c pre W _ _ h _
    exact h.elim
end Go.Proofs.YtkjpcjccddggoaaGreat

namespace Go.Proofs.YtkjpcjccddggoaaGreat
set_option maxRecDepth 20000
open Go.RowKit
/-- the cells of a row of tiles -/
def tlc (L : List (List Col)) : List Value := L.flatMap fun T => (tcells T).toList
/-- all of them have 64 pixels -/
def All64 (L : List (List Col)) : Prop := ∀ T ∈ L, T.length = 64
theorem tlc_get (L : List (List Col)) (h : All64 L) (i : Nat) (hi : i < L.length) (j : Nat) (v : Value) (hv : (tcells L[i])[j]? = some v) : (tlc L)[i * 256 + j]? = some v := by
  induction L generalizing i with
  | nil => simp at hi
  | cons T L ih =>
    have h1 : (tcells T).size = 256 := by rw [tcells_size, h T (by simp)]
    have e : tlc (T :: L) = (tcells T).toList ++ tlc L := rfl
    rw [e]
    cases i with
    | zero =>
      have hj := (Array.getElem?_eq_some_iff.1 hv).1
      simp only [List.getElem_cons_zero] at hv hj
      rw [Nat.zero_mul, Nat.zero_add, List.getElem?_append_left (by simpa using hj)]
      simpa using hv
    | succ i =>
      rw [List.getElem?_append_right (by simp [h1]; omega)]
      have := ih (fun U hU => h U (by simp [hU])) i (by simpa using hi) (by simpa using hv)
      rw [← this]
      congr 1
      simp [h1]; omega
theorem one_tlc (L : List (List Col)) : ∀ u ∈ tlc L, u.oneCell' = true := by
  intro u hu
  unfold tlc at hu
  obtain ⟨T, _, h⟩ := List.mem_flatMap.1 hu
  have := tcells_all T
  rw [Array.all_eq_true'] at this
  exact this u (by simpa using h)
theorem elem_tile : Elem Tryz.prog 48 109 256 256 := Elem.mk' (z := tileV noTile) Tryz.underlying48 (by kernel_rfl) (by kernel_rfl) (by decide)
/-- a slice of tiles that can be read -/
def Tiles (w : World) (v : Value) (L : List (List Col)) : Prop := All64 L ∧ IsSl w v L.length (tlc L)
def OwnT (base : Nat) (w : World) (v : Value) (L : List (List Col)) : Prop := All64 L ∧ w.ownsRow base 109 256 v L.length (tlc L)
theorem OwnT.tiles {base : Nat} {w : World} {v : Value} {L : List (List Col)} (h : OwnT base w v L) : Tiles w v L := ⟨h.1, IsSl.of_own h.2⟩
theorem Tiles.below {w w' : World} {v : Value} {L : List (List Col)} (h : Tiles w v L) (hb : Below w.heap.size w w') : Tiles w' v L := ⟨h.1, h.2.below hb⟩
theorem Tiles.slice {w : World} {v : Value} {L : List (List Col)} (h : Tiles w v L) : ∃ a c, v = .slice a L.length c ∧ L.length ≤ c ∧ c ≤ maxLen := by
  obtain ⟨_, a, c, e, h1, h2, _⟩ := h; exact ⟨a, c, e, h1, h2⟩
theorem Tiles.get {w : World} {a : Option Addr} {n c : Nat} {L : List (List Col)} (h : Tiles w (.slice a n c) L) (i : Nat) (hi : i < L.length) : ∃ b o, a = some ⟨b, o, none⟩ ∧ TileAt w b (o + i * 256) L[i] ∧ b < w.heap.size := by
  obtain ⟨h64, a', c', e, _, _, _, r⟩ := h
  cases e
  have hT := h64 L[i] (by simp)
  have h0 := (tcells_at L[i] 0 (by omega)).1
  obtain ⟨b, o, ea, hc⟩ := r (i * 256 + 0) _ (tlc_get L h64 i hi 0 _ h0)
  refine ⟨b, o, ea, fun j v hv => ?_, World.block_lt_of_cell? w _ hc⟩
  obtain ⟨b', o', ea', hc'⟩ := r (i * 256 + j) v (tlc_get L h64 i hi j v hv)
  rw [ea] at ea'
  cases ea'
  rw [Nat.add_assoc]
  exact hc'
theorem Tiles.nil (w : World) : Tiles w (.slice none 0 0) [] := ⟨by simp [All64], IsSl.nil w⟩
end Go.Proofs.YtkjpcjccddggoaaGreat
