/- Walks by data and names, part 29: runs: the reader's tile. -/
import Derived.Test.YtkjpcjccddggoaaGreatQk28
import Derived.Test.YtkjpcjccddggoaaGreatQk16
namespace Go.Proofs.YtkjpcjccddggoaaGreat
set_option maxRecDepth 20000
open Go.RowKit
/-- a tile of runs that bytes begin with, behind pixels that stand already; and how many bytes these are -/
def readT (T : List Col) (l : List UInt8) : Option (List Col × Nat) :=
  if T.length = 64 then some (T, 0) else
  match l with
  | m :: r :: g :: b :: a :: rest =>
    if 0 < m.toNat ∧ T.length + m.toNat ≤ 64 ∧ T.getLast? ≠ some ⟨r, g, b, a⟩ then
      (readT (T ++ List.replicate m.toNat ⟨r, g, b, a⟩) rest).map fun p => (p.1, p.2 + 5)
    else none
  | _ => none
/-- so far as it has been read -/
def padT (T : List Col) : List Col := T ++ List.replicate (64 - T.length) noCol
theorem padT_len (T : List Col) (h : T.length ≤ 64) : (padT T).length = 64 := by simp [padT]; omega
theorem tcells_set (X : List Col) (i : Nat) (c : Col) (h : i < X.length) :
    ((((tcells X).setIfInBounds (i * 4) (vb c.r)).setIfInBounds (i * 4 + 1) (vb c.g)).setIfInBounds (i * 4 + 2) (vb c.b)).setIfInBounds (i * 4 + 3) (vb c.a) = tcells (X.set i c) := by
  unfold tcells
  simp only [List.setIfInBounds_toArray]
  congr 1
  induction X generalizing i with
  | nil => simp at h
  | cons x X ih =>
    cases i with
    | zero => simp
    | succ i =>
      have := ih i (by simpa using h)
      simp only [List.flatMap_cons, List.set_cons_succ]
      rw [← this]
      simp [show (i + 1) * 4 = i * 4 + 4 from by omega]
/-- no cell of a row is a byte -/
def noB (cs : Array Value) : Prop := ∀ (j : Nat) (x : UInt8), cs[j]? ≠ some (vb x)
theorem Bytes.keep {w w' : World} {bs : Value} {l : List UInt8} {br : Nat} {cs : Array Value} {t : TypeId} (h : Bytes w bs l) (hb : Blk w br cs t) (hn : noB cs) (hg : w.grownBy w' (some br)) : Bytes w' bs l := by
  obtain ⟨a, c, e, h1, h2, h3, r⟩ := h
  refine ⟨a, c, e, h1, h2, h3, fun j u hu => ?_⟩
  obtain ⟨b, o, ea, hc⟩ := r j u hu
  refine ⟨b, o, ea, ?_⟩
  have hlt := World.block_lt_of_cell? w _ hc
  have hne : some b ≠ some br := by
    intro e2
    cases e2
    obtain ⟨x, _, rfl⟩ := List.mem_map.1 (List.mem_of_getElem? hu)
    exact hn _ x ((hb.cell _).symm.trans hc)
  rw [← hc]
  unfold World.cell?
  rw [hg.block b hlt hne]
theorem padT_snoc (T : List Col) (c : Col) (h : T.length < 64) : (padT T).set T.length c = padT (T ++ [c]) := by
  obtain ⟨k, hk⟩ : ∃ k, 64 - T.length = k + 1 := ⟨63 - T.length, by omega⟩
  have hk2 : 64 - (T ++ [c]).length = k := by simp; omega
  unfold padT
  rw [hk, hk2, List.set_append_right _ _ (Nat.le_refl _), Nat.sub_self, List.replicate_succ, List.set_cons_zero, List.append_assoc]
  rfl
theorem padT_put (T : List Col) (i n : Nat) (r g b a : UInt8) (hn : (T ++ List.replicate i (⟨r, g, b, a⟩ : Col)).length = n) (h : n < 64) :
    tcells (padT (T ++ List.replicate (i + 1) ⟨r, g, b, a⟩)) = ((((tcells (padT (T ++ List.replicate i ⟨r, g, b, a⟩))).setIfInBounds (n * 4) (vb r)).setIfInBounds (n * 4 + 1) (vb g)).setIfInBounds (n * 4 + 2) (vb b)).setIfInBounds (n * 4 + 3) (vb a) := by
  have e := tcells_set (padT (T ++ List.replicate i ⟨r, g, b, a⟩)) n ⟨r, g, b, a⟩ (by rw [padT_len _ (by omega)]; omega)
  have e2 : padT (T ++ List.replicate (i + 1) ⟨r, g, b, a⟩) = (padT (T ++ List.replicate i ⟨r, g, b, a⟩)).set n ⟨r, g, b, a⟩ := by
    rw [List.replicate_succ', ← List.append_assoc, ← padT_snoc _ _ (by omega), hn]
  rw [e2]
  exact e.symm
theorem padT_get (T : List Col) (j : Nat) (h : j < T.length) : (padT T)[j]? = T[j]? := by
  unfold padT
  rw [List.getElem?_append_left h]
theorem padT_full (T : List Col) (h : T.length = 64) : padT T = T := by simp [padT, h]
theorem run_loadVar_col (w : World) (b o : Nat) (c : Col) (h0 : w.cell? ⟨b, o, none⟩ = some (vb c.r)) (h1 : w.cell? ⟨b, o + 1, none⟩ = some (vb c.g)) (h2 : w.cell? ⟨b, o + 2, none⟩ = some (vb c.b)) (h3 : w.cell? ⟨b, o + 3, none⟩ = some (vb c.a)) :
    (loadVar 107 ⟨b, o, none⟩).run Tryz.prog w = .ok (colV c) w := by
  have hl : (loadCells ⟨b, o, none⟩ ([vb c.r, vb c.g, vb c.b, vb c.a] : List Value).length).run Tryz.prog w = .ok ([vb c.r, vb c.g, vb c.b, vb c.a] : List Value).toArray w :=
    run_loadCells_list (P := Tryz.prog) w ⟨b, o, none⟩ _ (fun j v hv => by
      have hadd : (⟨b, o, none⟩ : Addr).add j = ⟨b, o + j, none⟩ := by unfold Addr.add; split <;> simp_all
      rw [hadd]
      rcases j with _ | _ | _ | _ | j <;> simp_all)
  have hi := col_hi
  obtain ⟨fs, hu⟩ := col_hu
  cases hq' : Tryz.prog.info? 107 with
  | none => simp [hq'] at hi
  | some i =>
    have hs : i.size = 4 := by simpa [hq'] using hi
    have hagg : (isAgg 107).run Tryz.prog w = .ok true w := by
      unfold isAgg
      rw [Sem.run_bind, run_underlying hu w]
      rfl
    simp only [List.length_cons, List.length_nil] at hl
    simp only [loadVar, Sem.run_bind, hagg, Result.andThen_ok, if_true, sizeOf, typeInfo, run_program, hq', Sem.run_pure, hs, hl]
    first | done | rfl
theorem wq_load_colB {ops : Array Oper} {Q : Act → Prop} {rest : List Oper} {a : Act} {dst : Option Tmp} {p : Operand} {ty : TypeId} {pos : String} {af : Array Edge} {g : Option (Nat × Bool)} {W : World} {b o : Nat} {c : Col}
    (hw : Region.wanted ⟨dst, .load 107 p, ty, pos, af, g⟩ (yielded ops a.tmps) = true) (hp : a.eval p = .pointer (some ⟨b, o, none⟩))
    (h0 : W.cell? ⟨b, o, none⟩ = some (vb c.r)) (h1 : W.cell? ⟨b, o + 1, none⟩ = some (vb c.g)) (h2 : W.cell? ⟨b, o + 2, none⟩ = some (vb c.b)) (h3 : W.cell? ⟨b, o + 3, none⟩ = some (vb c.a))
    (hk : wpQuiet Tryz.prog ops (fun w' => Below W.heap.size W w') Q rest (a.put dst (colV c))) : wpQuiet Tryz.prog ops (fun w' => Below W.heap.size W w') Q (⟨dst, .load 107 p, ty, pos, af, g⟩ :: rest) a :=
  wq_of hw (fun w hC => by
    simp only [execOp, hp, Instr.loadAt, Instr.sureAddr, Sem.run_bind, Sem.run_pure, Result.andThen_ok, run_loadVar_col w b o c (below_cell hC h0) (below_cell hC h1) (below_cell hC h2) (below_cell hC h3)]) hk
theorem gb_rowNew {w w1 : World} {row : Option Nat} {n : Nat} (h : w.grownBy w1 row) (hn : w.heap.size ≤ n) (cs : Array Value) : w.grownBy (w1.setRow n cs) row :=
  ⟨h.os, h.tape, h.output, Nat.le_trans h.size (by simp), fun i hi hr => (setRow_other w1 n i cs (by omega)).trans (h.block i hi hr)⟩
theorem gb_setNew {w w1 : World} {row : Option Nat} {n : Nat} (h : w.grownBy w1 row) (hn : w.heap.size ≤ n) (j : Nat) (v : Value) : w.grownBy (w1.setCell ⟨n, j, none⟩ v) row :=
  ⟨h.os, h.tape, h.output, Nat.le_trans h.size (by simp), fun i hi hr => (heap_setCell_other w1 ⟨n, j, none⟩ i v (by simp; omega)).trans (h.block i hi hr)⟩
theorem wr64 (n k : Int) (h : n = k) (h1 : -9223372036854775808 ≤ k ∧ k ≤ 9223372036854775807) : IntKind.i64.wrap n = k := by subst h; exact (IntWalk.i64_left n).trans (IntWalk.wrap64_in n h1)
abbrev rd (br : Nat) : Value := .pointer (some ⟨br, 0, none⟩)
/-- what the reader's tile leaves -/
structure TileGot (w w' : World) (wd hg tl bs : Value) (at_ br : Nat) (e : Ending) (T : List Col) (k : Nat) : Prop where
  ret : e = .returned (tileV T)
  blk : Blk w' br (rdC wd hg tl bs (at_ + k)) 181
  grown : w.grownBy w' (some br)
structure TileNot (w w' : World) (wd hg tl bs : Value) (br : Nat) (e : Ending) : Prop where
  ret : e = .panicked wrongP
  blk : ∃ n : Nat, Blk w' br (rdC wd hg tl bs n) 181
  grown : w.grownBy w' (some br)
def TilePost (w w' : World) (wd hg tl bs : Value) (at_ br : Nat) (e : Ending) : Option (List Col × Nat) → Prop
  | some (T, k) => TileGot w w' wd hg tl bs at_ br e T k
  | none => TileNot w w' wd hg tl bs br e
theorem readT_short (T : List Col) (l : List UInt8) (h : T.length < 64) (hl : l.length < 5) : readT T l = none := by
  unfold readT
  rw [if_neg (by omega)]
  match l, hl with
  | [], _ => rfl
  | [_], _ => rfl
  | [_, _], _ => rfl
  | [_, _, _], _ => rfl
  | [_, _, _, _], _ => rfl
theorem readT_full (T : List Col) (l : List UInt8) (h : T.length = 64) : readT T l = some (T, 0) := by unfold readT; rw [if_pos h]
/-- may a run stand there? -/
def runOk (T : List Col) (m : UInt8) (c : Col) : Bool := decide (0 < m.toNat ∧ T.length + m.toNat ≤ 64 ∧ T.getLast? ≠ some c)
theorem readT_step (T : List Col) (m r g b a : UInt8) (l : List UInt8) (h : T.length < 64) :
    readT T (m :: r :: g :: b :: a :: l) = if runOk T m ⟨r, g, b, a⟩ then (readT (T ++ List.replicate m.toNat ⟨r, g, b, a⟩) l).map (fun p => (p.1, p.2 + 5)) else none := by
  rw [readT, if_neg (by omega)]
  simp [runOk]
set_option maxRecDepth 100000 in
set_option maxHeartbeats 4000000 in
theorem rdtile_any (wd hg tl bs : Value) (at_ br : Nat) (l : List UInt8) (w : World) (h : Blk w br (rdC wd hg tl bs at_) 181) (hb : Bytes w bs l) (ha : at_ ≤ l.length) (hn : ∀ n : Nat, noB (rdC wd hg tl bs n)) :
    Calls Tryz.prog 148 #[rd br] w fun e w' => TilePost w w' wd hg tl bs at_ br e (readT [] (l.drop at_)) := by
  go_enter Tryz.func148, Tryz.ntmps148
  go_wp2_with (first | refine wl_alloc_tile rfl ?_)
  have b0 := Blk.new w (tcells noTile) 109
  have b1 := Blk.new (w.alloc (.cells (tcells noTile) 109)) (tcells noTile) 109
  replace b0 := b0.alloc (.cells (tcells noTile) 109)
  have h0 := h
  replace h := (h.alloc (.cells (tcells noTile) 109)).alloc (.cells (tcells noTile) 109)
  have hg0 : w.grownBy ((w.alloc (.cells (tcells noTile) 109)).alloc (.cells (tcells noTile) 109)) (some br) := gb_alloc (gb_alloc (gb_refl _ _) _) _
  have hsz : w.heap.size + 2 ≤ ((w.alloc (.cells (tcells noTile) 109)).alloc (.cells (tcells noTile) 109)).heap.size := by simp
  have hbr := h0.lt
  rw [show (w.alloc (.cells (tcells noTile) 109)).heap.size = w.heap.size + 1 from by simp] at b1
  obtain ⟨W0, hW0⟩ : ∃ W0, (w.alloc (.cells (tcells noTile) 109)).alloc (.cells (tcells noTile) 109) = W0 := ⟨_, rfl⟩
  rw [hW0] at b0 b1 h hg0 hsz ⊢
  clear hW0
  go_loopw [4] (fun i wr => ∃ (T : List Col) (j : Nat), T.length ≤ 64 ∧ i = .int .i64 T.length ∧ at_ + j ≤ l.length ∧ readT [] (l.drop at_) = (readT T (l.drop (at_ + j))).map (fun p => (p.1, p.2 + j)) ∧ Blk wr w.heap.size (tcells noTile) 109 ∧ Blk wr (w.heap.size + 1) (tcells (padT T)) 109 ∧
      Blk wr br (rdC wd hg tl bs (at_ + j)) 181 ∧ w.grownBy wr (some br) ∧ w.heap.size + 2 ≤ wr.heap.size)
    (fun i _ => 64 - (intOf i).toNat)
  case atStart => exact ⟨[], 0, by simp, rfl, by omega, by simp, b0, b1, h, hg0, hsz⟩
  case round =>
    clear b0 b1 h hg0 hsz
    obtain ⟨T, j, hT, rfl, hj, hr, b0, b1, h, hg1, hsz⟩ := hrel
    have HR := Lib.hid hr
    clear hr
    have hb1 : Bytes wr bs l := hb.keep h0 (hn _) hg1
    by_cases hlt : T.length < 64
    · by_cases hl5 : l.length < at_ + j + 5
      · go_wp2_with (go_at_call 123; refine (next_no wd hg tl bs (at_ + j) br 5 l _ h hb1 hj (by omega) hl5).mono ?_; rintro e w' ⟨rfl, hb2⟩)
        have hnone : readT [] (l.drop at_) = none := by rw [HR.out, readT_short T _ hlt (by simp; omega)]; rfl
        rw [hnone]
        exact ⟨rfl, rfl, ⟨_, h.below hb2 h.lt⟩, gb_below hg1 hb2 (Nat.le_refl _)⟩
      · obtain ⟨m, r, g, b, a, rest, hd⟩ : ∃ m r g b a rest, l.drop (at_ + j) = m :: r :: g :: b :: a :: rest := by
          match hx : l.drop (at_ + j) with
          | m :: r :: g :: b :: a :: rest => exact ⟨m, r, g, b, a, rest, rfl⟩
          | [] | [_] | [_, _] | [_, _, _] | [_, _, _, _] => have := congrArg List.length hx; simp at this; omega
        have HX : Hid (readT [] (l.drop at_) = if runOk T m ⟨r, g, b, a⟩ then (readT (T ++ List.replicate m.toNat ⟨r, g, b, a⟩) (l.drop (at_ + (j + 5)))).map (fun p => (p.1, p.2 + (j + 5))) else none) := by
          refine Lib.hid ?_
          have hrest : rest = l.drop (at_ + (j + 5)) := by
            have := congrArg (List.drop 5) hd
            rw [List.drop_drop] at this
            simpa [Nat.add_assoc] using this.symm
          rw [HR.out, hd, readT_step _ _ _ _ _ _ _ hlt, hrest]
          split
          · rw [Option.map_map]; congr 1; funext p; simp [Function.comp]; omega
          · rfl
        clear HR
        have hm256 : m.toNat < 256 := m.toNat_lt
        have htk : (l.drop (at_ + j)).take 5 = [m, r, g, b, a] := by rw [hd]; rfl
        go_wp2_with (go_at_call 123; refine (next_yes wd hg tl bs (at_ + j) br 5 l _ h hb1 hj (by omega) (by omega) (by omega)).mono ?_; rintro e w' ⟨v, rfl, hv, hB, hg2⟩)
        rw [htk] at hv
        clear htk hd
        have hv' : IsSl w' v 5 [vb m, vb r, vb g, vb b, vb a] := hv
        obtain ⟨ad, c, rfl, hc5, hcm, _, rdv⟩ := hv'
        obtain ⟨bb, oo, rfl, c0⟩ := rdv 0 (vb m) rfl
        obtain ⟨_, _, e1, c1⟩ := rdv 1 (vb r) rfl
        cases e1
        obtain ⟨_, _, e1, c2⟩ := rdv 2 (vb g) rfl
        cases e1
        obtain ⟨_, _, e1, c3⟩ := rdv 3 (vb b) rfl
        cases e1
        obtain ⟨_, _, e1, c4⟩ := rdv 4 (vb a) rfl
        cases e1
        clear rdv

        refine wp_region_cuts [.q [_, _, _, _, _, _, _, _, _, _, _, _, _, _, _, _, _], .e _, .q [_]] [_] rfl (fun w'' => Below w'.heap.size w' w'') (by kernel_rfl) (by kernel_rfl) (fun _ _ d _ _ h => by cases d <;> exact h) ?_
        refine cut_q (by (repeat (first | assumption | exact Below.refl _ _ | refine below_dN ?_ _ | refine Below.alloc ?_ (by first | exact Nat.le_refl _ | omega | (simp; fail_if_success (focus skip)) | (simp; omega)) _ | refine Below.setCell ?_ (by first | exact Nat.le_refl _ | omega | (simp; fail_if_success (focus skip)) | (simp; omega)) _ | refine Below.drew ?_ | refine Below.trans ?_ (Below.mono (by assumption) (by first | exact Nat.le_refl _ | omega | (simp; fail_if_success (focus skip)) | (simp; omega)))))) ?_
        repeat (first | go_big_quiet_step ((intros; rfl)) | quiet_step ((intros; rfl)) | fail | (refine wq_loadB rfl rfl (by kernel_rfl) (by assumption) ?_; simp only [Act.put, List.setIfInBounds_toArray, List.set_cons_succ, List.set_cons_zero]))
        refine wpQuiet_nil ?_
        refine cut_e ?_
        go_wp2
        refine ⟨by (repeat (first | assumption | exact Below.refl _ _ | refine below_dN ?_ _ | refine Below.alloc ?_ (by first | exact Nat.le_refl _ | omega | (simp; fail_if_success (focus skip)) | (simp; omega)) _ | refine Below.setCell ?_ (by first | exact Nat.le_refl _ | omega | (simp; fail_if_success (focus skip)) | (simp; omega)) _ | refine Below.drew ?_ | refine Below.trans ?_ (Below.mono (by assumption) (by first | exact Nat.le_refl _ | omega | (simp; fail_if_success (focus skip)) | (simp; omega))))), ?_⟩
        refine cut_q (by (repeat (first | assumption | exact Below.refl _ _ | refine below_dN ?_ _ | refine Below.alloc ?_ (by first | exact Nat.le_refl _ | omega | (simp; fail_if_success (focus skip)) | (simp; omega)) _ | refine Below.setCell ?_ (by first | exact Nat.le_refl _ | omega | (simp; fail_if_success (focus skip)) | (simp; omega)) _ | refine Below.drew ?_ | refine Below.trans ?_ (Below.mono (by assumption) (by first | exact Nat.le_refl _ | omega | (simp; fail_if_success (focus skip)) | (simp; omega)))))) ?_
        repeat (first | go_big_quiet_step ((intros; rfl)) | quiet_step ((intros; rfl)) | fail | (refine wq_loadB rfl rfl (by kernel_rfl) (by assumption) ?_; simp only [Act.put, List.setIfInBounds_toArray, List.set_cons_succ, List.set_cons_zero]))
        refine wpQuiet_nil ?_
        refine cut_end ?_
        go_wp2
        have bc := Blk.new w' (#[vb r, vb g, vb b, vb a]) 107
        have hbel : Below w'.heap.size w' (w'.alloc (.cells #[vb r, vb g, vb b, vb a] 107)).drew := by repeat (first | assumption | exact Below.refl _ _ | refine below_dN ?_ _ | refine Below.alloc ?_ (by first | exact Nat.le_refl _ | omega | (simp; fail_if_success (focus skip)) | (simp; omega)) _ | refine Below.setCell ?_ (by first | exact Nat.le_refl _ | omega | (simp; fail_if_success (focus skip)) | (simp; omega)) _ | refine Below.drew ?_ | refine Below.trans ?_ (Below.mono (by assumption) (by first | exact Nat.le_refl _ | omega | (simp; fail_if_success (focus skip)) | (simp; omega))))
        have hs1 := hg2.size
        have hbl : w.heap.size < wr.heap.size := by omega
        have b0' := (b0.grown hg2 (by simp; omega)).below hbel (by omega)
        have b1' := (b1.grown hg2 (by simp; omega)).below hbel (by omega)
        have hB' := hB.below hbel hB.lt
        have hg3 := gb_below (gb_trans hg1 hg2) hbel (Nat.le_refl _)
        have hs3 : w'.heap.size < (w'.alloc (.cells #[vb r, vb g, vb b, vb a] 107)).drew.heap.size := by simp
        obtain ⟨W1, hW1⟩ : ∃ W1, (w'.alloc (.cells #[vb r, vb g, vb b, vb a] 107)).drew = W1 := ⟨_, rfl⟩
        replace bc : Blk W1 w'.heap.size (#[vb r, vb g, vb b, vb a]) 107 := by rw [← hW1]; exact bc
        rw [hW1] at b0' b1' hB' hg3 hs3 ⊢
        clear hW1 hbel c0 c1 c2 c3 c4 b0 b1 hB h hg1 hg2
        have d0 : W1.cell? ⟨w'.heap.size, 0, none⟩ = some (vb r) := bc.cell 0
        have d1 : W1.cell? ⟨w'.heap.size, 1, none⟩ = some (vb g) := bc.cell 1
        have d2 : W1.cell? ⟨w'.heap.size, 2, none⟩ = some (vb b) := bc.cell 2
        have d3 : W1.cell? ⟨w'.heap.size, 3, none⟩ = some (vb a) := bc.cell 3
        obtain ⟨n, hTn⟩ : ∃ n, T.length = n := ⟨_, rfl⟩
        rw [hTn]
        have hTn' := Lib.hid hTn
        have hnn : (n : Int) < 64 := by omega
        by_cases hm0 : 0 < m.toNat
        · by_cases hbig : n + m.toNat ≤ 64
          · have hw1 : IntKind.i64.wrap ((n : Int) + m.toNat) = (n : Int) + m.toNat := wr64 _ _ (by omega) (by omega)
            have hd1 : decide ((n : Int) + m.toNat ≤ 64) = true := by simp; omega
            by_cases hn0 : n = 0
            · have hq0 : ((n : Int) == 0) = true := by simp; omega
              have hok : runOk T m ⟨r, g, b, a⟩ = true := by simp [runOk]; refine ⟨hm0, by omega, ?_⟩; rw [List.eq_nil_of_length_eq_zero (hTn.trans hn0)]; simp
              have hn0' := Lib.hid hn0
              clear hn0
              refine wp_region_cuts [.q [_, _, _, _, _, _, _, _, _, _, _, _, _, _, _, _, _]] [_, _, _, _] rfl (fun w'' => Below W1.heap.size W1 w'') (by kernel_rfl) (by kernel_rfl) (fun _ _ d _ _ h => by cases d <;> exact h) ?_
              refine cut_q (by (repeat (first | assumption | exact Below.refl _ _ | refine below_dN ?_ _ | refine Below.alloc ?_ (by first | exact Nat.le_refl _ | omega | (simp; fail_if_success (focus skip)) | (simp; omega)) _ | refine Below.setCell ?_ (by first | exact Nat.le_refl _ | omega | (simp; fail_if_success (focus skip)) | (simp; omega)) _ | refine Below.drew ?_ | refine Below.trans ?_ (Below.mono (by assumption) (by first | exact Nat.le_refl _ | omega | (simp; fail_if_success (focus skip)) | (simp; omega)))))) ?_
              repeat (first | go_big_quiet_step ((intros; rfl)) | quiet_step ((intros; rfl)) | (refine wq_load_colB (c := la) rfl rfl (by assumption) (by assumption) (by assumption) (by assumption) ?_; simp only [Act.put, List.setIfInBounds_toArray, List.set_cons_succ, List.set_cons_zero]) | (refine wq_load_colB (c := ⟨r, g, b, a⟩) rfl rfl (by assumption) (by assumption) (by assumption) (by assumption) ?_; simp only [Act.put, List.setIfInBounds_toArray, List.set_cons_succ, List.set_cons_zero]) | (refine wq_loadB rfl rfl (by kernel_rfl) (by assumption) ?_; simp only [Act.put, List.setIfInBounds_toArray, List.set_cons_succ, List.set_cons_zero]))
              refine wpQuiet_nil ?_
              refine cut_end ?_
              go_wp2_with (first | (refine wl_neq_col rfl rfl rfl ?_) | (go_at_call 124; first | rw [hqc] | skip; refine (need_true _).mono ?_; rintro e w' ⟨rfl, rfl⟩))
              have hdr : Below W1.heap.size W1 W1.drew := (Below.refl _ W1).drew
              have hs1' : W1.drew.heap.size = W1.heap.size := rfl
              have hg4 := gb_below hg3 hdr (Nat.le_refl _)
              have bc2 : Blk W1.drew w'.heap.size (#[vb r, vb g, vb b, vb a]) 107 := bc
              have b0'' : Blk W1.drew w.heap.size (tcells noTile) 109 := b0'
              have b1'' : Blk W1.drew (w.heap.size + 1) (tcells (padT T)) 109 := b1'
              have hB'' : Blk W1.drew br (rdC wd hg tl bs (at_ + j + 5)) 181 := hB'
              obtain ⟨W2, hW2⟩ : ∃ W2, W1.drew = W2 := ⟨_, rfl⟩
              rw [hW2] at hg4 hs1' bc2 b0'' b1'' hB'' ⊢
              clear hW2 hdr b0' b1' hB' hg3 bc d0 d1 d2 d3
              go_loopw [4, 54] (fun i4 i5 wq => ∃ i : Nat, i ≤ m.toNat ∧ i4 = .int .i64 ((n + i : Nat) : Int) ∧ i5 = .int .i64 i ∧ Blk wq w.heap.size (tcells noTile) 109 ∧ Blk wq (w.heap.size + 1) (tcells (padT (T ++ List.replicate i ⟨r, g, b, a⟩))) 109 ∧
                  Blk wq w'.heap.size (#[vb r, vb g, vb b, vb a]) 107 ∧ Blk wq br (rdC wd hg tl bs (at_ + j + 5)) 181 ∧ w.grownBy wq (some br) ∧ w.heap.size + 2 ≤ wq.heap.size)
                (fun _ i5 _ => m.toNat - (intOf i5).toNat)
              case atStart => exact ⟨0, by omega, rfl, rfl, b0'', by simpa using b1'', bc2, hB'', hg4, by omega⟩
              case round =>
                clear b0'' b1'' bc2 hB'' hg4 hs1'
                obtain ⟨i, hi, rfl, rfl, c0, c1, cc, cB, cg, cs⟩ := hrel
                by_cases hlt2 : i < m.toNat
                · have hin : n + i < 64 := by omega
                  have hl1 : (T ++ List.replicate i (⟨r, g, b, a⟩ : Col)).length = n + i := by simp [hTn'.out]
                  obtain ⟨x1, x2, x3⟩ := c1.all
                  obtain ⟨y1, y2, y3⟩ := cc.all
                  obtain ⟨t0, t1, t2, t3⟩ := tcells_at (padT (T ++ List.replicate i ⟨r, g, b, a⟩)) (n + i) (by rw [padT_len _ (by omega)]; omega)
                  rw [← x1] at t0 t1 t2 t3
                  clear x1
                  have hx' : Hid (tcells (padT (T ++ List.replicate (i + 1) ⟨r, g, b, a⟩)) = ((((tcells (padT (T ++ List.replicate i ⟨r, g, b, a⟩))).setIfInBounds ((n + i) * 4) (vb r)).setIfInBounds ((n + i) * 4 + 1) (vb g)).setIfInBounds ((n + i) * 4 + 2) (vb b)).setIfInBounds ((n + i) * 4 + 3) (vb a)) := Lib.hid (padT_put T i (n + i) r g b a hl1 hin)
                  go_wp2
                  go_roundw
                  case rel =>
                    have hne : w.heap.size ≠ w.heap.size + 1 := by omega
                    have hne2 : w'.heap.size ≠ w.heap.size + 1 := by omega
                    have hne3 : br ≠ w.heap.size + 1 := by omega
                    refine ⟨i + 1, by omega, by go_num, by go_num, (((c0.other _ _ hne).other _ _ hne).other _ _ hne).other _ _ hne, ?_, (((cc.other _ _ hne2).other _ _ hne2).other _ _ hne2).other _ _ hne2, (((cB.other _ _ hne3).other _ _ hne3).other _ _ hne3).other _ _ hne3, gb_setNew (gb_setNew (gb_setNew (gb_setNew cg (by omega) _ _) (by omega) _ _) (by omega) _ _) (by omega) _ _, by simpa using cs⟩
                    rw [hx'.out]
                    exact (((c1.set _ _).set _ _).set _ _).set _ _
                  case measure => simp only [intOf]; omega
                · obtain hi2 : i = m.toNat := by omega
                  have hT2 : (T ++ List.replicate i (⟨r, g, b, a⟩ : Col)).length = n + i := by simp [hTn'.out]
                  go_wp2
                  go_roundw
                  case rel =>
                    refine ⟨T ++ List.replicate i ⟨r, g, b, a⟩, j + 5, by omega, by rw [hT2], by omega, ?_, c0, c1, cB, cg, cs⟩
                    rw [HX.out, hok, if_pos rfl, hi2]
                  case measure => simp only [intOf]; omega
            · obtain ⟨k, hk⟩ : ∃ k, n = k + 1 := ⟨n - 1, by omega⟩
              have hq0 : ((n : Int) == 0) = false := by simp; omega
              have hw3 : IntKind.i64.wrap ((n : Int) - 1) = (k : Int) := wr64 _ _ (by omega) (by omega)
              have hk64 : (k : Int) < 64 := by omega
              obtain ⟨T0, la, hTl⟩ : ∃ T0 la, T = T0 ++ [la] := by
                rcases List.eq_nil_or_concat T with e | ⟨T0, la, e⟩
                · rw [e] at hTn; simp at hTn; omega
                · exact ⟨T0, la, by simpa using e⟩
              have hT0 : T0.length = k := by rw [hTl] at hTn; simp at hTn; omega
              obtain ⟨k0, k1, k2, k3⟩ := tcells_at (padT T) k (by rw [padT_len _ (by omega)]; omega)
              have hla : (padT T)[k]'(by rw [padT_len _ (by omega)]; omega) = la := by
                rw [← Option.some_inj, ← List.getElem?_eq_getElem, padT_get _ _ (by omega), hTl]; simp [← hT0]
              rw [hla] at k0 k1 k2 k3
              rw [← b1'.cell] at k0 k1 k2 k3
              have hk' := Lib.hid hk
              by_cases hlast : la = ⟨r, g, b, a⟩
              · have hno : runOk T m ⟨r, g, b, a⟩ = false := by simp [runOk]; intros; rw [hTl]; simp [hlast]
                have hqc : (la != (⟨r, g, b, a⟩ : Col)) = false := by simp [hlast]
                clear hlast
                have hT0' := Lib.hid hT0
                have hTl' := Lib.hid hTl
                clear hk hT0 hTl hla hn0
                refine wp_region_cuts [.q [_, _, _, _, _, _, _, _, _, _, _, _, _, _, _, _, _]] [_, _, _, _] rfl (fun w'' => Below W1.heap.size W1 w'') (by kernel_rfl) (by kernel_rfl) (fun _ _ d _ _ h => by cases d <;> exact h) ?_
                refine cut_q (by (repeat (first | assumption | exact Below.refl _ _ | refine below_dN ?_ _ | refine Below.alloc ?_ (by first | exact Nat.le_refl _ | omega | (simp; fail_if_success (focus skip)) | (simp; omega)) _ | refine Below.setCell ?_ (by first | exact Nat.le_refl _ | omega | (simp; fail_if_success (focus skip)) | (simp; omega)) _ | refine Below.drew ?_ | refine Below.trans ?_ (Below.mono (by assumption) (by first | exact Nat.le_refl _ | omega | (simp; fail_if_success (focus skip)) | (simp; omega)))))) ?_
                repeat (first | go_big_quiet_step ((intros; rfl)) | quiet_step ((intros; rfl)) | (refine wq_load_colB (c := la) rfl rfl (by assumption) (by assumption) (by assumption) (by assumption) ?_; simp only [Act.put, List.setIfInBounds_toArray, List.set_cons_succ, List.set_cons_zero]) | (refine wq_load_colB (c := ⟨r, g, b, a⟩) rfl rfl (by assumption) (by assumption) (by assumption) (by assumption) ?_; simp only [Act.put, List.setIfInBounds_toArray, List.set_cons_succ, List.set_cons_zero]) | (refine wq_loadB rfl rfl (by kernel_rfl) (by assumption) ?_; simp only [Act.put, List.setIfInBounds_toArray, List.set_cons_succ, List.set_cons_zero]))
                refine wpQuiet_nil ?_
                refine cut_end ?_
                go_wp2_with (first | (refine wl_neq_col rfl rfl rfl ?_) | (go_at_call 124; first | rw [hqc] | skip; refine (need_false _).mono ?_; rintro e w' ⟨rfl, rfl⟩))
                have hnone : readT [] (l.drop at_) = none := by rw [HX.out, hno]; rfl
                rw [hnone]
                exact ⟨rfl, rfl, ⟨_, hB'⟩, gb_below hg3 ((Below.refl _ W1).drew) (Nat.le_refl _)⟩
              have hqc : (la != (⟨r, g, b, a⟩ : Col)) = true := by simp [hlast]
              have hok : runOk T m ⟨r, g, b, a⟩ = true := by simp [runOk]; refine ⟨hm0, by omega, ?_⟩; rw [hTl]; simp [hlast]
              clear hlast
              have hT0' := Lib.hid hT0
              have hTl' := Lib.hid hTl
              clear hk hT0 hTl hla hn0
              refine wp_region_cuts [.q [_, _, _, _, _, _, _, _, _, _, _, _, _, _, _, _, _]] [_, _, _, _] rfl (fun w'' => Below W1.heap.size W1 w'') (by kernel_rfl) (by kernel_rfl) (fun _ _ d _ _ h => by cases d <;> exact h) ?_
              refine cut_q (by (repeat (first | assumption | exact Below.refl _ _ | refine below_dN ?_ _ | refine Below.alloc ?_ (by first | exact Nat.le_refl _ | omega | (simp; fail_if_success (focus skip)) | (simp; omega)) _ | refine Below.setCell ?_ (by first | exact Nat.le_refl _ | omega | (simp; fail_if_success (focus skip)) | (simp; omega)) _ | refine Below.drew ?_ | refine Below.trans ?_ (Below.mono (by assumption) (by first | exact Nat.le_refl _ | omega | (simp; fail_if_success (focus skip)) | (simp; omega)))))) ?_
              repeat (first | go_big_quiet_step ((intros; rfl)) | quiet_step ((intros; rfl)) | (refine wq_load_colB (c := la) rfl rfl (by assumption) (by assumption) (by assumption) (by assumption) ?_; simp only [Act.put, List.setIfInBounds_toArray, List.set_cons_succ, List.set_cons_zero]) | (refine wq_load_colB (c := ⟨r, g, b, a⟩) rfl rfl (by assumption) (by assumption) (by assumption) (by assumption) ?_; simp only [Act.put, List.setIfInBounds_toArray, List.set_cons_succ, List.set_cons_zero]) | (refine wq_loadB rfl rfl (by kernel_rfl) (by assumption) ?_; simp only [Act.put, List.setIfInBounds_toArray, List.set_cons_succ, List.set_cons_zero]))
              refine wpQuiet_nil ?_
              refine cut_end ?_
              go_wp2_with (first | (refine wl_neq_col rfl rfl rfl ?_) | (go_at_call 124; first | rw [hqc] | skip; refine (need_true _).mono ?_; rintro e w' ⟨rfl, rfl⟩))
              have hdr : Below W1.heap.size W1 W1.drew := (Below.refl _ W1).drew
              have hs1' : W1.drew.heap.size = W1.heap.size := rfl
              have hg4 := gb_below hg3 hdr (Nat.le_refl _)
              have bc2 : Blk W1.drew w'.heap.size (#[vb r, vb g, vb b, vb a]) 107 := bc
              have b0'' : Blk W1.drew w.heap.size (tcells noTile) 109 := b0'
              have b1'' : Blk W1.drew (w.heap.size + 1) (tcells (padT T)) 109 := b1'
              have hB'' : Blk W1.drew br (rdC wd hg tl bs (at_ + j + 5)) 181 := hB'
              obtain ⟨W2, hW2⟩ : ∃ W2, W1.drew = W2 := ⟨_, rfl⟩
              rw [hW2] at hg4 hs1' bc2 b0'' b1'' hB'' ⊢
              clear hW2 hdr b0' b1' hB' hg3 bc d0 d1 d2 d3
              go_loopw [4, 54] (fun i4 i5 wq => ∃ i : Nat, i ≤ m.toNat ∧ i4 = .int .i64 ((n + i : Nat) : Int) ∧ i5 = .int .i64 i ∧ Blk wq w.heap.size (tcells noTile) 109 ∧ Blk wq (w.heap.size + 1) (tcells (padT (T ++ List.replicate i ⟨r, g, b, a⟩))) 109 ∧
                  Blk wq w'.heap.size (#[vb r, vb g, vb b, vb a]) 107 ∧ Blk wq br (rdC wd hg tl bs (at_ + j + 5)) 181 ∧ w.grownBy wq (some br) ∧ w.heap.size + 2 ≤ wq.heap.size)
                (fun _ i5 _ => m.toNat - (intOf i5).toNat)
              case atStart => exact ⟨0, by omega, rfl, rfl, b0'', by simpa using b1'', bc2, hB'', hg4, by omega⟩
              case round =>
                clear b0'' b1'' bc2 hB'' hg4 hs1'
                obtain ⟨i, hi, rfl, rfl, c0, c1, cc, cB, cg, cs⟩ := hrel
                by_cases hlt2 : i < m.toNat
                · have hin : n + i < 64 := by omega
                  have hl1 : (T ++ List.replicate i (⟨r, g, b, a⟩ : Col)).length = n + i := by simp [hTn'.out]
                  obtain ⟨x1, x2, x3⟩ := c1.all
                  obtain ⟨y1, y2, y3⟩ := cc.all
                  obtain ⟨t0, t1, t2, t3⟩ := tcells_at (padT (T ++ List.replicate i ⟨r, g, b, a⟩)) (n + i) (by rw [padT_len _ (by omega)]; omega)
                  rw [← x1] at t0 t1 t2 t3
                  clear x1
                  have hx' : Hid (tcells (padT (T ++ List.replicate (i + 1) ⟨r, g, b, a⟩)) = ((((tcells (padT (T ++ List.replicate i ⟨r, g, b, a⟩))).setIfInBounds ((n + i) * 4) (vb r)).setIfInBounds ((n + i) * 4 + 1) (vb g)).setIfInBounds ((n + i) * 4 + 2) (vb b)).setIfInBounds ((n + i) * 4 + 3) (vb a)) := Lib.hid (padT_put T i (n + i) r g b a hl1 hin)
                  go_wp2
                  go_roundw
                  case rel =>
                    have hne : w.heap.size ≠ w.heap.size + 1 := by omega
                    have hne2 : w'.heap.size ≠ w.heap.size + 1 := by omega
                    have hne3 : br ≠ w.heap.size + 1 := by omega
                    refine ⟨i + 1, by omega, by go_num, by go_num, (((c0.other _ _ hne).other _ _ hne).other _ _ hne).other _ _ hne, ?_, (((cc.other _ _ hne2).other _ _ hne2).other _ _ hne2).other _ _ hne2, (((cB.other _ _ hne3).other _ _ hne3).other _ _ hne3).other _ _ hne3, gb_setNew (gb_setNew (gb_setNew (gb_setNew cg (by omega) _ _) (by omega) _ _) (by omega) _ _) (by omega) _ _, by simpa using cs⟩
                    rw [hx'.out]
                    exact (((c1.set _ _).set _ _).set _ _).set _ _
                  case measure => simp only [intOf]; omega
                · obtain hi2 : i = m.toNat := by omega
                  have hT2 : (T ++ List.replicate i (⟨r, g, b, a⟩ : Col)).length = n + i := by simp [hTn'.out]
                  go_wp2
                  go_roundw
                  case rel =>
                    refine ⟨T ++ List.replicate i ⟨r, g, b, a⟩, j + 5, by omega, by rw [hT2], by omega, ?_, c0, c1, cB, cg, cs⟩
                    rw [HX.out, hok, if_pos rfl, hi2]
                  case measure => simp only [intOf]; omega
          · have hno : runOk T m ⟨r, g, b, a⟩ = false := by simp [runOk]; intros; omega
            have hw1 : IntKind.i64.wrap ((n : Int) + m.toNat) = (n : Int) + m.toNat := wr64 _ _ (by omega) (by omega)
            have hd1 : decide ((n : Int) + m.toNat ≤ 64) = false := by simp; omega
            refine wp_region_cuts [.q [_, _, _, _, _, _, _, _, _, _, _, _, _, _, _, _, _]] [_, _, _, _] rfl (fun w'' => Below W1.heap.size W1 w'') (by kernel_rfl) (by kernel_rfl) (fun _ _ d _ _ h => by cases d <;> exact h) ?_
            refine cut_q (by (repeat (first | assumption | exact Below.refl _ _ | refine below_dN ?_ _ | refine Below.alloc ?_ (by first | exact Nat.le_refl _ | omega | (simp; fail_if_success (focus skip)) | (simp; omega)) _ | refine Below.setCell ?_ (by first | exact Nat.le_refl _ | omega | (simp; fail_if_success (focus skip)) | (simp; omega)) _ | refine Below.drew ?_ | refine Below.trans ?_ (Below.mono (by assumption) (by first | exact Nat.le_refl _ | omega | (simp; fail_if_success (focus skip)) | (simp; omega)))))) ?_
            repeat (first | go_big_quiet_step ((intros; rfl)) | quiet_step ((intros; rfl)) | (refine wq_load_colB (c := la) rfl rfl (by assumption) (by assumption) (by assumption) (by assumption) ?_; simp only [Act.put, List.setIfInBounds_toArray, List.set_cons_succ, List.set_cons_zero]) | (refine wq_load_colB (c := ⟨r, g, b, a⟩) rfl rfl (by assumption) (by assumption) (by assumption) (by assumption) ?_; simp only [Act.put, List.setIfInBounds_toArray, List.set_cons_succ, List.set_cons_zero]) | (refine wq_loadB rfl rfl (by kernel_rfl) (by assumption) ?_; simp only [Act.put, List.setIfInBounds_toArray, List.set_cons_succ, List.set_cons_zero]))
            refine wpQuiet_nil ?_
            refine cut_end ?_
            go_wp2_with (first | (refine wl_neq_col rfl rfl rfl ?_) | (go_at_call 124; first | rw [hqc] | skip; refine (need_false _).mono ?_; rintro e w' ⟨rfl, rfl⟩))
            have hnone : readT [] (l.drop at_) = none := by rw [HX.out, hno]; rfl
            rw [hnone]
            exact ⟨rfl, rfl, ⟨_, hB'⟩, gb_below hg3 ((Below.refl _ W1).drew) (Nat.le_refl _)⟩
        · have hno : runOk T m ⟨r, g, b, a⟩ = false := by simp [runOk]; omega
          refine wp_region_cuts [.q [_, _, _, _, _, _, _, _, _, _, _, _, _, _, _, _, _]] [_, _, _, _] rfl (fun w'' => Below W1.heap.size W1 w'') (by kernel_rfl) (by kernel_rfl) (fun _ _ d _ _ h => by cases d <;> exact h) ?_
          refine cut_q (by (repeat (first | assumption | exact Below.refl _ _ | refine below_dN ?_ _ | refine Below.alloc ?_ (by first | exact Nat.le_refl _ | omega | (simp; fail_if_success (focus skip)) | (simp; omega)) _ | refine Below.setCell ?_ (by first | exact Nat.le_refl _ | omega | (simp; fail_if_success (focus skip)) | (simp; omega)) _ | refine Below.drew ?_ | refine Below.trans ?_ (Below.mono (by assumption) (by first | exact Nat.le_refl _ | omega | (simp; fail_if_success (focus skip)) | (simp; omega)))))) ?_
          repeat (first | go_big_quiet_step ((intros; rfl)) | quiet_step ((intros; rfl)) | (refine wq_load_colB (c := la) rfl rfl (by assumption) (by assumption) (by assumption) (by assumption) ?_; simp only [Act.put, List.setIfInBounds_toArray, List.set_cons_succ, List.set_cons_zero]) | (refine wq_load_colB (c := ⟨r, g, b, a⟩) rfl rfl (by assumption) (by assumption) (by assumption) (by assumption) ?_; simp only [Act.put, List.setIfInBounds_toArray, List.set_cons_succ, List.set_cons_zero]) | (refine wq_loadB rfl rfl (by kernel_rfl) (by assumption) ?_; simp only [Act.put, List.setIfInBounds_toArray, List.set_cons_succ, List.set_cons_zero]))
          refine wpQuiet_nil ?_
          refine cut_end ?_
          go_wp2_with (first | (refine wl_neq_col rfl rfl rfl ?_) | (go_at_call 124; first | rw [hqc] | skip; refine (need_false _).mono ?_; rintro e w' ⟨rfl, rfl⟩))
          have hnone : readT [] (l.drop at_) = none := by rw [HX.out, hno]; rfl
          rw [hnone]
          exact ⟨rfl, rfl, ⟨_, hB'⟩, gb_below hg3 ((Below.refl _ W1).drew) (Nat.le_refl _)⟩
    · obtain hT : T.length = 64 := by omega
      go_wp2_with (first | refine wl_load_tile rfl rfl ((padT_len T (by omega))) (b1.tileAt) ?_ | refine wl_store_tile rfl rfl rfl b0 (by rfl) (padT_len T (by omega)) ?_)
      have hsome : readT [] (l.drop at_) = some (T, j) := by rw [HR.out, readT_full T _ hT]; simp
      have hsz256 : (tcells T).size = 256 := by rw [tcells_size, hT]
      rw [padT_full T hT]
      refine bodyPost_ret (results_cell_row (p := 2) (ty := 109) (by kernel_rfl) _ _ w.heap.size 109 (tcells T) (0, 0) (.array 64 107) rfl (b0.setRow) tile_hu rfl (by rw [hsz256]; exact tile_hi)) rfl ?_
      rw [hsome]
      exact ⟨rfl, (setRow_other wr w.heap.size br _ (by omega)).trans h, gb_rowNew hg1 (Nat.le_refl _) _⟩
end Go.Proofs.YtkjpcjccddggoaaGreat
