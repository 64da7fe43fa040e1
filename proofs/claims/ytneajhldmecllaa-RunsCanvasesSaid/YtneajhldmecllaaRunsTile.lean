import Derived.Test.YtneajhldmecllaaLib
namespace Go.Proofs.Ytneajhldmecllaa
open Go.RowKit

/-- a tile's cells -/
def tcells (T : List Col) : Array Value := (T.flatMap fun c => [vb c.r, vb c.g, vb c.b, vb c.a]).toArray
def tileV (T : List Col) : Value := .agg (tcells T)

theorem tcells_size (T : List Col) : (tcells T).size = 4 * T.length := by
  unfold tcells; simp [List.length_flatMap]; induction T with
  | nil => rfl
  | cons c T ih => simp at ih ⊢; omega

theorem tcells_at (T : List Col) (i : Nat) (h : i < T.length) :
    (tcells T)[i * 4]? = some (vb T[i].r) ∧ (tcells T)[i * 4 + 1]? = some (vb T[i].g) ∧ (tcells T)[i * 4 + 2]? = some (vb T[i].b) ∧ (tcells T)[i * 4 + 3]? = some (vb T[i].a) := by
  unfold tcells
  induction T generalizing i with
  | nil => simp at h
  | cons c T ih =>
    cases i with
    | zero => simp
    | succ i =>
      have := ih i (by simpa using h)
      simp only [List.getElem?_toArray, List.flatMap_cons, List.getElem_cons_succ] at this ⊢
      simpa [show (i + 1) * 4 = i * 4 + 4 from by omega, List.getElem?_append_right, Nat.add_right_comm] using this

/-! ### colours that are held against each other -/
theorem run_eqIn_col (d : Nat) (x y : Col) (w : World) : (Op.equalIn (d + 2) 27 (colV x) (colV y)).run Try.prog w = .ok (x == y) w := by
  have e : (x == y) = decide (x.r = y.r ∧ x.g = y.g ∧ x.b = y.b ∧ x.a = y.a) := by
    rw [Bool.eq_iff_iff]; cases x; cases y; simp
  rw [e]
  by_cases h1 : x.r = y.r <;> by_cases h2 : x.g = y.g <;> by_cases h3 : x.b = y.b <;> by_cases h4 : x.a = y.a <;>
  simp [colV, go_sem, vb_inj, h1, h2, h3, h4]

theorem op_eql_col (op : BinOp) (hop : op = .eql ∨ op = .neq) (ev : Operand → Value) {x y : Col} {dst : Option Tmp} {p q : Operand} {yt ty : TypeId} {pos : String} {af : Array Edge} {g : Option (Nat × Bool)} (w : World)
    (hp : ev p = colV x) (hq : ev q = colV y) :
    (execOp ev ⟨dst, .binOp op 27 p q yt, ty, pos, af, g⟩).run Try.prog w = .ok (.value (.bool (if op = .eql then (x == y) else (x != y)))) w := by
  have hg := run_eqGuard_agg (P := Try.prog) w op 27 p q (Col.cells x) (Col.cells y) (by kernel_rfl)
  have h := run_eqIn_col 9998 x y w
  rcases hop with rfl | rfl
  · have h2 := run_eql_struct (P := Try.prog) w 27 (Col.cells x) (Col.cells y)
    simp only [execOp, hp, hq, Sem.run_bind, hg, Result.andThen_ok, h2, h]
    rfl
  · have h2 := run_neq_struct (P := Try.prog) w 27 (Col.cells x) (Col.cells y)
    simp only [execOp, hp, hq, Sem.run_bind, hg, Result.andThen_ok, h2, h]
    rfl
theorem wl_eql_col {ops : Array Oper} {Q : Exit → Act → World → Prop} {rest : List Oper} {a : Act} {w : World} {dst : Option Tmp} {p q : Operand} {yt ty : TypeId} {pos : String} {af : Array Edge} {g : Option (Nat × Bool)} {x y : Col}
    (hw : Region.wanted ⟨dst, .binOp .eql 27 p q yt, ty, pos, af, g⟩ (yielded ops a.tmps) = true) (hp : a.eval p = colV x) (hq : a.eval q = colV y)
    (h : wpList Try.prog ops Q rest (a.put dst (.bool (x == y))) w) : wpList Try.prog ops Q (⟨dst, .binOp .eql 27 p q yt, ty, pos, af, g⟩ :: rest) a w :=
  wl_of hw (op_eql_col .eql (.inl rfl) _ w hp hq) h
theorem wl_neq_col {ops : Array Oper} {Q : Exit → Act → World → Prop} {rest : List Oper} {a : Act} {w : World} {dst : Option Tmp} {p q : Operand} {yt ty : TypeId} {pos : String} {af : Array Edge} {g : Option (Nat × Bool)} {x y : Col}
    (hw : Region.wanted ⟨dst, .binOp .neq 27 p q yt, ty, pos, af, g⟩ (yielded ops a.tmps) = true) (hp : a.eval p = colV x) (hq : a.eval q = colV y)
    (h : wpList Try.prog ops Q rest (a.put dst (.bool (x != y))) w) : wpList Try.prog ops Q (⟨dst, .binOp .neq 27 p q yt, ty, pos, af, g⟩ :: rest) a w :=
  wl_of hw (op_eql_col .neq (.inr rfl) _ w hp hq) h

theorem wq_eql_col {ops : Array Oper} {C : World → Prop} {Q : Act → Prop} {rest : List Oper} {a : Act} {dst : Option Tmp} {p q : Operand} {yt ty : TypeId} {pos : String} {af : Array Edge} {g : Option (Nat × Bool)} {x y : Col}
    (hw : Region.wanted ⟨dst, .binOp .eql 27 p q yt, ty, pos, af, g⟩ (yielded ops a.tmps) = true) (hp : a.eval p = colV x) (hq : a.eval q = colV y)
    (h : wpQuiet Try.prog ops C Q rest (a.put dst (.bool (x == y)))) : wpQuiet Try.prog ops C Q (⟨dst, .binOp .eql 27 p q yt, ty, pos, af, g⟩ :: rest) a :=
  wq_of hw (fun w _ => op_eql_col .eql (.inl rfl) _ w hp hq) h
theorem wq_neq_col {ops : Array Oper} {C : World → Prop} {Q : Act → Prop} {rest : List Oper} {a : Act} {dst : Option Tmp} {p q : Operand} {yt ty : TypeId} {pos : String} {af : Array Edge} {g : Option (Nat × Bool)} {x y : Col}
    (hw : Region.wanted ⟨dst, .binOp .neq 27 p q yt, ty, pos, af, g⟩ (yielded ops a.tmps) = true) (hp : a.eval p = colV x) (hq : a.eval q = colV y)
    (h : wpQuiet Try.prog ops C Q rest (a.put dst (.bool (x != y)))) : wpQuiet Try.prog ops C Q (⟨dst, .binOp .neq 27 p q yt, ty, pos, af, g⟩ :: rest) a :=
  wq_of hw (fun w _ => op_eql_col .neq (.inr rfl) _ w hp hq) h

set_option maxHeartbeats 400000 in
theorem runs1_any (x l : Col) (bl : Nat) (w : World) (h : Blk w bl l.cells 27) :
    Calls Try.prog 39 #[colV x, .pointer (some ⟨bl, 0, none⟩)] w fun e w' => e = .returned (.bool (x != l)) ∧ Blk w' bl x.cells 27 ∧ w.grownBy w' (some bl) := by
  obtain ⟨hc, hf, hlt⟩ := h.all
  have hne : ¬ bl = w.heap.size := by omega
  go_enter Try.func39, Try.ntmps39
  go_wp2_with (refine wl_neq_col rfl rfl rfl ?_)
  go_ret
  exact ⟨rfl, ((((h.set 0 _).set 1 _).set 2 _).set 3 _).alloc _, gb_alloc (gb_set (gb_set (gb_set (gb_set (gb_refl _ _) 0 _) 1 _) 2 _) 3 _) _⟩

/-- how often the colour changes along a row, behind one colour -/
def chg : Col → List Col → Nat
  | _, [] => 0
  | l, c :: cs => (if c != l then 1 else 0) + chg c cs
def lastOf (l : Col) (cs : List Col) : Col := cs.getLast?.getD l
theorem chg_snoc (l c : Col) (cs : List Col) : chg l (cs ++ [c]) = chg l cs + if c != lastOf l cs then 1 else 0 := by
  induction cs generalizing l with
  | nil => simp [chg, lastOf]
  | cons d cs ih =>
    have : lastOf l (d :: cs) = lastOf d cs := by cases cs <;> simp [lastOf, List.getLast?_cons]
    rw [List.cons_append, chg, chg, ih, this, Nat.add_assoc]
theorem lastOf_snoc (l c : Col) (cs : List Col) : lastOf l (cs ++ [c]) = c := by simp [lastOf]
theorem chg_le (l : Col) (cs : List Col) : chg l cs ≤ cs.length := by
  induction cs generalizing l with
  | nil => simp [chg]
  | cons c cs ih => have := ih c; simp only [chg, List.length_cons]; split <;> omega

set_option maxHeartbeats 400000 in
theorem many_any (T : List Col) (hT : T.length = 64) (b bl : Nat) (l : Col) (w : World) (hb : Blk w b (tcells T) 29) (hl : Blk w bl l.cells 27) (hne : b ≠ bl) :
    Calls Try.prog 38 #[.slice (some ⟨b, 0, none⟩) 64 64, .func (.func 39) #[] #[.pointer (some ⟨bl, 0, none⟩)]] w fun e w' => e = .returned (.int .i64 (chg l T)) ∧ w.grownBy w' (some bl) := by
  have hs := tcells_at T
  go_enter Try.func38, Try.ntmps38
  go_wp2
  go_loopw [5, 10] (fun n i wr => ∃ k : Nat, k ≤ 64 ∧ i = .int .i64 k ∧ n = .int .i64 (chg l (T.take k)) ∧ Blk wr bl (lastOf l (T.take k)).cells 27 ∧ w.grownBy wr (some bl))
    (fun _ i _ => 64 - (intOf i).toNat)
  case atStart => exact ⟨0, by omega, rfl, rfl, hl, gb_refl _ _⟩
  case round =>
    obtain ⟨k, hk, rfl, rfl, hL, hg⟩ := hrel
    by_cases hlt : k < 64
    · obtain ⟨h0, h1, h2, h3⟩ := hs k (by omega)
      clear hs
      have hB := hb.grown hg (by simpa using hne)
      have hc := hB.cell
      have hll := hL.lt
      have hgs := hg.size
      have hcle := chg_le l (T.take k)
      have hkl : (T.take k).length ≤ 64 := by simp; omega
      have HT : Hid (T.take (k + 1) = T.take k ++ [T[k]]) := by rw [List.take_succ_eq_append_getElem (by omega)]; rfl
      go_wp2_with (go_at_call 39; refine (runs1_any T[k] (lastOf l (T.take k)) bl _ ((hL.alloc _))).mono ?_; rintro e w' ⟨rfl, hL', hg'⟩)
      · have hx : (T[k] != lastOf l (T.take k)) = true := by assumption
        go_roundw
        case rel => exact ⟨k + 1, by omega, by go_num, by rw [HT.out, chg_snoc, hx]; go_num, by rw [HT.out, lastOf_snoc]; exact hL', gb_trans (gb_alloc hg _) hg'⟩
        case measure => simp only [intOf]; omega
      · have hx : (T[k] != lastOf l (T.take k)) = false := by assumption
        go_roundw
        case rel => exact ⟨k + 1, by omega, by go_num, by rw [HT.out, chg_snoc, hx]; go_num, by rw [HT.out, lastOf_snoc]; exact hL', gb_trans (gb_alloc hg _) hg'⟩
        case measure => simp only [intOf]; omega
    · go_wp2
      go_ret
      refine ⟨ret_int ?_, hg⟩
      obtain rfl : k = 64 := by omega
      rw [List.take_of_length_le (by omega)]

/-- how many runs a tile has -/
def runsOf (T : List Col) : Nat := 1 + chg T.head! T

set_option maxHeartbeats 400000 in
theorem runs_any (T : List Col) (hT : T.length = 64) (w : World) :
    Calls Try.prog 17 #[tileV T] w fun e w' => e = .returned (.int .i64 (runsOf T)) ∧ Below w.heap.size w w' := by
  have hs := tcells_at T 0 (by omega)
  have hh : T.head! = T[0] := by cases T with | nil => simp at hT | cons a t => rfl
  obtain ⟨h0, h1, h2, h3⟩ := hs
  have hle := chg_le T[0] T
  simp only [Nat.zero_mul, Nat.zero_add] at h0 h1 h2 h3
  have HR : Hid (runsOf T = 1 + chg T[0] T) := by unfold runsOf; rw [hh]; rfl
  clear hh
  unfold tileV
  go_enter Try.func17, Try.ntmps17
  go_wp2_with (go_at_call 38; refine (many_any T hT _ _ T[0] _ ((Blk.new w _ _).alloc _) (by have := Blk.new (w.alloc (.cells (tcells T) 29)) (T[0].cells) 27; simpa using this) (by simp)).mono ?_; rintro e w' ⟨rfl, hg⟩)
  go_ret
  refine ⟨ret_int (by rw [HR.out]; omega), ?_⟩
  have hg' : ((w.alloc (.cells (tcells T) 29)).alloc (.cells T[0].cells 27)).grownBy w' (some (w.heap.size + 1)) := hg
  exact gb_new (gb_trans (gb_alloc (gb_alloc (gb_refl w _) _) _) hg') (by omega)

end Go.Proofs.Ytneajhldmecllaa
