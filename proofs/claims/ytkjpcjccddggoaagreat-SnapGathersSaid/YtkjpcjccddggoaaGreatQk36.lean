/- Walks by data and names, part 36: append(nil, make(n)), the cap of nothing, and an own row cut at a place. Slices of an array variable: length, elements; arrays of numbers compared. -/
import Derived.Lib.AppendZeros
import Derived.ChangeKeysEq
import Derived.Test.YtkjpcjccddggoaaGreatQk26
namespace Go.Proofs.YtkjpcjccddggoaaGreat
open Go.RowKit
section
variable {P : Program} {cx : Cx} {s : St}
theorem run_bounds_arr {w : World} {n : Nat} {k1 : IntKind} {lo : Int} (h0 : 0 ≤ lo) (h1 : lo ≤ n) (_ : n ≤ 9223372036854775807) : (Instr.sliceBounds false n n (some (.int k1 lo)) none none).run P w = .ok (lo.toNat, n, n) w := by
  have h : ¬ ((n : Int) < lo) := by omega
  have h2 : ¬ (lo < 0) := by omega
  simp_all [Instr.sliceBounds, Instr.sliceBound, asIntOf]
theorem q_cap0 {t ty : TypeId} {x : Operand} (hx : evalV s x = some (.d (.lit (.slice none 0 0)))) {e sz by_ : Nat} [hE : SlI P t e sz by_] : OpQ P cx (.call { callee := .builtin .cap, args := #[x], argTypes := #[t] }) ty s (I .i64 0) := fun g a w hS => by
  have h := hS.eval hx
  simp only [vrep, drep] at h
  refine ⟨.int .i64 0, ?_, by simp only [vrep, drep]⟩
  simp [execOp, resolve, invoke, builtin, Builtin.cap_, h, run_underlying hE.elem.und w, goInt]
/-- nothing, cut -/
theorem q_slnil {t ty : TypeId} {x y : Operand} {k1 : IntKind} {n : Int} (hx : evalV s x = some (.d (.lit (.slice none 0 0)))) (hy : evalV s y = some (I k1 n)) (hn : n = 0) {e sz by_ : Nat} [hE : SlI P t e sz by_] : OpQ P cx (.slice t x none (some y) none) ty s (.d (.lit (.slice none 0 0))) := fun g a w hS => by
  subst hn
  have h := hS.eval hx
  have hy := hS.eval hy
  simp only [vrep, drep] at h hy
  refine ⟨.slice none 0 0, ?_, by simp only [vrep, drep]⟩
  have hb := run_bounds (P := P) (w := w) (len := 0) (cap := 0) (low := none) (high := some (.int k1 0)) (lo := 0) (hi := 0) (.inl ⟨rfl, rfl⟩) (.inr ⟨k1, rfl⟩) (Int.le_refl _) (Int.le_refl _) (Int.le_refl _)
  simp [execOp, Instr.sliceAt, Instr.slice, h, run_underlying hE.elem.und w, run_sizeOf_e hE.elem, hy, hb]
/-! ### pointers and nil -/
theorem run_eqInpt {P : Program} {w : World} (n : Nat) {t : TypeId} [hT : PtrI P t] {a : Option Addr} : (Op.equalIn (n + 1) t (.pointer a) (.pointer none)).run P w = .ok a.isNone w := by
  obtain ⟨d, h1, h2⟩ := Option.map_eq_some_iff.1 hT.und
  cases d <;> simp [ptrT] at h2
  cases a <;> simp [Op.equalIn, run_underlying h1]
theorem run_eqpt {P : Program} {w : World} {t : TypeId} [hT : PtrI P t] {a : Option Addr} : (Op.equal t (.pointer a) (.pointer none)).run P w = .ok a.isNone w := run_eqInpt 9999
/-- a pointer is nil, or not -/
def nilpV : V → Option Bool
  | .ptr _ _ => some false
  | .d (.lit (.pointer none)) => some true
  | .ep _ => some false
  | .d (.pt _) => some false
  | _ => none
theorem nilpV_rep {B : Nat} {g : G} {w : World} {v : V} {b : Bool} {u : Value} (h : nilpV v = some b) (hu : vrep B g w v u) : ∃ a : Option Addr, u = .pointer a ∧ a.isNone = b := by
  unfold nilpV at h
  split at h
  · simp only [vrep] at hu; obtain ⟨c, _, rfl⟩ := hu; cases h; exact ⟨_, rfl, rfl⟩
  · simp only [vrep, drep] at hu; subst hu; cases h; exact ⟨_, rfl, rfl⟩
  · simp only [vrep] at hu; obtain ⟨b, o, cs, rfl, _⟩ := hu; cases h; exact ⟨_, rfl, rfl⟩
  · simp only [vrep, drep] at hu; obtain ⟨b, o, cs, rfl, _⟩ := hu; cases h; exact ⟨_, rfl, rfl⟩
  · cases h
theorem q_eqpn {t yt ty : TypeId} {x : Operand} {v : V} {b : Bool} [hT : PtrI P t] (hx : evalV s x = some v) (hv : nilpV v = some b) : OpQ P cx (.binOp .eql t x (.const (.pointer none)) yt) ty s (.d (.lit (.bool b))) := fun g ac w hS => by
  obtain ⟨a, h1, h2⟩ := nilpV_rep hv (hS.eval hx)
  refine ⟨.bool b, ?_, by simp only [vrep, drep]⟩
  have hc : ac.eval (.const (.pointer none)) = .pointer none := rfl
  simp [execOp, h1, hc, eqGuard, binOp, run_eqpt, h2]
theorem q_nepn {t yt ty : TypeId} {x : Operand} {v : V} {b : Bool} [hT : PtrI P t] (hx : evalV s x = some v) (hv : nilpV v = some b) : OpQ P cx (.binOp .neq t x (.const (.pointer none)) yt) ty s (.d (.lit (.bool (!b)))) := fun g ac w hS => by
  obtain ⟨a, h1, h2⟩ := nilpV_rep hv (hS.eval hx)
  refine ⟨.bool (!b), ?_, by simp only [vrep, drep]⟩
  have hc : ac.eval (.const (.pointer none)) = .pointer none := rfl
  simp [execOp, h1, hc, eqGuard, binOp, run_eqpt, h2]
/-- append(nil, make(n)) -/
theorem r_appm {t tn ty e : TypeId} {x y : Operand} {kn : IntKind} {n : Int} {ag : Bool} {sz by_ k : Nat} {z : List Value} {tm : List (Nat × V)} {st : List E} [hE : SlI P t e sz by_] [hT : TyI P e ag sz z] [hN : IntI P tn kn]
    (hx : evalV ⟨tm, st, 0⟩ x = some (.d (.lit (.slice none 0 0)))) (hy : evalV ⟨tm, st, 0⟩ y = some (I kn n)) (h0 : 0 < n) (hb : n * (by_ : Int) ≤ 140737488355328) (hp : 0 < by_) (hz : z.all (·.oneCell') = true) :
    OpR P cx (.call { callee := .builtin .append, args := #[x, y], argTypes := #[t, tn] }) ty tm st (.row k 0) k (.r true true k 0 e sz (List.replicate n.toNat (z.map .lit))) := fun nb g a w hk hf hS => by
  have hx : evalV ⟨tm, st, nb⟩ x = some (.d (.lit (.slice none 0 0))) := by cases x <;> exact hx
  have hy : evalV ⟨tm, st, nb⟩ y = some (I kn n) := by cases y <;> exact hy
  have hx' := hS.eval hx
  have hy' := hS.eval hy
  simp only [vrep, drep] at hx' hy'
  obtain ⟨i, zv, e1, e2, e3, e4⟩ := hT.size
  obtain ⟨i', z', q1, q2, q3, q4, q5⟩ := hE.elem.info
  rw [e1] at q1; cases q1
  rw [e3] at q2; cases q2
  obtain ⟨m, rfl⟩ : ∃ m : Nat, n = m := ⟨n.toNat, by omega⟩
  have hnb : m * by_ ≤ 140737488355328 := by
    have : ((m * by_ : Nat) : Int) = (m : Int) * by_ := Int.natCast_mul _ _
    omega
  have hm : 0 < m := by omega
  have hn1 : m ≤ 140737488355328 := Nat.le_trans (Nat.le_mul_of_pos_right _ hp) hnb
  have hrun := Go.Lib.run_append_nil_zeros (P := P) w t tn ty e i zv kn kn hE.elem.und hN.und e1 e3 m hm (by rw [q3]; exact hE.elem.pos) (by omega) (by rw [q4]; omega)
  have hge := grownCap_ge w m 0 e
  have hzs : 0 < zv.cells.size := by rw [q5]; exact hE.elem.pos
  have hzc : ∀ j, (Builtin.zeroCells zv.cells j).toList = (List.replicate j z).flatten := fun j => by rw [← e4, ← made_cells zv.cells hzs j]; rfl
  have hzl : z.length = sz := by rw [← e4, ← q5]; simp
  have hfl : ((List.replicate m z).flatten).length = m * sz := by simp [hzl]
  have hfl2 : ∀ j, ((List.replicate j z).flatten).length = j * sz := fun j => by simp [hzl]
  have hown : (w.drew.alloc (.cells (Builtin.zeroCells zv.cells m ++ Builtin.zeroCells zv.cells (grownCap w m 0 e - m)) e)).ownsRow w.heap.size e sz (.slice (some ⟨w.heap.size, 0, none⟩) m (grownCap w m 0 e)) (List.replicate m (z.map D.lit)).length (List.replicate m z).flatten := by
    rw [List.length_replicate]
    refine ⟨hfl, .inr ⟨w.heap.size, grownCap w m 0 e, _, rfl, Nat.le_refl _, heap_alloc_new w.drew _, hge, grownCap_le_maxLen w m 0 e (by unfold maxLen; omega), ?_, ?_⟩⟩
    · rw [← Array.length_toList, Array.toList_append, hzc, hzc, List.length_append, hfl2, hfl2, ← Nat.add_mul]; congr 1; omega
    · rw [Array.toList_append, hzc, hzc, ← hfl, List.take_left]
  have hd : dreps cx.B (fun b => g.prot b ∧ some b ≠ (Value.slice (some ⟨w.heap.size, 0, none⟩) m (grownCap w m 0 e)).ownBlock) (w.drew.alloc (.cells (Builtin.zeroCells zv.cells m ++ Builtin.zeroCells zv.cells (grownCap w m 0 e - m)) e)) (z.map .lit) z := dreps_lit
  obtain ⟨m1, m2, m3, m4⟩ := new_row hS.inv hf hk (w' := w.drew.alloc (.cells (Builtin.zeroCells zv.cells m ++ Builtin.zeroCells zv.cells (grownCap w m 0 e - m)) e)) ⟨rfl, rfl, rfl, by simp, fun k hk => Below.heap_alloc w.drew _ k hk⟩ (e := e) (sz := sz) (drepss_replicate hd m)
    ⟨fun x hx => by rw [List.eq_of_mem_replicate hx]; simp [hzl], fun u hu => by
      obtain ⟨l, hl, hu⟩ := List.mem_flatten.1 hu
      rw [List.eq_of_mem_replicate hl] at hu
      exact List.all_eq_true.1 hz u hu⟩ hown
  exact ⟨_, _, _, by simp [execOp, resolve, invoke, builtin, hx', hy', hrun], m1, m2, m3, m4⟩
/-- make, with more room than that -/
theorem r_makec {t ty e : TypeId} {x y : Operand} {k1 k2 : IntKind} {n c : Int} {ag : Bool} {sz by_ k : Nat} {z : List Value} {tm : List (Nat × V)} {st : List E} [hE : SlI P t e sz by_] [hT : TyI P e ag sz z] (hx : evalV ⟨tm, st, 0⟩ x = some (I k1 n)) (hy : evalV ⟨tm, st, 0⟩ y = some (I k2 c)) (h0 : 0 ≤ n) (hc : n ≤ c) (hb : c * (by_ : Int) ≤ 140737488355328) (hp : 0 < by_) (hz : z.all (·.oneCell') = true) :
    OpR P cx (.makeSlice t x y) ty tm st (.row k 0) k (.r true true k 0 e sz (List.replicate n.toNat (z.map .lit))) := fun nb g a w hk hf hS => by
  have hx : evalV ⟨tm, st, nb⟩ x = some (I k1 n) := by cases x <;> exact hx
  have hy : evalV ⟨tm, st, nb⟩ y = some (I k2 c) := by cases y <;> exact hy
  have hx' := hS.eval hx
  have hy' := hS.eval hy
  simp only [vrep, drep] at hx' hy'
  obtain ⟨i, zv, e1, e2, e3, e4⟩ := hT.size
  obtain ⟨i', z', q1, q2, q3, q4, q5⟩ := hE.elem.info
  rw [e1] at q1; cases q1
  rw [e3] at q2; cases q2
  have hnb : c.toNat * by_ ≤ 140737488355328 := by
    have : ((c.toNat * by_ : Nat) : Int) = c * by_ := by rw [Int.natCast_mul, Int.toNat_of_nonneg (by omega)]
    omega
  have hn1 : c.toNat ≤ 140737488355328 := Nat.le_trans (Nat.le_mul_of_pos_right _ hp) hnb
  have hrun := run_make (P := P) w t e i zv hE.elem.und e1 e3 k1 k2 n c h0 hc (by
    rw [q4]
    have : ((c.toNat * by_ : Nat) : Int) = c * by_ := by rw [Int.natCast_mul, Int.toNat_of_nonneg (by omega)]
    rw [Int.mul_comm]; omega) (by omega)
  rw [e2] at hrun
  have hzp : 0 < zv.cells.size := by rw [q5]; exact hE.elem.pos
  have hcells : (madeCells zv.cells (c.toNat * sz)).toList = (List.replicate c.toNat z).flatten := by rw [← q5, made_cells _ hzp, e4]
  have hzl : z.length = sz := by rw [← e4, ← q5]; simp
  have hfl : ((List.replicate n.toNat z).flatten).length = n.toNat * sz := by simp [hzl]
  have hrep : List.replicate c.toNat z = List.replicate n.toNat z ++ List.replicate (c.toNat - n.toNat) z := by rw [List.replicate_append_replicate]; congr 1; omega
  have hown : (w.alloc (.cells (madeCells zv.cells (c.toNat * sz)) e)).ownsRow w.heap.size e sz (.slice (some ⟨w.heap.size, 0, none⟩) n.toNat c.toNat) (List.replicate n.toNat (z.map D.lit)).length (List.replicate n.toNat z).flatten := by
    rw [List.length_replicate]
    refine ⟨hfl, .inr ⟨w.heap.size, c.toNat, _, rfl, Nat.le_refl _, heap_alloc_new w _, by omega, by unfold maxLen; omega, size_madeCells _ _, ?_⟩⟩
    rw [hcells, hrep, List.flatten_append, ← hfl, List.take_left]
  have hd : dreps cx.B (fun b => g.prot b ∧ some b ≠ (Value.slice (some ⟨w.heap.size, 0, none⟩) n.toNat c.toNat).ownBlock) (w.alloc (.cells (madeCells zv.cells (c.toNat * sz)) e)) (z.map .lit) z := dreps_lit
  obtain ⟨m1, m2, m3, m4⟩ := new_row hS.inv hf hk (w' := w.alloc (.cells (madeCells zv.cells (c.toNat * sz)) e)) ⟨rfl, rfl, rfl, by simp, fun k hk => Below.heap_alloc w _ k hk⟩ (e := e) (sz := sz) (drepss_replicate hd n.toNat)
    ⟨fun x hx => by rw [List.eq_of_mem_replicate hx]; simp [hzl], fun u hu => by
      obtain ⟨l, hl, hu⟩ := List.mem_flatten.1 hu
      rw [List.eq_of_mem_replicate hl] at hu
      exact List.all_eq_true.1 hz u hu⟩ hown
  exact ⟨_, _, _, by simp [execOp, hx', hy', hrun], m1, m2, m3, m4⟩
/-- an array variable's slice, from a place on -/
theorem q_slicelo {t ty e : TypeId} {x y : Operand} {k off n sz : Nat} {k1 : IntKind} {lo : Int} [hA : ArrI P t n e sz] (hx : evalV s x = some (.ptr k off)) (hy : evalV s y = some (I k1 lo)) (h0 : 0 ≤ lo) (h1 : lo < n) (hn : Nat.ble n 9223372036854775807 = true) :
    OpQ P cx (.slice t x (some y) none none) ty s (.sv k (off + lo.toNat * sz) (n - lo.toNat) (n - lo.toNat) sz) := fun g a w hS => by
  have h := hS.eval hx
  have hy := hS.eval hy
  simp only [vrep, drep] at h hy
  obtain ⟨b, hb, hu⟩ := h
  have hn := Nat.le_of_ble_eq_true hn
  refine ⟨.slice (some ⟨b, off + lo.toNat * sz, none⟩) (n - lo.toNat) (n - lo.toNat), ?_, by simp only [vrep]; exact ⟨b, hb, rfl, Nat.le_refl _, by unfold maxLen; omega⟩⟩
  obtain ⟨q1, i, q2, q3⟩ := hA.get
  have hs : (sizeOf e).run P w = .ok sz w := by simp [sizeOf, typeInfo, q2, q3]
  have hbd := run_bounds_arr (P := P) (w := w) (n := n) (k1 := k1) (lo := lo) h0 (by omega) hn
  have hne : ¬ (n = lo.toNat) := by omega
  have ha : (⟨b, off, none⟩ : Addr).add (lo.toNat * sz) = ⟨b, off + lo.toNat * sz, none⟩ := by unfold Addr.add; split <;> simp_all
  simp [execOp, hu, hy, Instr.sliceAt, run_underlying q1, Instr.sureAddr, hbd, hs, ha, hne]
/-- an own row, cut -/
theorem v_slrow {t ty e e' : TypeId} {x y : Operand} {k ver sz sz' by_ : Nat} {nw : Bool} {l : List (List D)} {k1 : IntKind} {hi : Int} [hE : SlI P t e sz by_] (hx : evalV s x = some (.row k ver)) (hr : rowAt k s.st = some (true, nw, ver, e', sz', l)) (hhi : evalV s y = some (I k1 hi))
    (h1 : 0 ≤ hi) (h3 : hi ≤ l.length) : OpV P cx (.slice t x none (some y) none) ty s (.row k (ver + 1)) (.r true nw k (ver + 1) e' sz' (l.take hi.toNat) :: s.st) s.nb := fun g a w hS => by
  have hu := hS.eval hx
  simp only [vrep] at hu
  obtain ⟨v, xs, r1, r2, r3, r4, r5⟩ := hS.st.row hr
  rw [hu.1] at r1; cases r1
  obtain ⟨m, rfl⟩ : ∃ m : Nat, hi = m := ⟨hi.toNat, by omega⟩
  rcases r5 with ⟨_, r5, r6⟩ | ⟨h, _⟩
  · have hy := hS.eval hhi
    simp only [vrep, drep] at hy
    have key : ∀ cap, l.length ≤ cap → (Instr.sliceBounds true l.length cap none (some (.int k1 m)) none).run P w = .ok ((0 : Int).toNat, (m : Int).toNat, cap) w := fun cap hcap =>
      run_bounds (P := P) (w := w) (len := l.length) (cap := cap) (low := none) (high := some (.int k1 m)) (lo := 0) (hi := m) (.inl ⟨rfl, rfl⟩) (.inr ⟨k1, rfl⟩) (Int.le_refl _) h1 (by omega)
    have hml : m ≤ l.length := by omega
    obtain ⟨ys, hys, hlen, h1c⟩ : ∃ ys, drepss cx.B g.prot w (l.take m) ys ∧ ys = xs.take (m * sz') ∧ True := by
      have : ∀ (l : List (List D)) (xs : List Value) (m : Nat), (∀ x ∈ l, x.length = sz') → drepss cx.B g.prot w l xs → drepss cx.B g.prot w (l.take m) (xs.take (m * sz')) := by
        intro l
        induction l with
        | nil => intro xs m _ h; simp only [drepss] at h; subst h; simp [drepss]
        | cons d l ih =>
          intro xs m hl h
          simp only [drepss] at h
          obtain ⟨c1, c2, rfl, k1, k2⟩ := h
          cases m with
          | zero => simp [drepss]
          | succ m =>
            have hc1 : c1.length = sz' := (dreps_len k1).trans (hl d (by simp))
            rw [List.take_succ_cons]
            simp only [drepss]
            refine ⟨c1, c2.take (m * sz'), ?_, k1, ih c2 m (fun x hx => hl x (by simp [hx])) k2⟩
            rw [Nat.succ_mul, Nat.add_comm, ← hc1, List.take_append, List.take_of_length_le (by omega), Nat.add_sub_cancel_left]
      exact ⟨_, this l xs m r3.1 r2, rfl, trivial⟩
    have hxl : xs.length = l.length * sz' := r5.1
    have hmm : m * sz' ≤ l.length * sz' := Nat.mul_le_mul_right _ hml
    have fin : ∀ u, (execOp a.eval (bare (.slice t x none (some y) none) ty)).run P w = .ok (.value u) w → w.ownsRow 0 e' sz' u (l.take m).length ys → (∀ b, u.ownBlock = some b → (a.eval x).ownBlock = some b) →
        ∃ u g' w', (execOp a.eval (bare (.slice t x none (some y) none) ty)).run P w = .ok (.value u) w' ∧ Evo cx.B g w g' w' ∧ SimS cx.B g' w' (.r true nw k (ver + 1) e' sz' (l.take (m : Int).toNat) :: s.st) ∧ Inv cx.B s.nb g' w' ∧ vrep cx.B g' w' (.row k (ver + 1)) u := fun u hrun hown hub => by
      obtain ⟨m1, m2, m3, m4⟩ := turn_row hS.inv hS.st hr hu.1 r6 (gb_refl w _) (u := u) (ver' := ver + 1) (drepss_mono (Nat.le_refl _) (fun b _ hp => ⟨⟨hp, fun he => hp (.inr (.inr ⟨k, r6.trans (hub b he.symm)⟩))⟩, rfl⟩) hys)
        ⟨fun x hx => r3.1 x (List.mem_of_mem_take hx), fun u hu => r3.2.1 u (by rw [hlen] at hu; exact List.mem_of_mem_take hu)⟩ hown (fun b hb => .inl (hub b hb)) (.inr rfl)
      exact ⟨_, _, w, hrun, m1, m2, m3, m4⟩
    have hyl : ys.length = (l.take m).length * sz' := by rw [hlen, List.length_take, List.length_take, hxl]; rw [Nat.min_eq_left hml]; omega
    have htl : (l.take m).length = m := by rw [List.length_take]; omega
    rcases r5.2 with ⟨hv, hl⟩ | ⟨gb, cap, cur, hv, hb0, hh, hcap, hcm, hsz, htk⟩
    · have hm0 : m = 0 := by omega
      subst hm0
      have := key 0 (by omega)
      rw [hl, show ((0 : Nat) : Int) = 0 from rfl] at this
      rw [show ((0 : Nat) : Int) = 0 from rfl] at hy
      refine fin (.slice none 0 0) ?_ ⟨hyl, .inl ⟨rfl, by rw [htl]⟩⟩ (fun b hb => by simp [Value.ownBlock] at hb)
      simp [execOp, Instr.sliceAt, Instr.slice, hv, run_underlying hE.elem.und w, run_sizeOf_e hE.elem, hy, this]
    · have := key cap hcap
      have ha : (⟨gb, 0, none⟩ : Addr).add 0 = ⟨gb, 0, none⟩ := by simp [Addr.add]
      refine fin (.slice (some ⟨gb, 0, none⟩) m cap) ?_ ⟨hyl, .inr ⟨gb, cap, cur, by rw [htl], hb0, hh, by omega, hcm, hsz, ?_⟩⟩ (fun b hb => by rw [hv]; exact hb)
      · simp [execOp, Instr.sliceAt, Instr.slice, hv, run_underlying hE.elem.und w, run_sizeOf_e hE.elem, hy, this, ha]
      · rw [hlen, ← htk, List.take_take, htl, Nat.min_eq_left hmm]
  · cases h
end
section
variable {P : Program} {cx : Cx} {tm : List (Nat × V)} {st : List E} {nb : Nat} {Q : VE → St → Prop} {ops rest : List Oper}
theorem vs_cap0 {d : Tmp} {x : Operand} {t ty : TypeId} {pos : String} {af : Array Edge} {e sz by_ : Nat} [hE : SlI P t e sz by_] (k : VL P cx ops rest ⟨(d, I .i64 0) :: tm, st, nb⟩ Q) (hx : evalV ⟨tm, st, nb⟩ x = some (.d (.lit (.slice none 0 0))) := by rfl)
    (hd : Nat.blt d cx.N = true := by rfl) : VL P cx ops (⟨some d, .call { callee := .builtin .cap, args := #[x], argTypes := #[t] }, ty, pos, af, none⟩ :: rest) ⟨tm, st, nb⟩ Q := vs_x k (sx_q (h := q_cap0 hx) (hd := hd))
theorem vs_eqpn {d : Tmp} {x : Operand} {t yt ty : TypeId} {v : V} {b : Bool} {pos : String} {af : Array Edge} {gd : Option (Nat × Bool)} [hT : PtrI P t] (k : VL P cx ops rest ⟨(d, .d (.lit (.bool b))) :: tm, st, nb⟩ Q) (hx : evalV ⟨tm, st, nb⟩ x = some v := by rfl) (hv : nilpV v = some b := by rfl) (hd : Nat.blt d cx.N = true := by rfl)
    (hw : Wd ops tm gd := by first | exact trivial | exact wd_of rfl rfl (by with_reducible rfl)) : VL P cx ops (⟨some d, .binOp .eql t x (.const (.pointer none)) yt, ty, pos, af, gd⟩ :: rest) ⟨tm, st, nb⟩ Q := vs_x k (sx_q (h := q_eqpn hx hv) (hd := hd) (hw := hw))
theorem vs_nepn {d : Tmp} {x : Operand} {t yt ty : TypeId} {v : V} {b : Bool} {pos : String} {af : Array Edge} {gd : Option (Nat × Bool)} [hT : PtrI P t] (k : VL P cx ops rest ⟨(d, .d (.lit (.bool (!b)))) :: tm, st, nb⟩ Q) (hx : evalV ⟨tm, st, nb⟩ x = some v := by rfl) (hv : nilpV v = some b := by rfl) (hd : Nat.blt d cx.N = true := by rfl)
    (hw : Wd ops tm gd := by first | exact trivial | exact wd_of rfl rfl (by with_reducible rfl)) : VL P cx ops (⟨some d, .binOp .neq t x (.const (.pointer none)) yt, ty, pos, af, gd⟩ :: rest) ⟨tm, st, nb⟩ Q := vs_x k (sx_q (h := q_nepn hx hv) (hd := hd) (hw := hw))
theorem vs_slnil {d : Tmp} {x y : Operand} {t ty : TypeId} {k1 : IntKind} {n : Int} {pos : String} {af : Array Edge} {e sz by_ : Nat} [hE : SlI P t e sz by_] (k : VL P cx ops rest ⟨(d, .d (.lit (.slice none 0 0))) :: tm, st, nb⟩ Q) (hx : evalV ⟨tm, st, nb⟩ x = some (.d (.lit (.slice none 0 0))) := by rfl)
    (hy : evalV ⟨tm, st, nb⟩ y = some (I k1 n) := by rfl) (hn : n = 0 := by first | rfl | omega) (hd : Nat.blt d cx.N = true := by rfl) : VL P cx ops (⟨some d, .slice t x none (some y) none, ty, pos, af, none⟩ :: rest) ⟨tm, st, nb⟩ Q := vs_x k (sx_q (h := q_slnil hx hy hn) (hd := hd))
theorem vs_appm {d : Tmp} {t tn ty e : TypeId} {x y : Operand} {kn : IntKind} {n : Int} {ag : Bool} {sz by_ : Nat} {z : List Value} {pos : String} {af : Array Edge} [hE : SlI P t e sz by_] [hT : TyI P e ag sz z] [hN : IntI P tn kn]
    (h0 : 0 < n) (hb : n * (by_ : Int) ≤ 140737488355328) (k : VL P cx ops rest ⟨(d, .row nb 0) :: tm, .r true true nb 0 e sz (List.replicate n.toNat (z.map .lit)) :: st, nb + 1⟩ Q) (hx : evalV ⟨tm, st, 0⟩ x = some (.d (.lit (.slice none 0 0))) := by rfl) (hy : evalV ⟨tm, st, 0⟩ y = some (I kn n) := by rfl)
    (hp : 0 < by_ := by decide) (hz : z.all (·.oneCell') = true := by rfl) (hd : Nat.blt d cx.N = true := by rfl) :
    VL P cx ops (⟨some d, .call { callee := .builtin .append, args := #[x, y], argTypes := #[t, tn] }, ty, pos, af, none⟩ :: rest) ⟨tm, st, nb⟩ Q := vs_x k (sx_r (h := r_appm hx hy h0 hb hp hz) (hd := hd))
theorem vs_makec {d : Tmp} {t ty e : TypeId} {x y : Operand} {k1 k2 : IntKind} {n c : Int} {ag : Bool} {sz by_ : Nat} {z : List Value} {pos : String} {af : Array Edge} [hE : SlI P t e sz by_] [hT : TyI P e ag sz z]
    (k : VL P cx ops rest ⟨(d, .row nb 0) :: tm, .r true true nb 0 e sz (List.replicate n.toNat (z.map .lit)) :: st, nb + 1⟩ Q) (hx : evalV ⟨tm, st, 0⟩ x = some (I k1 n) := by rfl) (hy : evalV ⟨tm, st, 0⟩ y = some (I k2 c) := by rfl)
    (h0 : 0 ≤ n := by omega) (hc : n ≤ c := by omega) (hb : c * (by_ : Int) ≤ 140737488355328 := by omega) (hp : 0 < by_ := by decide) (hz : z.all (·.oneCell') = true := by rfl) (hd : Nat.blt d cx.N = true := by rfl) :
    VL P cx ops (⟨some d, .makeSlice t x y, ty, pos, af, none⟩ :: rest) ⟨tm, st, nb⟩ Q := vs_x k (sx_r (h := r_makec hx hy h0 hc hb hp hz) (hd := hd))
theorem vs_slicelo {d : Tmp} {t ty e : TypeId} {x y : Operand} {kk off n sz : Nat} {k1 : IntKind} {lo : Int} {pos : String} {af : Array Edge} [hA : ArrI P t n e sz]
    (k : VL P cx ops rest ⟨(d, .sv kk (off + lo.toNat * sz) (n - lo.toNat) (n - lo.toNat) sz) :: tm, st, nb⟩ Q) (hx : evalV ⟨tm, st, nb⟩ x = some (.ptr kk off) := by rfl) (hy : evalV ⟨tm, st, nb⟩ y = some (I k1 lo) := by rfl)
    (h0 : 0 ≤ lo := by omega) (h1 : lo < n := by omega) (hn : Nat.ble n 9223372036854775807 = true := by rfl) (hd : Nat.blt d cx.N = true := by rfl) :
    VL P cx ops (⟨some d, .slice t x (some y) none none, ty, pos, af, none⟩ :: rest) ⟨tm, st, nb⟩ Q := vs_x k (sx_q (h := q_slicelo hx hy h0 h1 hn) (hd := hd))
theorem vs_slrow {d : Tmp} {t ty e e' : TypeId} {x y : Operand} {kk ver sz sz' by_ : Nat} {nw : Bool} {l : List (List D)} {k1 : IntKind} {hi : Int} {pos : String} {af : Array Edge} [hE : SlI P t e sz by_]
    (k : VL P cx ops rest ⟨(d, .row kk (ver + 1)) :: tm, .r true nw kk (ver + 1) e' sz' (l.take hi.toNat) :: st, nb⟩ Q)
    (hx : evalV ⟨tm, st, nb⟩ x = some (.row kk ver) := by rfl) (hr : rowAt kk st = some (true, nw, ver, e', sz', l) := by rfl) (hhi : evalV ⟨tm, st, nb⟩ y = some (I k1 hi) := by rfl) (h1 : 0 ≤ hi := by omega) (h3 : hi ≤ l.length := by first | omega | (simp; fail_if_success (focus skip)) | (simp; omega)) (hd : Nat.blt d cx.N = true := by rfl) :
    VL P cx ops (⟨some d, .slice t x none (some y) none, ty, pos, af, none⟩ :: rest) ⟨tm, st, nb⟩ Q := vs_x k (sx_v (h := v_slrow hx hr hhi h1 h3) (hd := hd))
end
end Go.Proofs.YtkjpcjccddggoaaGreat

namespace Go.Proofs.YtkjpcjccddggoaaGreat
open Go.RowKit
section
variable {P : Program} {cx : Cx} {s : St}
theorem q_lensv {t ty e : TypeId} {x : Operand} {k off n cap sz sz' by_ : Nat} [hE : SlI P t e sz' by_] (hx : evalV s x = some (.sv k off n cap sz)) : OpQ P cx (.call { callee := .builtin .len, args := #[x], argTypes := #[t] }) ty s (I .i64 (n : Int)) := fun g a w hS => by
  have h := hS.eval hx
  simp only [vrep] at h
  obtain ⟨b, _, h, _⟩ := h
  refine ⟨.int .i64 n, ?_, by simp only [vrep, drep]⟩
  simp [execOp, resolve, invoke, builtin, Builtin.len_, h, run_underlying hE.elem.und w, goInt]
theorem q_idxsv {t ty e : TypeId} {x y : Operand} {k0 : IntKind} {i : Int} {k off n cap sz by_ : Nat} [hE : SlI P t e sz by_] (hx : evalV s x = some (.sv k off n cap sz)) (hy : evalV s y = some (I k0 i)) (h0 : 0 ≤ i) (h1 : i < (n : Int)) : OpQ P cx (.indexAddr t x y) ty s (.ptr k (off + i.toNat * sz)) := fun g a w hS => by
  have hx' := hS.eval hx
  have hy' := hS.eval hy
  simp only [vrep, drep] at hx' hy'
  obtain ⟨b, hb, hx', _⟩ := hx'
  have hadd : (⟨b, off, none⟩ : Addr).add (i.toNat * sz) = ⟨b, off + i.toNat * sz, none⟩ := by unfold Addr.add; split <;> simp_all
  refine ⟨.pointer (some ⟨b, off + i.toNat * sz, none⟩), ?_, by simp only [vrep]; exact ⟨b, hb, rfl⟩⟩
  simp [execOp, hx', hy', Instr.indexAt, asIntOf, run_underlying hE.elem.und w, run_sizeOf_e hE.elem, h0, h1, hadd]
/-! ### arrays of numbers -/
class EqGI (P : Program) (t : TypeId) : Prop where
  no : P.eqGuardType P.depth t = false
def uV (n : Int) : Value := .int .u64 n
def uDs : List D → Option (List Int)
  | [] => some []
  | .lit (.int .u64 n) :: r => (uDs r).map (n :: ·)
  | _ => none
def uVs : List V → Option (List Int)
  | [] => some []
  | .d (.lit (.int .u64 n)) :: r => (uVs r).map (n :: ·)
  | _ => none
def uV9 : V → Option (List Int)
  | .agg l => uVs l
  | .d (.agg l) => uDs l
  | _ => none
theorem uDs_rep {B : Nat} {U : Nat → Prop} {w : World} : ∀ {l : List D} {r : List Int} {us : List Value}, uDs l = some r → dreps B U w l us → us = r.map uV
  | [], r, us, h, hu => by simp only [uDs, Option.some.injEq] at h; subst h; simpa only [dreps, List.map_nil] using hu
  | .lit (.int .u64 n) :: l, r, us, h, hu => by
    simp only [uDs, Option.map_eq_some_iff] at h
    obtain ⟨q, h, rfl⟩ := h
    simp only [dreps, drep] at hu
    obtain ⟨y, ys, rfl, rfl, k⟩ := hu
    rw [uDs_rep h k]; rfl
theorem uVs_rep {B : Nat} {g : G} {w : World} : ∀ {l : List V} {r : List Int} {us : List Value}, uVs l = some r → vreps B g w l us → us = r.map uV
  | [], r, us, h, hu => by simp only [uVs, Option.some.injEq] at h; subst h; simpa only [vreps, List.map_nil] using hu
  | .d (.lit (.int .u64 n)) :: l, r, us, h, hu => by
    simp only [uVs, Option.map_eq_some_iff] at h
    obtain ⟨q, h, rfl⟩ := h
    simp only [vreps, vrep, drep] at hu
    obtain ⟨y, ys, rfl, rfl, k⟩ := hu
    rw [uVs_rep h k]; rfl
theorem uV9_rep {B : Nat} {g : G} {w : World} {v : V} {r : List Int} {u : Value} (h : uV9 v = some r) (hu : vrep B g w v u) : u = .agg (r.map uV).toArray := by
  unfold uV9 at h
  split at h
  · simp only [vrep] at hu; obtain ⟨us, rfl, k⟩ := hu; rw [uVs_rep h k]
  · simp only [vrep, drep] at hu; obtain ⟨us, rfl, k⟩ := hu; rw [uDs_rep h k]
  · cases h
theorem run_eqItems_u {w : World} {e : TypeId} {z : List Value} [hI : IntI P e .u64] [hT : TyI P e false 1 z] (d : Nat) (xs ys : List Int) : ∀ (is : List Nat), (∀ i ∈ is, i < xs.length ∧ i < ys.length) →
    (Op.eqItems (d + 1) e 1 (xs.map uV).toArray (ys.map uV).toArray is).run P w = .ok (decide (∀ i ∈ is, xs[i]? = ys[i]?)) w
  | [], _ => by simp [Op.eqItems]
  | i :: is, h => by
    obtain ⟨h1, h2⟩ := h i (by simp)
    have ih := run_eqItems_u (w := w) (e := e) (z := z) d xs ys is (fun j hj => h j (by simp [hj]))
    have p1 : (part e (xs.map uV).toArray (i * 1)).run P w = .ok (uV xs[i]) w := part_leaf (t := e) (sz := 1) (z := z) (by simp [h1])
    have p2 : (part e (ys.map uV).toArray (i * 1)).run P w = .ok (uV ys[i]) w := part_leaf (t := e) (sz := 1) (z := z) (by simp [h2])
    have he : (Op.equalIn (d + 1) e (uV xs[i]) (uV ys[i])).run P w = .ok (xs[i] == ys[i]) w := by simp [Op.equalIn, uV, run_underlying hI.und]
    simp only [Op.eqItems, Sem.run_bind, p1, p2, Result.andThen_ok, he]
    by_cases hc : xs[i] = ys[i]
    · simp [hc, ih, h1, h2]
    · simp [hc, h1, h2]
theorem q_equ {t yt ty e : TypeId} {x y : Operand} {v1 v2 : V} {xs ys : List Int} {n : Nat} {z : List Value} [hA : ArrI P t n e 1] [hI : IntI P e .u64] [hT : TyI P e false 1 z] [hG : EqGI P t] (hx : evalV s x = some v1) (hy : evalV s y = some v2) (h1 : uV9 v1 = some xs) (h2 : uV9 v2 = some ys) (hl1 : xs.length = n) (hl2 : ys.length = n) :
    OpQ P cx (.binOp .eql t x y yt) ty s (.d (.lit (.bool (decide (xs = ys))))) := fun g a w hS => by
  have e1 := uV9_rep h1 (hS.eval hx)
  have e2 := uV9_rep h2 (hS.eval hy)
  obtain ⟨hu, i, hi, hsz⟩ := hA.get
  have hc : P.cellsOf e = 1 := by simp [Program.cellsOf, hi, hsz]
  have hg := run_eqGuard_agg (P := P) (w := w) .eql t x y (xs.map uV).toArray (ys.map uV).toArray hG.no
  have hq := run_equalIn_array (P := P) w 9999 (xs.map uV).toArray (ys.map uV).toArray hu hi
  rw [hc, run_eqItems_u (e := e) (z := z) 9998 xs ys _ (fun j hj => by simp at hj; omega)] at hq
  have hd : (decide (∀ i ∈ List.range n, xs[i]? = ys[i]?)) = decide (xs = ys) := by
    rw [Bool.eq_iff_iff]
    simp only [List.mem_range, decide_eq_true_eq]
    constructor
    · intro h
      apply List.ext_getElem?
      intro i
      by_cases hi : i < n
      · exact h i hi
      · rw [List.getElem?_eq_none (by omega), List.getElem?_eq_none (by omega)]
    · rintro rfl _ _; rfl
  rw [hd] at hq
  have hs := run_eql_struct (P := P) (w := w) t (xs.map uV).toArray (ys.map uV).toArray
  rw [hq] at hs
  exact ⟨.bool (decide (xs = ys)), by simp [execOp, e1, e2, hg, hs], by simp only [vrep, drep]⟩
end
section
variable {P : Program} {cx : Cx} {tm : List (Nat × V)} {st : List E} {nb : Nat} {Q : VE → St → Prop} {ops rest : List Oper}
theorem vs_lensv {d : Tmp} {t ty e : TypeId} {x : Operand} {kk off n cap sz sz' by_ : Nat} {pos : String} {af : Array Edge} [hE : SlI P t e sz' by_] (k : VL P cx ops rest ⟨(d, I .i64 (n : Int)) :: tm, st, nb⟩ Q) (hx : evalV ⟨tm, st, nb⟩ x = some (.sv kk off n cap sz) := by rfl) (hd : Nat.blt d cx.N = true := by rfl) :
    VL P cx ops (⟨some d, .call { callee := .builtin .len, args := #[x], argTypes := #[t] }, ty, pos, af, none⟩ :: rest) ⟨tm, st, nb⟩ Q := vs_x k (sx_q (h := q_lensv hx) (hd := hd))
theorem vs_idxsv {d : Tmp} {t ty e : TypeId} {x y : Operand} {k0 : IntKind} {i : Int} {kk off n cap sz by_ : Nat} {pos : String} {af : Array Edge} [hE : SlI P t e sz by_] (k : VL P cx ops rest ⟨(d, .ptr kk (off + i.toNat * sz)) :: tm, st, nb⟩ Q) (hx : evalV ⟨tm, st, nb⟩ x = some (.sv kk off n cap sz) := by rfl) (hy : evalV ⟨tm, st, nb⟩ y = some (I k0 i) := by rfl)
    (h0 : 0 ≤ i := by omega) (h1 : i < (n : Int) := by omega) (hd : Nat.blt d cx.N = true := by rfl) :
    VL P cx ops (⟨some d, .indexAddr t x y, ty, pos, af, none⟩ :: rest) ⟨tm, st, nb⟩ Q := vs_x k (sx_q (h := q_idxsv hx hy h0 h1) (hd := hd))
theorem vs_equ {d : Tmp} {t yt ty e : TypeId} {x y : Operand} {v1 v2 : V} {xs ys : List Int} {n : Nat} {z : List Value} {pos : String} {af : Array Edge} {gd : Option (Nat × Bool)} [hA : ArrI P t n e 1] [hI : IntI P e .u64] [hT : TyI P e false 1 z] [hG : EqGI P t] (k : VL P cx ops rest ⟨(d, .d (.lit (.bool (decide (xs = ys))))) :: tm, st, nb⟩ Q)
    (hx : evalV ⟨tm, st, nb⟩ x = some v1 := by rfl) (hy : evalV ⟨tm, st, nb⟩ y = some v2 := by rfl) (h1 : uV9 v1 = some xs := by rfl) (h2 : uV9 v2 = some ys := by rfl) (hl1 : xs.length = n := by rfl) (hl2 : ys.length = n := by rfl) (hd : Nat.blt d cx.N = true := by rfl)
    (hw : Wd ops tm gd := by first | exact trivial | exact wd_of rfl rfl (by with_reducible rfl)) : VL P cx ops (⟨some d, .binOp .eql t x y yt, ty, pos, af, gd⟩ :: rest) ⟨tm, st, nb⟩ Q := vs_x k (sx_q (h := q_equ hx hy h1 h2 hl1 hl2) (hd := hd) (hw := hw))
end
end Go.Proofs.YtkjpcjccddggoaaGreat
