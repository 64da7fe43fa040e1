/- Walks by data and names, part 27: Layer 21, by V: numbers, pieces. append(nil, make(n)), the cap of nothing, and an own row cut at a place. Layer 21, by V: bytes. -/
import Derived.Lib.AppendZeros
import Derived.Test.YtnjaohdadaifhaaGreatPk24
import Derived.Test.YtnjaohdadaifhaaGreatPk25
import Derived.Test.YtnjaohdadaifhaaGreatPk26
import Derived.Test.YtnjaohdadaifhaaGreatPk23
namespace Go.Proofs.YtnjaohdadaifhaaGreat
set_option maxRecDepth 20000
open Go.RowKit
set_option maxRecDepth 10000
set_option maxHeartbeats 4000000
abbrev byD (b : List UInt8) : List (List D) := b.map fun x => [.lit (vb x)]
theorem byD_len (b : List UInt8) : (byD b).length = b.length := List.length_map _
abbrev i64D (n : Int) : D := .lit (.int .i64 n)
abbrev u64D (n : Int) : D := .lit (.int .u64 n)
abbrev bsD (b : List UInt8) : D := .sl false false (byD b)
abbrev errD (e : Int) : D := .ifc 26 (i64D e)
theorem u8_ne {x z : UInt8} (h : (x.toNat : Int) ≠ z.toNat) : x ≠ z := fun e => h (by rw [e])
theorem u8_eq {x z : UInt8} (h : ¬ (x.toNat : Int) ≠ z.toNat) : x = z := UInt8.toNat_inj.1 (by omega)
theorem cutM {α : Type} (f : α → List D) (l : List α) (n : Nat) : cutL none (some (min ((l.map f).length : Int) (n : Int))) (l.map f) = (l.take n).map f := by
  rw [cutL_eq]
  simp only [Option.getD_some, Option.getD_none, Int.toNat_zero, List.drop_zero, ← List.map_take, List.length_map]
  congr 1
  rw [show (min (l.length : Int) (n : Int)).toNat = min n l.length by omega]
  simp [List.take_eq_take_iff]
theorem cutB {α : Type} (f : α → List D) (l : List α) (i : Nat) : cutL (some (i : Int)) none (l.map f) = (l.drop i).map f := by
  rw [cutL_eq]; simp only [Option.getD_some, Option.getD_none, Int.toNat_natCast, List.length_map, List.map_drop]; rw [List.take_of_length_le (by simp)]
def eqF {α : Type} (p : α → α → Bool) : List α → List α → Bool
  | [], [] => true
  | x :: l, y :: m => p x y && eqF p l m
  | _, _ => false
theorem eqF_len {α : Type} {p : α → α → Bool} : ∀ {l m : List α}, l.length ≠ m.length → eqF p l m = false
  | [], [], h => by simp at h
  | [], _ :: _, _ => rfl
  | _ :: _, [], _ => rfl
  | x :: l, y :: m, h => by simp only [eqF, eqF_len (l := l) (m := m) (by simpa using h), Bool.and_false]
theorem eqF_eq {α : Type} [DecidableEq α] : ∀ {l m : List α}, eqF (fun x y => decide (x = y)) l m = decide (l = m)
  | [], [] => by simp [eqF]
  | [], _ :: _ => by simp [eqF]
  | _ :: _, [] => by simp [eqF]
  | x :: l, y :: m => by simp [eqF, eqF_eq]
structure Pc where
  snap : Int
  idx : Int
  many : Int
  b : List UInt8
deriving DecidableEq
end Go.Proofs.YtnjaohdadaifhaaGreat

namespace Go.Proofs.YtnjaohdadaifhaaGreat
set_option maxRecDepth 20000
open Go.RowKit
section
variable {P : Program} {cx : Cx} {s : St}
theorem run_bounds_arr {w : World} {n : Nat} {k1 : IntKind} {lo : Int} (h0 : 0 ≤ lo) (h1 : lo ≤ n) (_ : n ≤ 9223372036854775807) : (Instr.sliceBounds false n n (some (.int k1 lo)) none none).run P w = .ok (lo.toNat, n, n) w := by
  have h : ¬ ((n : Int) < lo) := by omega
  have h2 : ¬ (lo < 0) := by omega
  simp_all [Instr.sliceBounds, Instr.sliceBound, asIntOf]
theorem run_eqInpt {P : Program} {w : World} (n : Nat) {t : TypeId} [hT : PtrI P t] {a : Option Addr} : (Op.equalIn (n + 1) t (.pointer a) (.pointer none)).run P w = .ok a.isNone w := by
  obtain ⟨d, h1, h2⟩ := Option.map_eq_some_iff.1 hT.und
  cases d <;> simp [ptrT] at h2
  cases a <;> simp [Op.equalIn, run_underlying h1]
theorem run_eqpt {P : Program} {w : World} {t : TypeId} [hT : PtrI P t] {a : Option Addr} : (Op.equal t (.pointer a) (.pointer none)).run P w = .ok a.isNone w := run_eqInpt 9999
def nilpV : V → Option Bool
  | .ptr _ _ => some false
  | .d (.lit (.pointer none)) => some true
  | .ep _ => some false
  | .d (.pt _) => some false
  | _ => none
theorem nilpV_rep {B : Nat} {g : G} {w : World} {v : V} {b : Bool} {u : Value} (h : nilpV v = some b) (hu : vrep B g w v u) : ∃ a : Option Addr, u = .pointer a ∧ a.isNone = b := by
  unfold nilpV at h
  split at h
  · simp only [vrep] at hu; obtain ⟨c, _, rfl⟩ := hu; cases h; exact ⟨_, rfl, rfl⟩
  · simp only [vrep, drep] at hu; subst hu; cases h; exact ⟨_, rfl, rfl⟩
  · simp only [vrep] at hu; obtain ⟨b, o, cs, rfl, _⟩ := hu; cases h; exact ⟨_, rfl, rfl⟩
  · simp only [vrep, drep] at hu; obtain ⟨b, o, cs, rfl, _⟩ := hu; cases h; exact ⟨_, rfl, rfl⟩
  · cases h
theorem q_eqpn {t yt ty : TypeId} {x : Operand} {v : V} {b : Bool} [hT : PtrI P t] (hx : evalV s x = some v) (hv : nilpV v = some b) : OpQ P cx (.binOp .eql t x (.const (.pointer none)) yt) ty s (.d (.lit (.bool b))) := fun g ac w hS => by
  obtain ⟨a, h1, h2⟩ := nilpV_rep hv (hS.eval hx)
  refine ⟨.bool b, ?_, by simp only [vrep, drep]⟩
  have hc : ac.eval (.const (.pointer none)) = .pointer none := rfl
  simp [execOp, h1, hc, eqGuard, binOp, run_eqpt, h2]
theorem q_nepn {t yt ty : TypeId} {x : Operand} {v : V} {b : Bool} [hT : PtrI P t] (hx : evalV s x = some v) (hv : nilpV v = some b) : OpQ P cx (.binOp .neq t x (.const (.pointer none)) yt) ty s (.d (.lit (.bool (!b)))) := fun g ac w hS => by
  obtain ⟨a, h1, h2⟩ := nilpV_rep hv (hS.eval hx)
  refine ⟨.bool (!b), ?_, by simp only [vrep, drep]⟩
  have hc : ac.eval (.const (.pointer none)) = .pointer none := rfl
  simp [execOp, h1, hc, eqGuard, binOp, run_eqpt, h2]
theorem r_makec {t ty e : TypeId} {x y : Operand} {k1 k2 : IntKind} {n c : Int} {ag : Bool} {sz by_ k : Nat} {z : List Value} {tm : List (Nat × V)} {st : List E} [hE : SlI P t e sz by_] [hT : TyI P e ag sz z] (hx : evalV ⟨tm, st, 0⟩ x = some (I k1 n)) (hy : evalV ⟨tm, st, 0⟩ y = some (I k2 c)) (h0 : 0 ≤ n) (hc : n ≤ c) (hb : c * (by_ : Int) ≤ 140737488355328) (hp : 0 < by_) (hz : z.all (·.oneCell') = true) :
    OpR P cx (.makeSlice t x y) ty tm st (.row k 0) k (.r true true k 0 e sz (List.replicate n.toNat (z.map .lit))) := fun nb g a w hk hf hS => by
  have hx : evalV ⟨tm, st, nb⟩ x = some (I k1 n) := by cases x <;> exact hx
  have hy : evalV ⟨tm, st, nb⟩ y = some (I k2 c) := by cases y <;> exact hy
  have hx' := hS.eval hx
  have hy' := hS.eval hy
  simp only [vrep, drep] at hx' hy'
  obtain ⟨i, zv, e1, e2, e3, e4⟩ := hT.size
  obtain ⟨i', z', q1, q2, q3, q4, q5⟩ := hE.elem.info
  rw [e1] at q1; cases q1
  rw [e3] at q2; cases q2
  have hnb : c.toNat * by_ ≤ 140737488355328 := by
    have : ((c.toNat * by_ : Nat) : Int) = c * by_ := by rw [Int.natCast_mul, Int.toNat_of_nonneg (by omega)]
    omega
  have hn1 : c.toNat ≤ 140737488355328 := Nat.le_trans (Nat.le_mul_of_pos_right _ hp) hnb
  have hrun := run_make (P := P) w t e i zv hE.elem.und e1 e3 k1 k2 n c h0 hc (by
    rw [q4]
    have : ((c.toNat * by_ : Nat) : Int) = c * by_ := by rw [Int.natCast_mul, Int.toNat_of_nonneg (by omega)]
    rw [Int.mul_comm]; omega) (by omega)
  rw [e2] at hrun
  have hzp : 0 < zv.cells.size := by rw [q5]; exact hE.elem.pos
  have hcells : (madeCells zv.cells (c.toNat * sz)).toList = (List.replicate c.toNat z).flatten := by rw [← q5, made_cells _ hzp, e4]
  have hzl : z.length = sz := by rw [← e4, ← q5]; simp
  have hfl : ((List.replicate n.toNat z).flatten).length = n.toNat * sz := by simp [hzl]
  have hrep : List.replicate c.toNat z = List.replicate n.toNat z ++ List.replicate (c.toNat - n.toNat) z := by rw [List.replicate_append_replicate]; congr 1; omega
  have hown : (w.alloc (.cells (madeCells zv.cells (c.toNat * sz)) e)).ownsRow w.heap.size e sz (.slice (some ⟨w.heap.size, 0, none⟩) n.toNat c.toNat) (List.replicate n.toNat (z.map D.lit)).length (List.replicate n.toNat z).flatten := by
    rw [List.length_replicate]
    refine ⟨hfl, .inr ⟨w.heap.size, c.toNat, _, rfl, Nat.le_refl _, heap_alloc_new w _, by omega, by unfold maxLen; omega, size_madeCells _ _, ?_⟩⟩
    rw [hcells, hrep, List.flatten_append, ← hfl, List.take_left]
  have hd : dreps cx.B (fun b => g.prot b ∧ some b ≠ (Value.slice (some ⟨w.heap.size, 0, none⟩) n.toNat c.toNat).ownBlock) (w.alloc (.cells (madeCells zv.cells (c.toNat * sz)) e)) (z.map .lit) z := dreps_lit
  obtain ⟨m1, m2, m3, m4⟩ := new_row hS.inv hf hk (w' := w.alloc (.cells (madeCells zv.cells (c.toNat * sz)) e)) ⟨rfl, rfl, rfl, by simp, fun k hk => Below.heap_alloc w _ k hk⟩ (e := e) (sz := sz) (drepss_replicate hd n.toNat)
    ⟨fun x hx => by rw [List.eq_of_mem_replicate hx]; simp [hzl], fun u hu => by
      obtain ⟨l, hl, hu⟩ := List.mem_flatten.1 hu
      rw [List.eq_of_mem_replicate hl] at hu
      exact List.all_eq_true.1 hz u hu⟩ hown
  exact ⟨_, _, _, by simp [execOp, hx', hy', hrun], m1, m2, m3, m4⟩
theorem q_slicelo {t ty e : TypeId} {x y : Operand} {k off n sz : Nat} {k1 : IntKind} {lo : Int} [hA : ArrI P t n e sz] (hx : evalV s x = some (.ptr k off)) (hy : evalV s y = some (I k1 lo)) (h0 : 0 ≤ lo) (h1 : lo < n) (hn : Nat.ble n 9223372036854775807 = true) :
    OpQ P cx (.slice t x (some y) none none) ty s (.sv k (off + lo.toNat * sz) (n - lo.toNat) (n - lo.toNat) sz) := fun g a w hS => by
  have h := hS.eval hx
  have hy := hS.eval hy
  simp only [vrep, drep] at h hy
  obtain ⟨b, hb, hu⟩ := h
  have hn := Nat.le_of_ble_eq_true hn
  refine ⟨.slice (some ⟨b, off + lo.toNat * sz, none⟩) (n - lo.toNat) (n - lo.toNat), ?_, by simp only [vrep]; exact ⟨b, hb, rfl, Nat.le_refl _, by unfold maxLen; omega⟩⟩
  obtain ⟨q1, i, q2, q3⟩ := hA.get
  have hs : (sizeOf e).run P w = .ok sz w := by simp [sizeOf, typeInfo, q2, q3]
  have hbd := run_bounds_arr (P := P) (w := w) (n := n) (k1 := k1) (lo := lo) h0 (by omega) hn
  have hne : ¬ (n = lo.toNat) := by omega
  have ha : (⟨b, off, none⟩ : Addr).add (lo.toNat * sz) = ⟨b, off + lo.toNat * sz, none⟩ := by unfold Addr.add; split <;> simp_all
  simp [execOp, hu, hy, Instr.sliceAt, run_underlying q1, Instr.sureAddr, hbd, hs, ha, hne]
end
section
variable {P : Program} {cx : Cx} {tm : List (Nat × V)} {st : List E} {nb : Nat} {Q : VE → St → Prop} {ops rest : List Oper}
theorem vs_eqpn {d : Tmp} {x : Operand} {t yt ty : TypeId} {v : V} {b : Bool} {pos : String} {af : Array Edge} {gd : Option (Nat × Bool)} [hT : PtrI P t] (k : VL P cx ops rest ⟨(d, .d (.lit (.bool b))) :: tm, st, nb⟩ Q) (hx : evalV ⟨tm, st, nb⟩ x = some v := by rfl) (hv : nilpV v = some b := by rfl) (hd : Nat.blt d cx.N = true := by rfl)
    (hw : Wd ops tm gd := by first | exact trivial | exact wd_of rfl rfl (by with_reducible rfl)) : VL P cx ops (⟨some d, .binOp .eql t x (.const (.pointer none)) yt, ty, pos, af, gd⟩ :: rest) ⟨tm, st, nb⟩ Q := vs_x k (sx_q (h := q_eqpn hx hv) (hd := hd) (hw := hw))
theorem vs_nepn {d : Tmp} {x : Operand} {t yt ty : TypeId} {v : V} {b : Bool} {pos : String} {af : Array Edge} {gd : Option (Nat × Bool)} [hT : PtrI P t] (k : VL P cx ops rest ⟨(d, .d (.lit (.bool (!b)))) :: tm, st, nb⟩ Q) (hx : evalV ⟨tm, st, nb⟩ x = some v := by rfl) (hv : nilpV v = some b := by rfl) (hd : Nat.blt d cx.N = true := by rfl)
    (hw : Wd ops tm gd := by first | exact trivial | exact wd_of rfl rfl (by with_reducible rfl)) : VL P cx ops (⟨some d, .binOp .neq t x (.const (.pointer none)) yt, ty, pos, af, gd⟩ :: rest) ⟨tm, st, nb⟩ Q := vs_x k (sx_q (h := q_nepn hx hv) (hd := hd) (hw := hw))
theorem vs_makec {d : Tmp} {t ty e : TypeId} {x y : Operand} {k1 k2 : IntKind} {n c : Int} {ag : Bool} {sz by_ : Nat} {z : List Value} {pos : String} {af : Array Edge} [hE : SlI P t e sz by_] [hT : TyI P e ag sz z]
    (k : VL P cx ops rest ⟨(d, .row nb 0) :: tm, .r true true nb 0 e sz (List.replicate n.toNat (z.map .lit)) :: st, nb + 1⟩ Q) (hx : evalV ⟨tm, st, 0⟩ x = some (I k1 n) := by rfl) (hy : evalV ⟨tm, st, 0⟩ y = some (I k2 c) := by rfl)
    (h0 : 0 ≤ n := by omega) (hc : n ≤ c := by omega) (hb : c * (by_ : Int) ≤ 140737488355328 := by omega) (hp : 0 < by_ := by decide) (hz : z.all (·.oneCell') = true := by rfl) (hd : Nat.blt d cx.N = true := by rfl) :
    VL P cx ops (⟨some d, .makeSlice t x y, ty, pos, af, none⟩ :: rest) ⟨tm, st, nb⟩ Q := vs_x k (sx_r (h := r_makec hx hy h0 hc hb hp hz) (hd := hd))
theorem vs_slicelo {d : Tmp} {t ty e : TypeId} {x y : Operand} {kk off n sz : Nat} {k1 : IntKind} {lo : Int} {pos : String} {af : Array Edge} [hA : ArrI P t n e sz]
    (k : VL P cx ops rest ⟨(d, .sv kk (off + lo.toNat * sz) (n - lo.toNat) (n - lo.toNat) sz) :: tm, st, nb⟩ Q) (hx : evalV ⟨tm, st, nb⟩ x = some (.ptr kk off) := by rfl) (hy : evalV ⟨tm, st, nb⟩ y = some (I k1 lo) := by rfl)
    (h0 : 0 ≤ lo := by omega) (h1 : lo < n := by omega) (hn : Nat.ble n 9223372036854775807 = true := by rfl) (hd : Nat.blt d cx.N = true := by rfl) :
    VL P cx ops (⟨some d, .slice t x (some y) none none, ty, pos, af, none⟩ :: rest) ⟨tm, st, nb⟩ Q := vs_x k (sx_q (h := q_slicelo hx hy h0 h1 hn) (hd := hd))
end
end Go.Proofs.YtnjaohdadaifhaaGreat

namespace Go.Proofs.YtnjaohdadaifhaaGreat
set_option maxRecDepth 20000
open Go.RowKit
set_option maxRecDepth 10000
set_option maxHeartbeats 4000000
theorem equal_v (a b : List UInt8) : VP Tryz.prog 18 [bsD a, bsD b] (· = .ret (.lit (.bool (decide (a = b))))) := by
  refine vp_of Tryz.func18 rfl Tryz.ntmps18 rfl Tryz.results18 fun B => ?_
  have hb := byD_len b
  have ha := byD_len a
  repeat' (first | refine nz1 ?_ | refine nzo ?_ | refine nc ?_ ?_ | (with_reducible intro _ <;> (try (exfalso; omega))) | refine nnil ?_ | (refine nd ?_ ?_ <;> intro hg <;> first | exact xo hg | rw [hg]))
  · rw [decide_eq_false (fun h => by subst h; omega)]
  · refine vw_each 0 a (fun x => [.lit (vb x)]) (fun (i : Nat) (_ : Unit) => ⟨[(13, I .i64 i), (12, I .i64 (byD a).length), (0, .d (.sl false false (byD a))), (1, .d (.sl false false (byD b)))], [], 0⟩) (fun i _ => decide (a = b) = decide (a.drop i = b.drop i)) () (sub_z) rfl (fun i y x hT hi hx hx' hlt hlm hlen hdr => ?_) (fun y hT hlt hlm => ?_)
    · have hlb : i < b.length := by omega
      have hb' : b[i]? = some b[i] := List.getElem?_eq_getElem hlb
      have hbd := List.drop_eq_getElem_cons hlb
      generalize b[i] = z at *
      have hbx : (byD b)[((i : Nat) : Int).toNat]? = some [.lit (vb z)] := by simp [hb']
      rw [hdr, hbd] at hT
      repeat' (first | refine nz1 ?_ | refine nzo ?_ | refine nc ?_ ?_ | (with_reducible intro _ <;> (try (exfalso; omega))) | refine nnil ?_ | (refine nd ?_ ?_ <;> intro hg <;> first | exact xo hg | rw [hg]))
      · rename_i hne; rw [hT, decide_eq_false (fun h => u8_ne hne (List.cons.inj h).1)]
      · rename_i heq; refine nx_each () hi ?_ (sub_z)
        rw [hT, u8_eq heq]; simp
    · repeat' (first | refine nz1 ?_ | refine nzo ?_ | refine nc ?_ ?_ | (with_reducible intro _ <;> (try (exfalso; omega))) | refine nnil ?_ | (refine nd ?_ ?_ <;> intro hg <;> first | exact xo hg | rw [hg]))
      rw [hT, List.drop_of_length_le (Nat.le_refl _), List.drop_of_length_le (by omega), decide_eq_true rfl]
theorem clone_v (b : List UInt8) (hb : b.length ≤ 140737488355328) : VP Tryz.prog 10 [bsD b] (· = .ret (.sl false true (byD b))) := by
  have hl := byD_len b
  refine VP.le ?_
  refine vp_of Tryz.func10 rfl Tryz.ntmps10 rfl Tryz.results10 fun B => ?_
  repeat' (first | refine nz1 ?_ | refine nzo ?_ | refine nc ?_ ?_ | (with_reducible intro _ <;> (try (exfalso; omega))) | refine nnil ?_ | (refine nd ?_ ?_ <;> intro hg <;> first | exact xo hg | rw [hg]))
  · have : b = [] := List.eq_nil_of_length_eq_zero (by simp_all)
    subst this
    exact de_nil
  · exact de_refl _
abbrev fD (b : List UInt8) : List D := [bsD b]
end Go.Proofs.YtnjaohdadaifhaaGreat

namespace Go.Proofs.YtnjaohdadaifhaaGreat
set_option maxRecDepth 20000
open Go.RowKit
def layN : Nat → Nat → List UInt8
  | 0, _ => []
  | w + 1, n => layN w (n / 256) ++ [UInt8.ofNat (n % 256)]
def numN (b : List UInt8) : Nat := b.foldl (fun a x => 256 * a + x.toNat) 0
theorem numN_snoc (b : List UInt8) (x : UInt8) : numN (b ++ [x]) = 256 * numN b + x.toNat := by simp [numN]
theorem layN_len : ∀ (w n : Nat), (layN w n).length = w
  | 0, _ => rfl
  | w + 1, n => by simp [layN, layN_len w]
theorem layN_cons : ∀ (w n : Nat), layN (w + 1) n = UInt8.ofNat (n / 256 ^ w % 256) :: layN w n
  | 0, n => by simp [layN]
  | w + 1, n => by
    rw [show layN (w + 1 + 1) n = layN (w + 1) (n / 256) ++ [UInt8.ofNat (n % 256)] from rfl, layN_cons w (n / 256)]
    simp only [layN, List.cons_append, Nat.div_div_eq_div_mul, Nat.pow_succ]
    rw [Nat.mul_comm]
theorem u8_of (n : Nat) (h : n < 256) : (UInt8.ofNat n).toNat = n := by simp []; omega
theorem vb_of (n : Nat) (h : n < 256) : vb (UInt8.ofNat n) = .int .u8 n := by simp only [vb, u8_of n h]
theorem numN_layN : ∀ (w n : Nat), n < 256 ^ w → numN (layN w n) = n
  | 0, n, h => by simp at h; subst h; rfl
  | w + 1, n, h => by
    rw [Nat.pow_succ] at h
    rw [layN, numN_snoc, numN_layN w _ (by omega), u8_of _ (by omega)]; omega
theorem numN_lt : ∀ (b : List UInt8), numN b < 256 ^ b.length := fun b => by
  suffices ∀ n (b : List UInt8), b.length = n → numN b < 256 ^ n from this _ b rfl
  intro n
  induction n with
  | zero => intro b hb; have := List.eq_nil_of_length_eq_zero hb; subst this; simp [numN]
  | succ n ih =>
    intro b hb
    obtain ⟨c, x, rfl⟩ : ∃ c x, b = c ++ [x] := ⟨b.dropLast, b.getLast (by intro h; simp [h] at hb), (List.dropLast_concat_getLast _).symm⟩
    have h1 := ih c (by simpa using hb)
    have h2 := x.toNat_lt
    rw [numN_snoc, Nat.pow_succ]; omega
theorem layN_numN : ∀ (b : List UInt8), layN b.length (numN b) = b := fun b => by
  suffices ∀ n (b : List UInt8), b.length = n → layN n (numN b) = b from this _ b rfl
  intro n
  induction n with
  | zero => intro b hb; have := List.eq_nil_of_length_eq_zero hb; subst this; rfl
  | succ n ih =>
    intro b hb
    obtain ⟨c, x, rfl⟩ : ∃ c x, b = c ++ [x] := ⟨b.dropLast, b.getLast (by intro h; simp [h] at hb), (List.dropLast_concat_getLast _).symm⟩
    have h1 := ih c (by simpa using hb)
    have h2 := x.toNat_lt
    rw [numN_snoc, layN, show (256 * numN c + x.toNat) / 256 = numN c by omega, h1, show (256 * numN c + x.toNat) % 256 = x.toNat by omega]
    simp
theorem pow_le (a b : Nat) (h : a ≤ b) : 256 ^ a ≤ 256 ^ b := Nat.pow_le_pow_right (by omega) h
theorem numN_small (b : List UInt8) (h : b.length ≤ 7) : numN b < 72057594037927936 := Nat.lt_of_lt_of_le (numN_lt b) (pow_le _ 7 h)
theorem numN_u64 (b : List UInt8) (h : b.length ≤ 8) : numN b < 18446744073709551616 := Nat.lt_of_lt_of_le (numN_lt b) (pow_le _ 8 h)
theorem wrap_q (n : Nat) (h : n < 18446744073709551616) : IntKind.u64.wrap ((n : Int).tdiv 256) = ((n / 256 : Nat) : Int) := by
  rw [Int.tdiv_eq_ediv_of_nonneg (by omega), wrap_in (by simp only [inK]; omega)]; omega
theorem wrap_8 (n : Nat) (h : n < 256) : IntKind.u8.wrap (n : Int) = n := wrap_in (by simp only [inK]; omega)
theorem wrap_82 (n : Nat) : IntKind.u8.wrap (n : Int) = ((n % 256 : Nat) : Int) := by
  rw [show (n : Int) = 256 * ((n / 256 : Nat) : Int) + ((n % 256 : Nat) : Int) by omega]; simp [IntKind.wrap, IntKind.bits, IntKind.signed]
theorem rem_step (w n : Nat) : n / 256 ^ w % 256 < 256 := Nat.mod_lt _ (by omega)
set_option maxRecDepth 10000
set_option maxHeartbeats 4000000
theorem lay01_v (w n : Nat) (hw : w ≤ 8) (hn : n < 18446744073709551616) : VP Tryz.prog 62 [i64D w, u64D n] (· = .ret (.sl false true (byD (layN w n)))) := by
  refine VP.le ?_
  refine vp_of Tryz.func62 rfl Tryz.ntmps62 rfl Tryz.results62 fun B => ?_
  repeat' (first | refine nz1 ?_ | refine nzo ?_ | refine nc ?_ ?_ | (with_reducible intro _ <;> (try (exfalso; omega))) | refine nnil ?_ | (refine nd ?_ ?_ <;> intro hg <;> first | exact xo hg | rw [hg]))
  refine vw_nilT 5 5 1 rfl ?_
  refine vw_loop (fun i : Nat => ⟨[(7, I .i64 i), (6, I .i64 w), (5, .row 0 0), (1, I .u64 ((n / 256 ^ i : Nat) : Int))], [.r true true 0 0 5 1 (byD (layN i n))], 1⟩) (fun i => i ≤ w) (fun i => w - i) 0 (by rw [Nat.pow_zero, Nat.div_one]; exact (sub_z)) (Nat.zero_le _) fun i hi => ?_
  have hm : n / 256 ^ i < 18446744073709551616 := Nat.lt_of_le_of_lt (Nat.div_le_self _ _) hn
  have hst : n / 256 ^ (i + 1) = n / 256 ^ i / 256 := by rw [Nat.pow_succ, Nat.div_div_eq_div_mul]
  have hc := layN_cons i n
  generalize n / 256 ^ i = m at *
  have hb : vb (UInt8.ofNat (m % 256)) = .int .u8 (IntKind.u8.wrap ((m : Int).tmod 256)) := by
    rw [vb_of _ (Nat.mod_lt _ (by omega)), Int.tmod_eq_emod_of_nonneg (by omega), show (m : Int) % 256 = ((m % 256 : Nat) : Int) by omega, wrap_8 _ (Nat.mod_lt _ (by omega))]
  have hl : (byD (layN i n)).length = i := by rw [byD_len, layN_len]
  have hl2 := layN_len i n
  rcases Nat.lt_or_ge i w with h | h
  · repeat' (first | refine nz1 ?_ | refine nzo ?_ | refine nc ?_ ?_ | (with_reducible intro _ <;> (try (exfalso; omega))) | refine nnil ?_ | (refine nd ?_ ?_ <;> intro hg <;> first | exact xo hg | rw [hg]))
    refine nx_loop (i + 1) (show i + 1 ≤ _ by omega) (show w - (i + 1) < w - i by omega) ?_
    rw [hc, hst, ← wrap_q m hm]
    simp only [byD, List.map_cons, hb]
    exact (sub_zr [(0, _, _)])
  · repeat' (first | refine nz1 ?_ | refine nzo ?_ | refine nc ?_ ?_ | (with_reducible intro _ <;> (try (exfalso; omega))) | refine nnil ?_ | (refine nd ?_ ?_ <;> intro hg <;> first | exact xo hg | rw [hg]))
    rw [show w = i by omega]
    exact de_refl _
end Go.Proofs.YtnjaohdadaifhaaGreat

namespace Go.Proofs.YtnjaohdadaifhaaGreat
set_option maxRecDepth 20000
open Go.RowKit
set_option maxRecDepth 10000
set_option maxHeartbeats 4000000
theorem oneed_ok (e : Int) : VP Tryz.prog 110 [.lit (.bool true), i64D e] (· = .ret (.tup [])) := by
  refine vp_of Tryz.func110 rfl Tryz.ntmps110 rfl Tryz.results110 fun B => ?_
  repeat' (first | refine nz1 ?_ | refine nzo ?_ | refine nc ?_ ?_ | (with_reducible intro _ <;> (try (exfalso; omega))) | refine nnil ?_ | (refine nd ?_ ?_ <;> intro hg <;> first | exact xo hg | rw [hg]))
  all_goals rfl
theorem oneed_no (e : Int) : VP Tryz.prog 110 [.lit (.bool false), i64D e] (· = .panic (errD e)) := by
  refine vp_of Tryz.func110 rfl Tryz.ntmps110 rfl Tryz.results110 fun B => ?_
  repeat' (first | refine nz1 ?_ | refine nzo ?_ | refine nc ?_ ?_ | (with_reducible intro _ <;> (try (exfalso; omega))) | refine nnil ?_ | (refine nd ?_ ?_ <;> intro hg <;> first | exact xo hg | rw [hg]))
  all_goals rfl
theorem oneed_if (c : Bool) (e : Int) : VP Tryz.prog 110 [.lit (.bool c), i64D e] (· = if c then .ret (.tup []) else .panic (errD e)) := by
  cases c with
  | true => exact oneed_ok e
  | false => exact oneed_no e
theorem ois_v (w : Int) (h : 1 ≤ w ∧ w ≤ 8) : VP Tryz.prog 111 [i64D w] (· = .ret (.lit (.bool true))) := by
  refine vp_of Tryz.func111 rfl Tryz.ntmps111 rfl Tryz.results111 fun B => ?_
  repeat' (first | refine nz1 ?_ | refine nzo ?_ | refine nc ?_ ?_ | (with_reducible intro _ <;> (try (exfalso; omega))) | refine nnil ?_ | (refine nd ?_ ?_ <;> intro hg <;> first | exact xo hg | rw [hg]))
  all_goals simp; omega
theorem or_step (n x : Nat) (hn : n < 72057594037927936) (hx : x < 256) : IntKind.u64.wrap ((BitVec.ofInt IntKind.u64.bits (IntKind.u64.wrap ((n : Int) * 2 ^ min (Int.toNat 8) IntKind.u64.bits)) ||| BitVec.ofInt IntKind.u64.bits (x : Int)).toNat : Nat) = ((256 * n + x : Nat) : Int) := by
  rw [show ((n : Int) * 2 ^ min (Int.toNat 8) IntKind.u64.bits) = ((256 * n : Nat) : Int) by rw [show (2 : Int) ^ min (Int.toNat 8) IntKind.u64.bits = 256 from rfl]; omega]
  rw [show IntKind.u64.wrap ((256 * n : Nat) : Int) = ((256 * n : Nat) : Int) from wrap_in (by simp only [inK]; omega)]
  have h : (BitVec.ofInt IntKind.u64.bits ((256 * n : Nat) : Int) ||| BitVec.ofInt IntKind.u64.bits (x : Int)).toNat = 256 * n + x := by
    rw [BitVec.toNat_or, BitVec.ofInt_natCast, BitVec.ofInt_natCast, BitVec.toNat_ofNat, BitVec.toNat_ofNat, show (2 : Nat) ^ IntKind.u64.bits = 18446744073709551616 from rfl, Nat.mod_eq_of_lt (by omega), Nat.mod_eq_of_lt (by omega)]
    have := Nat.shiftLeft_add_eq_or_of_lt (i := 8) (b := x) (by omega) n
    rw [Nat.shiftLeft_eq, show 2 ^ 8 = 256 from rfl] at this
    rw [Nat.mul_comm 256 n, ← this]
  rw [h, wrap_in (by simp only [inK]; omega)]
theorem onum_v (b : List UInt8) (hb : b.length ≤ 8) : VP Tryz.prog 112 [bsD b] (· = .ret (u64D (numN b))) := by
  refine vp_of Tryz.func112 rfl Tryz.ntmps112 rfl Tryz.results112 fun B => ?_
  have ha := byD_len b
  repeat' (first | refine nz1 ?_ | refine nzo ?_ | refine nc ?_ ?_ | (with_reducible intro _ <;> (try (exfalso; omega))) | refine nnil ?_ | (refine nd ?_ ?_ <;> intro hg <;> first | exact xo hg | rw [hg]))
  refine vw_each 6 b (fun x => [.lit (vb x)]) (fun (i : Nat) (_ : Unit) => ⟨[(8, I .i64 i), (7, I .i64 (byD b).length), (6, .d (.sl false false (byD b))), (3, I .u64 (numN (b.take i)))], [], 0⟩) (fun i _ => True) () (sub_z) trivial (fun i y x hT hi hx hx' hlt hlm hlen hdr => ?_) (fun y hT hlt hlm => ?_)
  · have htk : numN (b.take (i + 1)) = 256 * numN (b.take i) + x.toNat := by rw [List.take_add_one, hx]; exact numN_snoc _ _
    have h1 := numN_small (b.take i) (by simp; omega)
    have h2 := x.toNat_lt
    repeat' (first | refine nz1 ?_ | refine nzo ?_ | refine nc ?_ ?_ | (with_reducible intro _ <;> (try (exfalso; omega))) | refine nnil ?_ | (refine nd ?_ ?_ <;> intro hg <;> first | exact xo hg | rw [hg]))
    refine nx_each () hi trivial ?_
    rw [or_step _ _ h1 h2, ← htk]
    exact (sub_z)
  · repeat' (first | refine nz1 ?_ | refine nzo ?_ | refine nc ?_ ?_ | (with_reducible intro _ <;> (try (exfalso; omega))) | refine nnil ?_ | (refine nd ?_ ?_ <;> intro hg <;> first | exact xo hg | rw [hg]))
    rw [List.take_of_length_le (Nat.le_refl _)]
theorem behind_v (a b : List UInt8) (h : a.length + b.length ≤ 140737488355328) : VP Tryz.prog 100 [bsD a, bsD b] (· = .own 5 1 (byD (a ++ b))) := by
  refine vp_of Tryz.func100 rfl Tryz.ntmps100 rfl Tryz.results100 fun B => ?_
  have ha := byD_len a
  have hb := byD_len b
  repeat' (first | refine nz1 ?_ | (refine vid ?_; first | refine vs_makec ?_) | refine nzo ?_ | refine nc ?_ ?_ | (with_reducible intro _ <;> (try (exfalso; omega))) | refine nnil ?_ | (refine nd ?_ ?_ <;> intro hg <;> first | exact xo hg | rw [hg]))
  all_goals simp [byD]
theorem shr_lay (n k : Nat) (h : k ≤ 8) : (n : Int).fdiv (2 ^ min (8 * (k : Int)).toNat IntKind.u64.bits) = ((n / 256 ^ k : Nat) : Int) := by
  rw [show min (8 * (k : Int)).toNat IntKind.u64.bits = 8 * k by rw [show IntKind.u64.bits = 64 from rfl]; omega, Int.fdiv_eq_ediv_of_nonneg _ (Int.pow_nonneg (by omega)), show (256 : Nat) = 2 ^ 8 from rfl, ← Nat.pow_mul]
  simp
theorem lay_map (w n : Nat) (h : w ≤ 8) : byD (layN (w + 1) n) = [.lit (.int .u8 (IntKind.u8.wrap ((n : Int).fdiv (2 ^ min (8 * (w : Int)).toNat IntKind.u64.bits))))] :: byD (layN w n) := by
  rw [layN_cons, shr_lay n w h, wrap_82]
  simp only [byD, List.map_cons, vb_of _ (rem_step w n)]
theorem laid_v (w n : Nat) (hw : 1 ≤ w ∧ w ≤ 8) (hn : n < 256 ^ w) : VP Tryz.prog 101 [i64D w, u64D n] (· = .ret (bsD (layN w n))) := by
  have ci := ois_v w (by omega)
  have hz : (n : Int).fdiv (2 ^ min (8 * (w : Int)).toNat IntKind.u64.bits) = 0 := by rw [shr_lay n w hw.2, Nat.div_eq_of_lt hn]; rfl
  have c2 := oneed_ok 112
  rw [← decide_eq_true hz] at c2
  have h8 : w = 1 ∨ w = 2 ∨ w = 3 ∨ w = 4 ∨ w = 5 ∨ w = 6 ∨ w = 7 ∨ w = 8 := by omega
  rcases h8 with rfl | rfl | rfl | rfl | rfl | rfl | rfl | rfl
  all_goals
    refine vp_of Tryz.func101 rfl Tryz.ntmps101 rfl Tryz.results101 fun B => ?_
    repeat' (first | refine nz1 ?_ | (refine vid ?_; first | refine cz (ci) ?_ | refine cz (oneed_ok 111) ?_ | refine cz (oneed_ok 112) ?_ | refine cz (c2) ?_) | refine nzo ?_ | refine nc ?_ ?_ | (with_reducible intro _ <;> (try (exfalso; omega))) | refine nnil ?_ | (refine nd ?_ ?_ <;> intro hg <;> first | exact xo hg | rw [hg]))
    refine vw_rounds 9 ?_
    repeat' (first | refine nz1 ?_ | (refine vid ?_; first | refine vs_slicelo ?_) | refine nzo ?_ | refine nc ?_ ?_ | (with_reducible intro _ <;> (try (exfalso; omega))) | refine nnil ?_ | (refine nd ?_ ?_ <;> intro hg <;> first | exact xo hg | rw [hg]))
  all_goals (show _ = R.ret (.sl false false (byD _)))
  all_goals (repeat rw [lay_map _ n (by omega)])
  all_goals rfl
end Go.Proofs.YtnjaohdadaifhaaGreat
