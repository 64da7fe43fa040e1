/- Walks by data and names, part 27: append(nil, make(n)), the cap of nothing, and an own row cut at a place. Layer 21, by V: bytes. Numbers as bytes: plain. -/
import Derived.Lib.AppendZeros
import Derived.Test.YtbgcjnfhadhjeaaGreatPk25
import Derived.Test.YtbgcjnfhadhjeaaGreatPk26
import Derived.Test.YtbgcjnfhadhjeaaGreatPk23
namespace Go.Proofs.YtbgcjnfhadhjeaaGreat
set_option maxRecDepth 20000
open Go.RowKit
section
variable {P : Program} {cx : Cx} {s : St}
theorem KZ {w : World} {n : Nat} {k1 : IntKind} {lo : Int} (h0 : 0 ≤ lo) (h1 : lo ≤ n) (_ : n ≤ 9223372036854775807) : (Instr.sliceBounds false n n (some (.int k1 lo)) none none).run P w = .ok (lo.toNat, n, n) w := by
 have h : ¬ ((n : Int) < lo) := by omega
 have h2 : ¬ (lo < 0) := by omega
 simp_all [Instr.sliceBounds, Instr.sliceBound, asIntOf]
theorem PR {P : Program} {w : World} (n : Nat) {t : TypeId} [hT : Mx P t] {a : Option Addr} : (Op.equalIn (n + 1) t (.pointer a) (.pointer none)).run P w = .ok a.isNone w := by
 obtain ⟨d, h1, h2⟩ := Option.map_eq_some_iff.1 hT.und
 cases d <;> simp [Abz] at h2
 cases a <;> simp [Op.equalIn, run_underlying h1]
theorem OM {P : Program} {w : World} {t : TypeId} [hT : Mx P t] {a : Option Addr} : (Op.equal t (.pointer a) (.pointer none)).run P w = .ok a.isNone w := PR 9999
def JW : V → Option Bool
 | .ptr _ _ => some false
 | .d (.lit (.pointer none)) => some true
 | .ep _ => some false
 | .d (.pt _) => some false
 | _ => none
theorem MV {B : Nat} {g : G} {w : World} {v : V} {b : Bool} {u : Value} (h : JW v = some b) (hu : vrep B g w v u) : ∃ a : Option Addr, u = .pointer a ∧ a.isNone = b := by
 unfold JW at h
 split at h
 ·simp only [vrep] at hu; obtain ⟨c, _, rfl⟩ := hu; cases h; exact ⟨_, rfl, rfl⟩
 ·simp only [vrep, drep] at hu; subst hu; cases h; exact ⟨_, rfl, rfl⟩
 ·simp only [vrep] at hu; obtain ⟨b, o, cs, rfl, _⟩ := hu; cases h; exact ⟨_, rfl, rfl⟩
 ·simp only [vrep, drep] at hu; obtain ⟨b, o, cs, rfl, _⟩ := hu; cases h; exact ⟨_, rfl, rfl⟩
 ·cases h
theorem ZH {t yt ty : TypeId} {x : Operand} {v : V} {b : Bool} [hT : Mx P t] (hx : Af s x = some v) (hv : JW v = some b) : Bn P cx (.binOp .eql t x (.const (.pointer none)) yt) ty s (.d (.lit (.bool b))) := fun g ac w hS => by
 obtain ⟨a, h1, h2⟩ := MV hv (hS.eval hx)
 refine ⟨.bool b, ?_, by simp only [vrep, drep]⟩
 have hc : ac.eval (.const (.pointer none)) = .pointer none := rfl
 simp [execOp, h1, hc, eqGuard, binOp, OM, h2]
theorem ZB {t yt ty : TypeId} {x : Operand} {v : V} {b : Bool} [hT : Mx P t] (hx : Af s x = some v) (hv : JW v = some b) : Bn P cx (.binOp .neq t x (.const (.pointer none)) yt) ty s (.d (.lit (.bool (!b)))) := fun g ac w hS => by
 obtain ⟨a, h1, h2⟩ := MV hv (hS.eval hx)
 refine ⟨.bool (!b), ?_, by simp only [vrep, drep]⟩
 have hc : ac.eval (.const (.pointer none)) = .pointer none := rfl
 simp [execOp, h1, hc, eqGuard, binOp, OM, h2]
theorem Xo {t ty e : TypeId} {x y : Operand} {k1 k2 : IntKind} {n c : Int} {ag : Bool} {sz by_ k : Nat} {z : List Value} {tm : List (Nat × V)} {st : List E} [hE : EU P t e sz by_] [hT : Br P e ag sz z] (hx : Af ⟨tm, st, 0⟩ x = some (I k1 n)) (hy : Af ⟨tm, st, 0⟩ y = some (I k2 c)) (h0 : 0 ≤ n) (hc : n ≤ c) (hb : c * (by_ : Int) ≤ 140737488355328) (hp : 0 < by_) (hz : z.all (·.oneCell') = true) :
  QM P cx (.makeSlice t x y) ty tm st (.row k 0) k (.r true true k 0 e sz (List.replicate n.toNat (z.map .lit))) := fun nb g a w hk hf hS => by
 have hx : Af ⟨tm, st, nb⟩ x = some (I k1 n) := by cases x <;> exact hx
 have hy : Af ⟨tm, st, nb⟩ y = some (I k2 c) := by cases y <;> exact hy
 have hx' := hS.eval hx
 have hy' := hS.eval hy
 simp only [vrep, drep] at hx' hy'
 obtain ⟨i, zv, e1, e2, e3, e4⟩ := hT.size
 obtain ⟨i', z', q1, q2, q3, q4, q5⟩ := hE.elem.info
 rw [e1] at q1; cases q1
 rw [e3] at q2; cases q2
 have hnb : c.toNat * by_ ≤ 140737488355328 := by
  have : ((c.toNat * by_ : Nat) : Int) = c * by_ := by rw [Int.natCast_mul, Int.toNat_of_nonneg (by omega)]
  omega
 have hn1 : c.toNat ≤ 140737488355328 := Nat.le_trans (Nat.le_mul_of_pos_right _ hp) hnb
 have hrun := run_make (P := P) w t e i zv hE.elem.und e1 e3 k1 k2 n c h0 hc (by
  rw [q4]
  have : ((c.toNat * by_ : Nat) : Int) = c * by_ := by rw [Int.natCast_mul, Int.toNat_of_nonneg (by omega)]
  rw [Int.mul_comm]; omega) (by omega)
 rw [e2] at hrun
 have hzp : 0 < zv.cells.size := by rw [q5]; exact hE.elem.pos
 have hcells : (madeCells zv.cells (c.toNat * sz)).toList = (List.replicate c.toNat z).flatten := by rw [← q5, Ik _ hzp, e4]
 have hzl : z.length = sz := by rw [← e4, ← q5]; simp
 have hfl : ((List.replicate n.toNat z).flatten).length = n.toNat * sz := by simp [hzl]
 have hrep : List.replicate c.toNat z = List.replicate n.toNat z ++ List.replicate (c.toNat - n.toNat) z := by rw [List.replicate_append_replicate]; congr 1; omega
 have hown : (w.alloc (.cells (madeCells zv.cells (c.toNat * sz)) e)).ownsRow w.heap.size e sz (.slice (some ⟨w.heap.size, 0, none⟩) n.toNat c.toNat) (List.replicate n.toNat (z.map D.lit)).length (List.replicate n.toNat z).flatten := by
  rw [List.length_replicate]
  refine ⟨hfl, .inr ⟨w.heap.size, c.toNat, _, rfl, Nat.le_refl _, heap_alloc_new w _, by omega, by unfold maxLen; omega, size_madeCells _ _, ?_⟩⟩
  rw [hcells, hrep, List.flatten_append, ← hfl, List.take_left]
 have hd : dreps cx.B (fun b => g.prot b ∧ some b ≠ (Value.slice (some ⟨w.heap.size, 0, none⟩) n.toNat c.toNat).ownBlock) (w.alloc (.cells (madeCells zv.cells (c.toNat * sz)) e)) (z.map .lit) z := HT
 obtain ⟨m1, m2, m3, m4⟩ := DX hS.inv hf hk (w' := w.alloc (.cells (madeCells zv.cells (c.toNat * sz)) e)) ⟨rfl, rfl, rfl, by simp, fun k hk => Below.heap_alloc w _ k hk⟩ (e := e) (sz := sz) (Em hd n.toNat)
  ⟨fun x hx => by rw [List.eq_of_mem_replicate hx]; simp [hzl], fun u hu => by
   obtain ⟨l, hl, hu⟩ := List.mem_flatten.1 hu
   rw [List.eq_of_mem_replicate hl] at hu
   exact List.all_eq_true.1 hz u hu⟩ hown
 exact ⟨_, _, _, by simp [execOp, hx', hy', hrun], m1, m2, m3, m4⟩
theorem Sx {t ty e : TypeId} {x y : Operand} {k off n sz : Nat} {k1 : IntKind} {lo : Int} [hA : EE P t n e sz] (hx : Af s x = some (.ptr k off)) (hy : Af s y = some (I k1 lo)) (h0 : 0 ≤ lo) (h1 : lo < n) (hn : Nat.ble n 9223372036854775807 = true) :
  Bn P cx (.slice t x (some y) none none) ty s (.sv k (off + lo.toNat * sz) (n - lo.toNat) (n - lo.toNat) sz) := fun g a w hS => by
 have h := hS.eval hx
 have hy := hS.eval hy
 simp only [vrep, drep] at h hy
 obtain ⟨b, hb, hu⟩ := h
 have hn := Nat.le_of_ble_eq_true hn
 refine ⟨.slice (some ⟨b, off + lo.toNat * sz, none⟩) (n - lo.toNat) (n - lo.toNat), ?_, by simp only [vrep]; exact ⟨b, hb, rfl, Nat.le_refl _, by unfold maxLen; omega⟩⟩
 obtain ⟨q1, i, q2, q3⟩ := hA.get
 have hs : (sizeOf e).run P w = .ok sz w := by simp [sizeOf, typeInfo, q2, q3]
 have hbd := KZ (P := P) (w := w) (n := n) (k1 := k1) (lo := lo) h0 (by omega) hn
 have hne : ¬ (n = lo.toNat) := by omega
 have ha : (⟨b, off, none⟩ : Addr).add (lo.toNat * sz) = ⟨b, off + lo.toNat * sz, none⟩ := by unfold Addr.add; split <;> simp_all
 simp [execOp, hu, hy, Instr.sliceAt, run_underlying q1, Instr.sureAddr, hbd, hs, ha, hne]
end
section
variable {P : Program} {cx : Cx} {tm : List (Nat × V)} {st : List E} {nb : Nat} {Q : VE → St → Prop} {ops rest : List Oper}
theorem Aq {d : Tmp} {x : Operand} {t yt ty : TypeId} {v : V} {b : Bool} {pos : String} {af : Array Edge} {gd : Option (Nat × Bool)} [hT : Mx P t] (k : VL P cx ops rest ⟨(d, .d (.lit (.bool b))) :: tm, st, nb⟩ Q) (hx : Af ⟨tm, st, nb⟩ x = some v := by rfl) (hv : JW v = some b := by rfl) (hd : Nat.blt d cx.N = true := by rfl)
  (hw : Wd ops tm gd := by first | exact trivial | exact A9 rfl rfl (by with_reducible rfl)) : VL P cx ops (⟨some d, .binOp .eql t x (.const (.pointer none)) yt, ty, pos, af, gd⟩ :: rest) ⟨tm, st, nb⟩ Q := HV k (IB (h := ZH hx hv) (hd := hd) (hw := hw))
theorem Bd {d : Tmp} {x : Operand} {t yt ty : TypeId} {v : V} {b : Bool} {pos : String} {af : Array Edge} {gd : Option (Nat × Bool)} [hT : Mx P t] (k : VL P cx ops rest ⟨(d, .d (.lit (.bool (!b)))) :: tm, st, nb⟩ Q) (hx : Af ⟨tm, st, nb⟩ x = some v := by rfl) (hv : JW v = some b := by rfl) (hd : Nat.blt d cx.N = true := by rfl)
  (hw : Wd ops tm gd := by first | exact trivial | exact A9 rfl rfl (by with_reducible rfl)) : VL P cx ops (⟨some d, .binOp .neq t x (.const (.pointer none)) yt, ty, pos, af, gd⟩ :: rest) ⟨tm, st, nb⟩ Q := HV k (IB (h := ZB hx hv) (hd := hd) (hw := hw))
theorem Om {d : Tmp} {t ty e : TypeId} {x y : Operand} {k1 k2 : IntKind} {n c : Int} {ag : Bool} {sz by_ : Nat} {z : List Value} {pos : String} {af : Array Edge} [hE : EU P t e sz by_] [hT : Br P e ag sz z]
  (k : VL P cx ops rest ⟨(d, .row nb 0) :: tm, .r true true nb 0 e sz (List.replicate n.toNat (z.map .lit)) :: st, nb + 1⟩ Q) (hx : Af ⟨tm, st, 0⟩ x = some (I k1 n) := by rfl) (hy : Af ⟨tm, st, 0⟩ y = some (I k2 c) := by rfl)
  (h0 : 0 ≤ n := by omega) (hc : n ≤ c := by omega) (hb : c * (by_ : Int) ≤ 140737488355328 := by omega) (hp : 0 < by_ := by decide) (hz : z.all (·.oneCell') = true := by rfl) (hd : Nat.blt d cx.N = true := by rfl) :
  VL P cx ops (⟨some d, .makeSlice t x y, ty, pos, af, none⟩ :: rest) ⟨tm, st, nb⟩ Q := HV k (TO (h := Xo hx hy h0 hc hb hp hz) (hd := hd))
theorem AX {d : Tmp} {t ty e : TypeId} {x y : Operand} {kk off n sz : Nat} {k1 : IntKind} {lo : Int} {pos : String} {af : Array Edge} [hA : EE P t n e sz]
  (k : VL P cx ops rest ⟨(d, .sv kk (off + lo.toNat * sz) (n - lo.toNat) (n - lo.toNat) sz) :: tm, st, nb⟩ Q) (hx : Af ⟨tm, st, nb⟩ x = some (.ptr kk off) := by rfl) (hy : Af ⟨tm, st, nb⟩ y = some (I k1 lo) := by rfl)
  (h0 : 0 ≤ lo := by omega) (h1 : lo < n := by omega) (hn : Nat.ble n 9223372036854775807 = true := by rfl) (hd : Nat.blt d cx.N = true := by rfl) :
  VL P cx ops (⟨some d, .slice t x (some y) none none, ty, pos, af, none⟩ :: rest) ⟨tm, st, nb⟩ Q := HV k (IB (h := Sx hx hy h0 h1 hn) (hd := hd))
end

set_option maxRecDepth 10000
set_option maxHeartbeats 4000000
theorem HR (a b : List UInt8) : VP Tryz.prog 16 [CV a, CV b] (· = .ret (.lit (.bool (decide (a = b))))) := by
 refine Am fun B => ?_
 have hb := AA b
 have ha := AA a
 repeat' (first | refine Al ?_ | refine Ak ?_ | refine nc ?_ ?_ | (with_reducible intro _ <;> (try (exfalso; omega))) | refine Ad ?_ | (refine nd ?_ ?_ <;> intro hg <;> first | exact xo hg | rw [hg]))
 ·rw [decide_eq_false (fun h => by subst h; omega)]
 ·refine Bi 0 a (fun x => [.lit (vb x)]) (fun (i : Nat) (_ : Unit) => ⟨[(13, I .i64 i), (12, I .i64 (AH a).length), (0, .d (.sl false false (AH a))), (1, .d (.sl false false (AH b)))], [], 0⟩) (fun i _ => decide (a = b) = decide (a.drop i = b.drop i)) () (AI) rfl (fun i y x hT hi hx hx' hlt hlm hlen hdr => ?_) (fun y hT hlt hlm => ?_)
  ·have hlb : i < b.length := by omega
   have hb' : b[i]? = some b[i] := List.getElem?_eq_getElem hlb
   have hbd := List.drop_eq_getElem_cons hlb
   generalize b[i] = z at *
   have hbx : (AH b)[((i : Nat) : Int).toNat]? = some [.lit (vb z)] := by simp [hb']
   rw [hdr, hbd] at hT
   repeat' (first | refine Al ?_ | refine Ak ?_ | refine nc ?_ ?_ | (with_reducible intro _ <;> (try (exfalso; omega))) | refine Ad ?_ | (refine nd ?_ ?_ <;> intro hg <;> first | exact xo hg | rw [hg]))
   ·rename_i hne; rw [hT, decide_eq_false (fun h => Yo hne (List.cons.inj h).1)]
   ·rename_i heq; refine Be () hi ?_ (AI)
    rw [hT, ME heq]; simp
  ·repeat' (first | refine Al ?_ | refine Ak ?_ | refine nc ?_ ?_ | (with_reducible intro _ <;> (try (exfalso; omega))) | refine Ad ?_ | (refine nd ?_ ?_ <;> intro hg <;> first | exact xo hg | rw [hg]))
   rw [hT, List.drop_of_length_le (Nat.le_refl _), List.drop_of_length_le (by omega), decide_eq_true rfl]
theorem T4 (a b : List UInt8) : VP Tryz.prog 49 [CV a, CV b] (· = .ret (.lit (.bool (decide (a = b))))) := by
 refine Am fun B => ?_
 have hb := AA b
 have ha := AA a
 repeat' (first | refine Al ?_ | refine Ak ?_ | refine nc ?_ ?_ | (with_reducible intro _ <;> (try (exfalso; omega))) | refine Ad ?_ | (refine nd ?_ ?_ <;> intro hg <;> first | exact xo hg | rw [hg]))
 ·rw [decide_eq_false (fun h => by subst h; omega)]
 ·refine Bi 12 a (fun x => [.lit (vb x)]) (fun (i : Nat) (_ : Unit) => ⟨[(14, I .i64 i), (13, I .i64 (AH a).length), (12, .d (.sl false false (AH a))), (1, .d (.sl false false (AH b)))], [], 0⟩) (fun i _ => decide (a = b) = decide (a.drop i = b.drop i)) () (AI) rfl (fun i y x hT hi hx hx' hlt hlm hlen hdr => ?_) (fun y hT hlt hlm => ?_)
  ·have hlb : i < b.length := by omega
   have hb' : b[i]? = some b[i] := List.getElem?_eq_getElem hlb
   have hbd := List.drop_eq_getElem_cons hlb
   generalize b[i] = z at *
   have hbx : (AH b)[((i : Nat) : Int).toNat]? = some [.lit (vb z)] := by simp [hb']
   rw [hdr, hbd] at hT
   repeat' (first | refine Al ?_ | refine Ak ?_ | refine nc ?_ ?_ | (with_reducible intro _ <;> (try (exfalso; omega))) | refine Ad ?_ | (refine nd ?_ ?_ <;> intro hg <;> first | exact xo hg | rw [hg]))
   ·rename_i hne; rw [hT, decide_eq_false (fun h => Yo hne (List.cons.inj h).1)]
   ·rename_i heq; refine Be () hi ?_ (AI)
    rw [hT, ME heq]; simp
  ·repeat' (first | refine Al ?_ | refine Ak ?_ | refine nc ?_ ?_ | (with_reducible intro _ <;> (try (exfalso; omega))) | refine Ad ?_ | (refine nd ?_ ?_ <;> intro hg <;> first | exact xo hg | rw [hg]))
   rw [hT, List.drop_of_length_le (Nat.le_refl _), List.drop_of_length_le (by omega), decide_eq_true rfl]
theorem I7 (b : List UInt8) (hb : b.length ≤ 140737488355328) : VP Tryz.prog 22 [CV b] (· = .ret (.sl false true (AH b))) := by
 have hl := AA b
 refine VP.le ?_
 refine Am fun B => ?_
 repeat' (first | refine Al ?_ | refine Ak ?_ | refine nc ?_ ?_ | (with_reducible intro _ <;> (try (exfalso; omega))) | refine Ad ?_ | (refine nd ?_ ?_ <;> intro hg <;> first | exact xo hg | rw [hg]))
 ·have : b = [] := List.eq_nil_of_length_eq_zero (by simp_all)
  subst this
  exact QI
 ·exact AP _
abbrev fD (b : List UInt8) : List D := [CV b]

set_option maxRecDepth 20000
def Av : Nat → Nat → List UInt8
 | 0, _ => []
 | w + 1, n => Av w (n / 256) ++ [UInt8.ofNat (n % 256)]
def A3 (b : List UInt8) : Nat := b.foldl (fun a x => 256 * a + x.toNat) 0
theorem HG (b : List UInt8) (x : UInt8) : A3 (b ++ [x]) = 256 * A3 b + x.toNat := by simp [A3]
theorem As : ∀ (w n : Nat), (Av w n).length = w
 | 0, _ => rfl
 | w + 1, n => by simp [Av, As w]
theorem HO : ∀ (w n : Nat), Av (w + 1) n = UInt8.ofNat (n / 256 ^ w % 256) :: Av w n
 | 0, n => by simp [Av]
 | w + 1, n => by
  rw [show Av (w + 1 + 1) n = Av (w + 1) (n / 256) ++ [UInt8.ofNat (n % 256)] from rfl, HO w (n / 256)]
  simp only [Av, List.cons_append, Nat.div_div_eq_div_mul, Nat.pow_succ]
  rw [Nat.mul_comm]
theorem KR (n : Nat) (h : n < 256) : (UInt8.ofNat n).toNat = n := by simp []; omega
theorem Ou (n : Nat) (h : n < 256) : vb (UInt8.ofNat n) = .int .u8 n := by simp only [vb, KR n h]
theorem E9 : ∀ (w n : Nat), n < 256 ^ w → A3 (Av w n) = n
 | 0, n, h => by simp at h; subst h; rfl
 | w + 1, n, h => by
  rw [Nat.pow_succ] at h
  rw [Av, HG, E9 w _ (by omega), KR _ (by omega)]; omega
theorem IP : ∀ (b : List UInt8), A3 b < 256 ^ b.length := fun b => by
 suffices ∀ n (b : List UInt8), b.length = n → A3 b < 256 ^ n from this _ b rfl
 intro n
 induction n with
 | zero => intro b hb; have := List.eq_nil_of_length_eq_zero hb; subst this; simp [A3]
 | succ n ih =>
  intro b hb
  obtain ⟨c, x, rfl⟩ : ∃ c x, b = c ++ [x] := ⟨b.dropLast, b.getLast (by intro h; simp [h] at hb), (List.dropLast_concat_getLast _).symm⟩
  have h1 := ih c (by simpa using hb)
  have h2 := x.toNat_lt
  rw [HG, Nat.pow_succ]; omega
theorem F7 : ∀ (b : List UInt8), Av b.length (A3 b) = b := fun b => by
 suffices ∀ n (b : List UInt8), b.length = n → Av n (A3 b) = b from this _ b rfl
 intro n
 induction n with
 | zero => intro b hb; have := List.eq_nil_of_length_eq_zero hb; subst this; rfl
 | succ n ih =>
  intro b hb
  obtain ⟨c, x, rfl⟩ : ∃ c x, b = c ++ [x] := ⟨b.dropLast, b.getLast (by intro h; simp [h] at hb), (List.dropLast_concat_getLast _).symm⟩
  have h1 := ih c (by simpa using hb)
  have h2 := x.toNat_lt
  rw [HG, Av, show (256 * A3 c + x.toNat) / 256 = A3 c by omega, h1, show (256 * A3 c + x.toNat) % 256 = x.toNat by omega]
  simp
theorem ZJ (a b : Nat) (h : a ≤ b) : 256 ^ a ≤ 256 ^ b := Nat.pow_le_pow_right (by omega) h
theorem Qr (b : List UInt8) (h : b.length ≤ 7) : A3 b < 72057594037927936 := Nat.lt_of_lt_of_le (IP b) (ZJ _ 7 h)
theorem SW (n : Nat) (h : n < 18446744073709551616) : IntKind.u64.wrap ((n : Int).tdiv 256) = ((n / 256 : Nat) : Int) := by
 rw [Int.tdiv_eq_ediv_of_nonneg (by omega), B9 (by simp only [Im]; omega)]; omega
theorem SX (n : Nat) (h : n < 256) : IntKind.u8.wrap (n : Int) = n := B9 (by simp only [Im]; omega)
theorem QS (n : Nat) : IntKind.u8.wrap (n : Int) = ((n % 256 : Nat) : Int) := by
 rw [show (n : Int) = 256 * ((n / 256 : Nat) : Int) + ((n % 256 : Nat) : Int) by omega]; simp [IntKind.wrap, IntKind.bits, IntKind.signed]
theorem Uk (w n : Nat) : n / 256 ^ w % 256 < 256 := Nat.mod_lt _ (by omega)
set_option maxRecDepth 10000
theorem Ep (w n : Nat) (hw : w ≤ 8) (hn : n < 18446744073709551616) : VP Tryz.prog 89 [Ar w, AW n] (· = .ret (.sl false true (AH (Av w n)))) := by
 refine VP.le ?_
 refine Am fun B => ?_
 repeat' (first | refine Al ?_ | refine Ak ?_ | refine nc ?_ ?_ | (with_reducible intro _ <;> (try (exfalso; omega))) | refine Ad ?_ | (refine nd ?_ ?_ <;> intro hg <;> first | exact xo hg | rw [hg]))
 refine Hw 5 5 1 rfl ?_
 refine BT (fun i : Nat => ⟨[(7, I .i64 i), (6, I .i64 w), (5, .row 0 0), (1, I .u64 ((n / 256 ^ i : Nat) : Int))], [.r true true 0 0 5 1 (AH (Av i n))], 1⟩) (fun i => i ≤ w) (fun i => w - i) 0 (by rw [Nat.pow_zero, Nat.div_one]; exact (AI)) (Nat.zero_le _) fun i hi => ?_
 have hm : n / 256 ^ i < 18446744073709551616 := Nat.lt_of_le_of_lt (Nat.div_le_self _ _) hn
 have hst : n / 256 ^ (i + 1) = n / 256 ^ i / 256 := by rw [Nat.pow_succ, Nat.div_div_eq_div_mul]
 have hc := HO i n
 generalize n / 256 ^ i = m at *
 have hb : vb (UInt8.ofNat (m % 256)) = .int .u8 (IntKind.u8.wrap ((m : Int).tmod 256)) := by
  rw [Ou _ (Nat.mod_lt _ (by omega)), Int.tmod_eq_emod_of_nonneg (by omega), show (m : Int) % 256 = ((m % 256 : Nat) : Int) by omega, SX _ (Nat.mod_lt _ (by omega))]
 have hl : (AH (Av i n)).length = i := by rw [AA, As]
 have hl2 := As i n
 rcases Nat.lt_or_ge i w with h | h
 ·repeat' (first | refine Al ?_ | refine Ak ?_ | refine nc ?_ ?_ | (with_reducible intro _ <;> (try (exfalso; omega))) | refine Ad ?_ | (refine nd ?_ ?_ <;> intro hg <;> first | exact xo hg | rw [hg]))
  refine AU (i + 1) (show i + 1 ≤ _ by omega) (show w - (i + 1) < w - i by omega) ?_
  rw [hc, hst, ← SW m hm]
  simp only [AH, List.map_cons, hb]
  exact (CO [(0, _, _)])
 ·repeat' (first | refine Al ?_ | refine Ak ?_ | refine nc ?_ ?_ | (with_reducible intro _ <;> (try (exfalso; omega))) | refine Ad ?_ | (refine nd ?_ ?_ <;> intro hg <;> first | exact xo hg | rw [hg]))
  rw [show w = i by omega]
  exact AP _

set_option maxRecDepth 20000
set_option maxRecDepth 10000
theorem Bc (e : Int) : VP Tryz.prog 200 [.lit (.bool true), Ar e] (· = .ret (.tup [])) := by
 refine Am fun B => ?_
 repeat' (first | refine Al ?_ | refine Ak ?_ | refine nc ?_ ?_ | (with_reducible intro _ <;> (try (exfalso; omega))) | refine Ad ?_ | (refine nd ?_ ?_ <;> intro hg <;> first | exact xo hg | rw [hg]))
 all_goals rfl
theorem Df (e : Int) : VP Tryz.prog 200 [.lit (.bool false), Ar e] (· = .panic (GB e)) := by
 refine Am fun B => ?_
 repeat' (first | refine Al ?_ | refine Ak ?_ | refine nc ?_ ?_ | (with_reducible intro _ <;> (try (exfalso; omega))) | refine Ad ?_ | (refine nd ?_ ?_ <;> intro hg <;> first | exact xo hg | rw [hg]))
 all_goals rfl
theorem Bo (c : Bool) (e : Int) : VP Tryz.prog 200 [.lit (.bool c), Ar e] (· = if c then .ret (.tup []) else .panic (GB e)) := by
 cases c with
 | true => exact Bc e
 | false => exact Df e
theorem RO (w : Int) (h : 1 ≤ w ∧ w ≤ 8) : VP Tryz.prog 201 [Ar w] (· = .ret (.lit (.bool true))) := by
 refine Am fun B => ?_
 repeat' (first | refine Al ?_ | refine Ak ?_ | refine nc ?_ ?_ | (with_reducible intro _ <;> (try (exfalso; omega))) | refine Ad ?_ | (refine nd ?_ ?_ <;> intro hg <;> first | exact xo hg | rw [hg]))
 all_goals simp; omega
theorem Xx (n x : Nat) (hn : n < 72057594037927936) (hx : x < 256) : IntKind.u64.wrap ((BitVec.ofInt IntKind.u64.bits (IntKind.u64.wrap ((n : Int) * 2 ^ min (Int.toNat 8) IntKind.u64.bits)) ||| BitVec.ofInt IntKind.u64.bits (x : Int)).toNat : Nat) = ((256 * n + x : Nat) : Int) := by
 rw [show ((n : Int) * 2 ^ min (Int.toNat 8) IntKind.u64.bits) = ((256 * n : Nat) : Int) by rw [show (2 : Int) ^ min (Int.toNat 8) IntKind.u64.bits = 256 from rfl]; omega]
 rw [show IntKind.u64.wrap ((256 * n : Nat) : Int) = ((256 * n : Nat) : Int) from B9 (by simp only [Im]; omega)]
 have h : (BitVec.ofInt IntKind.u64.bits ((256 * n : Nat) : Int) ||| BitVec.ofInt IntKind.u64.bits (x : Int)).toNat = 256 * n + x := by
  rw [BitVec.toNat_or, BitVec.ofInt_natCast, BitVec.ofInt_natCast, BitVec.toNat_ofNat, BitVec.toNat_ofNat, show (2 : Nat) ^ IntKind.u64.bits = 18446744073709551616 from rfl, Nat.mod_eq_of_lt (by omega), Nat.mod_eq_of_lt (by omega)]
  have := Nat.shiftLeft_add_eq_or_of_lt (i := 8) (b := x) (by omega) n
  rw [Nat.shiftLeft_eq, show 2 ^ 8 = 256 from rfl] at this
  rw [Nat.mul_comm 256 n, ← this]
 rw [h, B9 (by simp only [Im]; omega)]
theorem Ve (b : List UInt8) (hb : b.length ≤ 8) : VP Tryz.prog 202 [CV b] (· = .ret (AW (A3 b))) := by
 refine Am fun B => ?_
 have ha := AA b
 repeat' (first | refine Al ?_ | refine Ak ?_ | refine nc ?_ ?_ | (with_reducible intro _ <;> (try (exfalso; omega))) | refine Ad ?_ | (refine nd ?_ ?_ <;> intro hg <;> first | exact xo hg | rw [hg]))
 refine Bi 6 b (fun x => [.lit (vb x)]) (fun (i : Nat) (_ : Unit) => ⟨[(8, I .i64 i), (7, I .i64 (AH b).length), (6, .d (.sl false false (AH b))), (3, I .u64 (A3 (b.take i)))], [], 0⟩) (fun i _ => True) () (AI) trivial (fun i y x hT hi hx hx' hlt hlm hlen hdr => ?_) (fun y hT hlt hlm => ?_)
 ·have htk : A3 (b.take (i + 1)) = 256 * A3 (b.take i) + x.toNat := by rw [List.take_add_one, hx]; exact HG _ _
  have h1 := Qr (b.take i) (by simp; omega)
  have h2 := x.toNat_lt
  repeat' (first | refine Al ?_ | refine Ak ?_ | refine nc ?_ ?_ | (with_reducible intro _ <;> (try (exfalso; omega))) | refine Ad ?_ | (refine nd ?_ ?_ <;> intro hg <;> first | exact xo hg | rw [hg]))
  refine Be () hi trivial ?_
  rw [Xx _ _ h1 h2, ← htk]
  exact (AI)
 ·repeat' (first | refine Al ?_ | refine Ak ?_ | refine nc ?_ ?_ | (with_reducible intro _ <;> (try (exfalso; omega))) | refine Ad ?_ | (refine nd ?_ ?_ <;> intro hg <;> first | exact xo hg | rw [hg]))
  rw [List.take_of_length_le (Nat.le_refl _)]
theorem Wi (a b : List UInt8) (h : a.length + b.length ≤ 140737488355328) : VP Tryz.prog 176 [CV a, CV b] (· = .own 5 1 (AH (a ++ b))) := by
 refine Am fun B => ?_
 have ha := AA a
 have hb := AA b
 repeat' (first | refine Al ?_ | (refine Ay ?_; first | refine Om ?_) | refine Ak ?_ | refine nc ?_ ?_ | (with_reducible intro _ <;> (try (exfalso; omega))) | refine Ad ?_ | (refine nd ?_ ?_ <;> intro hg <;> first | exact xo hg | rw [hg]))
 all_goals simp [AH]
theorem Ri (n k : Nat) (h : k ≤ 8) : (n : Int).fdiv (2 ^ min (8 * (k : Int)).toNat IntKind.u64.bits) = ((n / 256 ^ k : Nat) : Int) := by
 rw [show min (8 * (k : Int)).toNat IntKind.u64.bits = 8 * k by rw [show IntKind.u64.bits = 64 from rfl]; omega, Int.fdiv_eq_ediv_of_nonneg _ (Int.pow_nonneg (by omega)), show (256 : Nat) = 2 ^ 8 from rfl, ← Nat.pow_mul]
 simp
theorem XV (w n : Nat) (h : w ≤ 8) : AH (Av (w + 1) n) = [.lit (.int .u8 (IntKind.u8.wrap ((n : Int).fdiv (2 ^ min (8 * (w : Int)).toNat IntKind.u64.bits))))] :: AH (Av w n) := by
 rw [HO, Ri n w h, QS]
 simp only [AH, List.map_cons, Ou _ (Uk w n)]
theorem Qy (w n : Nat) (hw : 1 ≤ w ∧ w ≤ 8) (hn : n < 256 ^ w) : VP Tryz.prog 177 [Ar w, AW n] (· = .ret (CV (Av w n))) := by
 have ci := RO w (by omega)
 have hz : (n : Int).fdiv (2 ^ min (8 * (w : Int)).toNat IntKind.u64.bits) = 0 := by rw [Ri n w hw.2, Nat.div_eq_of_lt hn]; rfl
 have c2 := Bc 112
 rw [← decide_eq_true hz] at c2
 have h8 : w = 1 ∨ w = 2 ∨ w = 3 ∨ w = 4 ∨ w = 5 ∨ w = 6 ∨ w = 7 ∨ w = 8 := by omega
 rcases h8 with rfl | rfl | rfl | rfl | rfl | rfl | rfl | rfl
 all_goals
  refine Am fun B => ?_
  repeat' (first | refine Al ?_ | (refine Ay ?_; first | refine cz (ci) ?_ | refine cz (Bc 111) ?_ | refine cz (Bc 112) ?_ | refine cz (c2) ?_) | refine Ak ?_ | refine nc ?_ ?_ | (with_reducible intro _ <;> (try (exfalso; omega))) | refine Ad ?_ | (refine nd ?_ ?_ <;> intro hg <;> first | exact xo hg | rw [hg]))
  refine AF 9 ?_
  repeat' (first | refine Al ?_ | (refine Ay ?_; first | refine AX ?_) | refine Ak ?_ | refine nc ?_ ?_ | (with_reducible intro _ <;> (try (exfalso; omega))) | refine Ad ?_ | (refine nd ?_ ?_ <;> intro hg <;> first | exact xo hg | rw [hg]))
 all_goals (show _ = R.ret (.sl false false (AH _)))
 all_goals (repeat rw [XV _ n (by omega)])
 all_goals rfl

set_option maxRecDepth 20000
set_option maxRecDepth 10000
theorem JV (b : List UInt8) (w n : Nat) (hw : 1 ≤ w ∧ w ≤ 8) (hn : n < 256 ^ w) (hb : b.length ≤ 100000000) : VP Tryz.prog 172 [CV b, Ar w, AW n] (· = .ret (.tup [.sl false true (AH (b ++ Av w n)), Ar 0])) := by
 have c1 := Qy w n hw hn
 have c2 := Wi b (Av w n) (by rw [As]; omega)
 refine Am fun B => ?_
 repeat' (first | refine Al ?_ | (refine Ay ?_; first | refine cz (c1) ?_ | refine cz (c2) ?_ | refine Ae 211 fun _ => ?_ | refine Bs (hc := AN (fd := 246) Tryz.func210 rfl Tryz.ntmps210 Tryz.results210 fun _ => ?_)) | refine Ak ?_ | refine nc ?_ ?_ | (with_reducible intro _ <;> (try (exfalso; omega))) | refine Ad ?_ | (refine nd ?_ ?_ <;> intro hg <;> first | exact xo hg | rw [hg]) | refine AR Tryz.func246 rfl Tryz.ntmps246 Tryz.results246 ?_)
 all_goals first | rfl | trace_state
theorem QK (b : List UInt8) (n : Nat) : Fv none (some (n : Int)) (AH b) = AH (b.take n) := by
 rw [GD]; simp [AH, List.map_take]
theorem Adf (b : List UInt8) (n : Nat) : Fv (some (n : Int)) none (AH b) = AH (b.drop n) := Aau _ b n
theorem Dv (f : Bool) (b : List UInt8) (w : Nat) (hw : 1 ≤ w ∧ w ≤ 8) (h : w ≤ b.length) : C6 Tryz.prog 219 1 [.ptr 0 0, .d (Ar w)] [.c 0 0 [.d (.sl false f (AH b)), .d (Ar 0)]] 1 (.ret (.d (AW (A3 (b.take w))))) [.c 0 0 [.d (.sl false f (AH (b.drop w))), .d (Ar 0)]] 1 := by
 have ci := RO w (by omega)
 have cn := Ve (b.take w) (by simp; omega)
 have hl := AA b
 have hc := QK b w
 have hd := Adf b w
 refine AJ fun B M => ?_
 repeat' (first | refine Al ?_ | (refine Ay ?_; first | refine cz (ci) ?_ | (refine AK (Bc 111) ?_; first | refine Ag (Bc 111) ?_ | refine An (Df 111) ?_ | (refine Ah (Bo _ 111) ?_ ?_ <;> intro _ <;> (try (exfalso; omega))) | (refine Ao (Bo _ 111) ?_ ?_ <;> intro _)) | (refine AK (Bc 2) ?_; first | refine Ag (Bc 2) ?_ | refine An (Df 2) ?_ | (refine Ah (Bo _ 2) ?_ ?_ <;> intro _ <;> (try (exfalso; omega))) | (refine Ao (Bo _ 2) ?_ ?_ <;> intro _)) | (refine AK (Bc 110) ?_; first | refine Ag (Bc 110) ?_ | refine An (Df 110) ?_ | (refine Ah (Bo _ 110) ?_ ?_ <;> intro _ <;> (try (exfalso; omega))) | (refine Ao (Bo _ 110) ?_ ?_ <;> intro _)) | (rw [hc]; first | refine cz (cn) ?_) | refine Ae 256 fun _ => ?_ | refine Ae 255 fun _ => ?_ | refine Ae 254 fun _ => ?_ | refine Aq ?_ | refine Bd ?_ | refine Bs (hc := AN (fd := 229) Tryz.func198 rfl Tryz.ntmps198 Tryz.results198 fun _ => ?_)) | refine Ak ?_ | refine nc ?_ ?_ | (with_reducible intro _ <;> (try (exfalso; omega))) | refine Ad ?_ | (refine nd ?_ ?_ <;> intro hg <;> first | exact xo hg | rw [hg]) | refine AR Tryz.func229 rfl Tryz.ntmps229 Tryz.results229 ?_)
 rw [hd]
 exact A4 []
theorem CG (f : Bool) (b : List UInt8) (w : Nat) (hw : 1 ≤ w ∧ w ≤ 8) (h : ¬ w ≤ b.length) : C6 Tryz.prog 219 1 [.ptr 0 0, .d (Ar w)] [.c 0 0 [.d (.sl false f (AH b)), .d (Ar 0)]] 1 (.ret (.d (AW 0))) [.c 0 0 [.d (.sl false f (AH b)), .d (Ar 110)]] 1 := by
 have ci := RO w (by omega)
 have hl := AA b
 refine AJ fun B M => ?_
 repeat' (first | refine Al ?_ | (refine Ay ?_; first | refine cz (ci) ?_ | (refine AK (Bc 111) ?_; first | refine Ag (Bc 111) ?_ | refine An (Df 111) ?_ | (refine Ah (Bo _ 111) ?_ ?_ <;> intro _ <;> (try (exfalso; omega))) | (refine Ao (Bo _ 111) ?_ ?_ <;> intro _)) | (refine AK (Bc 2) ?_; first | refine Ag (Bc 2) ?_ | refine An (Df 2) ?_ | (refine Ah (Bo _ 2) ?_ ?_ <;> intro _ <;> (try (exfalso; omega))) | (refine Ao (Bo _ 2) ?_ ?_ <;> intro _)) | (refine AK (Bc 110) ?_; first | refine Ag (Bc 110) ?_ | refine An (Df 110) ?_ | (refine Ah (Bo _ 110) ?_ ?_ <;> intro _ <;> (try (exfalso; omega))) | (refine Ao (Bo _ 110) ?_ ?_ <;> intro _)) | refine Ae 256 fun _ => ?_ | refine Ae 255 fun _ => ?_ | refine Ae 254 fun _ => ?_ | refine Aq ?_ | refine Bd ?_ | refine Bs (hc := AN (fd := 229) Tryz.func198 rfl Tryz.ntmps198 Tryz.results198 fun _ => ?_)) | refine Ak ?_ | refine nc ?_ ?_ | (with_reducible intro _ <;> (try (exfalso; omega))) | refine Ad ?_ | (refine nd ?_ ?_ <;> intro hg <;> first | exact xo hg | rw [hg]) | refine AR Tryz.func229 rfl Tryz.ntmps229 Tryz.results229 ?_)
 exact A4 []

end Go.Proofs.YtbgcjnfhadhjeaaGreat