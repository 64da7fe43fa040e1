/- Walks by data and names, part 28: Slices of an array variable: length, elements; arrays of numbers compared. Layer 21, by V: vectors. Layer 21, by V: codec's vectors. -/
import Derived.ChangeKeysEq
import Derived.Test.YtbgcjnfhadhjeaaGreatPk27
import Derived.Test.YtbgcjnfhadhjeaaGreatPk6
namespace Go.Proofs.YtbgcjnfhadhjeaaGreat
set_option maxRecDepth 20000
open Go.RowKit
section
variable {P : Program} {cx : Cx} {s : St}
theorem Xq {t ty e : TypeId} {x : Operand} {k off n cap sz sz' by_ : Nat} [hE : EU P t e sz' by_] (hx : Af s x = some (.sv k off n cap sz)) : Bn P cx (.call { callee := .builtin .len, args := #[x], argTypes := #[t] }) ty s (I .i64 (n : Int)) := fun g a w hS => by
 have h := hS.eval hx
 simp only [vrep] at h
 obtain ⟨b, _, h, _⟩ := h
 refine ⟨.int .i64 n, ?_, by simp only [vrep, drep]⟩
 simp [execOp, resolve, invoke, builtin, Builtin.len_, h, run_underlying hE.elem.und w, goInt]
theorem Ry {t ty e : TypeId} {x y : Operand} {k0 : IntKind} {i : Int} {k off n cap sz by_ : Nat} [hE : EU P t e sz by_] (hx : Af s x = some (.sv k off n cap sz)) (hy : Af s y = some (I k0 i)) (h0 : 0 ≤ i) (h1 : i < (n : Int)) : Bn P cx (.indexAddr t x y) ty s (.ptr k (off + i.toNat * sz)) := fun g a w hS => by
 have hx' := hS.eval hx
 have hy' := hS.eval hy
 simp only [vrep, drep] at hx' hy'
 obtain ⟨b, hb, hx', _⟩ := hx'
 have hadd : (⟨b, off, none⟩ : Addr).add (i.toNat * sz) = ⟨b, off + i.toNat * sz, none⟩ := by unfold Addr.add; split <;> simp_all
 refine ⟨.pointer (some ⟨b, off + i.toNat * sz, none⟩), ?_, by simp only [vrep]; exact ⟨b, hb, rfl⟩⟩
 simp [execOp, hx', hy', Instr.indexAt, asIntOf, run_underlying hE.elem.und w, Cw hE.elem, h0, h1, hadd]
class Wm (P : Program) (t : TypeId) : Prop where
 no : P.eqGuardType P.depth t = false
def uV (n : Int) : Value := .int .u64 n
def uDs : List D → Option (List Int)
 | [] => some []
 | .lit (.int .u64 n) :: r => (uDs r).map (n :: ·)
 | _ => none
def uVs : List V → Option (List Int)
 | [] => some []
 | .d (.lit (.int .u64 n)) :: r => (uVs r).map (n :: ·)
 | _ => none
def Wq : V → Option (List Int)
 | .agg l => uVs l
 | .d (.agg l) => uDs l
 | _ => none
theorem Q7 {B : Nat} {U : Nat → Prop} {w : World} : ∀ {l : List D} {r : List Int} {us : List Value}, uDs l = some r → dreps B U w l us → us = r.map uV
 | [], r, us, h, hu => by simp only [uDs, Option.some.injEq] at h; subst h; simpa only [dreps, List.map_nil] using hu
 | .lit (.int .u64 n) :: l, r, us, h, hu => by
  simp only [uDs, Option.map_eq_some_iff] at h
  obtain ⟨q, h, rfl⟩ := h
  simp only [dreps, drep] at hu
  obtain ⟨y, ys, rfl, rfl, k⟩ := hu
  rw [Q7 h k]; rfl
theorem Q6 {B : Nat} {g : G} {w : World} : ∀ {l : List V} {r : List Int} {us : List Value}, uVs l = some r → vreps B g w l us → us = r.map uV
 | [], r, us, h, hu => by simp only [uVs, Option.some.injEq] at h; subst h; simpa only [vreps, List.map_nil] using hu
 | .d (.lit (.int .u64 n)) :: l, r, us, h, hu => by
  simp only [uVs, Option.map_eq_some_iff] at h
  obtain ⟨q, h, rfl⟩ := h
  simp only [vreps, vrep, drep] at hu
  obtain ⟨y, ys, rfl, rfl, k⟩ := hu
  rw [Q6 h k]; rfl
theorem Kr {B : Nat} {g : G} {w : World} {v : V} {r : List Int} {u : Value} (h : Wq v = some r) (hu : vrep B g w v u) : u = .agg (r.map uV).toArray := by
 unfold Wq at h
 split at h
 ·simp only [vrep] at hu; obtain ⟨us, rfl, k⟩ := hu; rw [Q6 h k]
 ·simp only [vrep, drep] at hu; obtain ⟨us, rfl, k⟩ := hu; rw [Q7 h k]
 ·cases h
theorem FL {w : World} {e : TypeId} {z : List Value} [hI : Je P e .u64] [hT : Br P e false 1 z] (d : Nat) (xs ys : List Int) : ∀ (is : List Nat), (∀ i ∈ is, i < xs.length ∧ i < ys.length) →
  (Op.eqItems (d + 1) e 1 (xs.map uV).toArray (ys.map uV).toArray is).run P w = .ok (decide (∀ i ∈ is, xs[i]? = ys[i]?)) w
 | [], _ => by simp [Op.eqItems]
 | i :: is, h => by
  obtain ⟨h1, h2⟩ := h i (by simp)
  have ih := FL (w := w) (e := e) (z := z) d xs ys is (fun j hj => h j (by simp [hj]))
  have p1 : (part e (xs.map uV).toArray (i * 1)).run P w = .ok (uV xs[i]) w := Js (t := e) (sz := 1) (z := z) (by simp [h1])
  have p2 : (part e (ys.map uV).toArray (i * 1)).run P w = .ok (uV ys[i]) w := Js (t := e) (sz := 1) (z := z) (by simp [h2])
  have he : (Op.equalIn (d + 1) e (uV xs[i]) (uV ys[i])).run P w = .ok (xs[i] == ys[i]) w := by simp [Op.equalIn, uV, run_underlying hI.und]
  simp only [Op.eqItems, Sem.run_bind, p1, p2, Result.andThen_ok, he]
  by_cases hc : xs[i] = ys[i]
  ·simp [hc, ih, h1, h2]
  ·simp [hc, h1, h2]
theorem Abw {t yt ty e : TypeId} {x y : Operand} {v1 v2 : V} {xs ys : List Int} {n : Nat} {z : List Value} [hA : EE P t n e 1] [hI : Je P e .u64] [hT : Br P e false 1 z] [hG : Wm P t] (hx : Af s x = some v1) (hy : Af s y = some v2) (h1 : Wq v1 = some xs) (h2 : Wq v2 = some ys) (hl1 : xs.length = n) (hl2 : ys.length = n) :
  Bn P cx (.binOp .eql t x y yt) ty s (.d (.lit (.bool (decide (xs = ys))))) := fun g a w hS => by
 have e1 := Kr h1 (hS.eval hx)
 have e2 := Kr h2 (hS.eval hy)
 obtain ⟨hu, i, hi, hsz⟩ := hA.get
 have hc : P.cellsOf e = 1 := by simp [Program.cellsOf, hi, hsz]
 have hg := run_eqGuard_agg (P := P) (w := w) .eql t x y (xs.map uV).toArray (ys.map uV).toArray hG.no
 have hq := run_equalIn_array (P := P) w 9999 (xs.map uV).toArray (ys.map uV).toArray hu hi
 rw [hc, FL (e := e) (z := z) 9998 xs ys _ (fun j hj => by simp at hj; omega)] at hq
 have hd : (decide (∀ i ∈ List.range n, xs[i]? = ys[i]?)) = decide (xs = ys) := by
  rw [Bool.eq_iff_iff]
  simp only [List.mem_range, decide_eq_true_eq]
  constructor
  ·intro h
   apply List.ext_getElem?
   intro i
   by_cases hi : i < n
   ·exact h i hi
   ·rw [List.getElem?_eq_none (by omega), List.getElem?_eq_none (by omega)]
  ·rintro rfl _ _; rfl
 rw [hd] at hq
 have hs := run_eql_struct (P := P) (w := w) t (xs.map uV).toArray (ys.map uV).toArray
 rw [hq] at hs
 exact ⟨.bool (decide (xs = ys)), by simp [execOp, e1, e2, hg, hs], by simp only [vrep, drep]⟩
end
section
variable {P : Program} {cx : Cx} {tm : List (Nat × V)} {st : List E} {nb : Nat} {Q : VE → St → Prop} {ops rest : List Oper}
theorem Bg {d : Tmp} {t ty e : TypeId} {x : Operand} {kk off n cap sz sz' by_ : Nat} {pos : String} {af : Array Edge} [hE : EU P t e sz' by_] (k : VL P cx ops rest ⟨(d, I .i64 (n : Int)) :: tm, st, nb⟩ Q) (hx : Af ⟨tm, st, nb⟩ x = some (.sv kk off n cap sz) := by rfl) (hd : Nat.blt d cx.N = true := by rfl) :
  VL P cx ops (⟨some d, .call { callee := .builtin .len, args := #[x], argTypes := #[t] }, ty, pos, af, none⟩ :: rest) ⟨tm, st, nb⟩ Q := HV k (IB (h := Xq hx) (hd := hd))
theorem On {d : Tmp} {t ty e : TypeId} {x y : Operand} {k0 : IntKind} {i : Int} {kk off n cap sz by_ : Nat} {pos : String} {af : Array Edge} [hE : EU P t e sz by_] (k : VL P cx ops rest ⟨(d, .ptr kk (off + i.toNat * sz)) :: tm, st, nb⟩ Q) (hx : Af ⟨tm, st, nb⟩ x = some (.sv kk off n cap sz) := by rfl) (hy : Af ⟨tm, st, nb⟩ y = some (I k0 i) := by rfl)
  (h0 : 0 ≤ i := by omega) (h1 : i < (n : Int) := by omega) (hd : Nat.blt d cx.N = true := by rfl) :
  VL P cx ops (⟨some d, .indexAddr t x y, ty, pos, af, none⟩ :: rest) ⟨tm, st, nb⟩ Q := HV k (IB (h := Ry hx hy h0 h1) (hd := hd))
theorem Y6 {d : Tmp} {t yt ty e : TypeId} {x y : Operand} {v1 v2 : V} {xs ys : List Int} {n : Nat} {z : List Value} {pos : String} {af : Array Edge} {gd : Option (Nat × Bool)} [hA : EE P t n e 1] [hI : Je P e .u64] [hT : Br P e false 1 z] [hG : Wm P t] (k : VL P cx ops rest ⟨(d, .d (.lit (.bool (decide (xs = ys))))) :: tm, st, nb⟩ Q)
  (hx : Af ⟨tm, st, nb⟩ x = some v1 := by rfl) (hy : Af ⟨tm, st, nb⟩ y = some v2 := by rfl) (h1 : Wq v1 = some xs := by rfl) (h2 : Wq v2 = some ys := by rfl) (hl1 : xs.length = n := by rfl) (hl2 : ys.length = n := by rfl) (hd : Nat.blt d cx.N = true := by rfl)
  (hw : Wd ops tm gd := by first | exact trivial | exact A9 rfl rfl (by with_reducible rfl)) : VL P cx ops (⟨some d, .binOp .eql t x y yt, ty, pos, af, gd⟩ :: rest) ⟨tm, st, nb⟩ Q := HV k (IB (h := Abw hx hy h1 h2 hl1 hl2) (hd := hd) (hw := hw))
end

set_option maxRecDepth 10000
set_option maxHeartbeats 4000000
structure Vc where
 n0 : Nat
 n1 : Nat
 n2 : Nat
 n3 : Nat
 n4 : Nat
 n5 : Nat
 n6 : Nat
 n7 : Nat
 n8 : Nat
deriving DecidableEq
abbrev Hz (v : Vc) : List D := [AW v.n0, AW v.n1, AW v.n2, AW v.n3, AW v.n4, AW v.n5, AW v.n6, AW v.n7, AW v.n8]
def Og (n : Nat) : Bool := decide (n ≤ 4611686018427387904)
def D9 (v : Vc) : Bool := decide (v.n0 = 0) && Og v.n1 && Og v.n2 && Og v.n3 && Og v.n4 && Og v.n5 && Og v.n6 && Og v.n7 && Og v.n8
theorem HA (v : Vc) : D9 v = true ↔ v.n0 = 0 ∧ v.n1 ≤ 4611686018427387904 ∧ v.n2 ≤ 4611686018427387904 ∧ v.n3 ≤ 4611686018427387904 ∧ v.n4 ≤ 4611686018427387904 ∧ v.n5 ≤ 4611686018427387904 ∧ v.n6 ≤ 4611686018427387904 ∧ v.n7 ≤ 4611686018427387904 ∧ v.n8 ≤ 4611686018427387904 := by
 simp [D9, Og, and_assoc]
theorem Yn {v : Vc} (h : v.n0 = 0 ∧ v.n1 ≤ 4611686018427387904 ∧ v.n2 ≤ 4611686018427387904 ∧ v.n3 ≤ 4611686018427387904 ∧ v.n4 ≤ 4611686018427387904 ∧ v.n5 ≤ 4611686018427387904 ∧ v.n6 ≤ 4611686018427387904 ∧ v.n7 ≤ 4611686018427387904 ∧ v.n8 ≤ 4611686018427387904) : D9 v = true := (HA v).2 h
theorem Tx {v : Vc} (h : ¬ (v.n0 = 0 ∧ v.n1 ≤ 4611686018427387904 ∧ v.n2 ≤ 4611686018427387904 ∧ v.n3 ≤ 4611686018427387904 ∧ v.n4 ≤ 4611686018427387904 ∧ v.n5 ≤ 4611686018427387904 ∧ v.n6 ≤ 4611686018427387904 ∧ v.n7 ≤ 4611686018427387904 ∧ v.n8 ≤ 4611686018427387904)) : D9 v = false := by
 cases e : D9 v
 ·rfl
 ·exact (h ((HA v).1 e)).elim
theorem CK (v : Vc) : VP Tryz.prog 34 [.agg (Hz v)] (· = .ret (.lit (.bool (D9 v)))) := by
 refine Am fun B => ?_
 repeat' (first | refine Al ?_ | refine Ak ?_ | refine nc ?_ ?_ | (with_reducible intro _ <;> (try (exfalso; omega))) | refine Ad ?_ | (refine nd ?_ ?_ <;> intro hg <;> first | exact xo hg | rw [hg]))
 refine AF 10 ?_
 repeat' (first | refine Al ?_ | refine Ak ?_ | refine nc ?_ ?_ | (with_reducible intro _ <;> (try (exfalso; omega))) | refine Ad ?_ | (refine nd ?_ ?_ <;> intro hg <;> first | exact xo hg | rw [hg]))
 all_goals first | (rw [Tx (by omega)]) | (rw [Yn (by omega)]) | trace_state
theorem KQ (v : Vc) : VP Tryz.prog 42 [.agg (Hz v)] (· = .ret (Ar (if D9 v then 0 else 230))) := by
 refine Am fun B => ?_
 repeat' (first | refine Al ?_ | (refine Ay ?_; first | refine Ae 72 fun _ => ?_) | refine Ak ?_ | refine nc ?_ ?_ | (with_reducible intro _ <;> (try (exfalso; omega))) | refine Ad ?_ | (refine nd ?_ ?_ <;> intro hg <;> first | exact xo hg | rw [hg]))
 ·rw [Tx (by omega)]; rfl
 refine Oj rfl rfl rfl rfl rfl rfl rfl fun R T hOk => ?_
 refine Cm fun M2 => ?_
 repeat' (first | refine Al ?_ | refine Ak ?_ | refine nc ?_ ?_ | (with_reducible intro _ <;> (try (exfalso; omega))) | refine Ad ?_ | (refine nd ?_ ?_ <;> intro hg <;> first | exact xo hg | rw [hg]))
 refine AF 10 ?_
 repeat' (first | refine Al ?_ | (refine Ay ?_; first | refine AQ (by assumption) fun _ _ => ?_) | refine Ak ?_ | refine nc ?_ ?_ | (with_reducible intro _ <;> (try (exfalso; omega))) | refine Ad ?_ | (refine nd ?_ ?_ <;> intro hg <;> first | exact xo hg | rw [hg]))
 all_goals first | (rw [Tx (by omega)]; rfl) | (rw [Yn (by omega)]; rfl) | trace_state
def GW (v : Vc) : List UInt8 := Av 8 v.n1 ++ Av 8 v.n2 ++ Av 8 v.n3 ++ Av 8 v.n4 ++ Av 8 v.n5 ++ Av 8 v.n6 ++ Av 8 v.n7 ++ Av 8 v.n8
def Vc.in (v : Vc) : Prop := v.n0 < 18446744073709551616 ∧ v.n1 < 18446744073709551616 ∧ v.n2 < 18446744073709551616 ∧ v.n3 < 18446744073709551616 ∧ v.n4 < 18446744073709551616 ∧ v.n5 < 18446744073709551616 ∧ v.n6 < 18446744073709551616 ∧ v.n7 < 18446744073709551616 ∧ v.n8 < 18446744073709551616
theorem KO (v : Vc) (h : v.in) : VP Tryz.prog 92 [.agg (Hz v)] (· = .ret (.sl false true (AH (GW v)))) := by
 obtain ⟨h0, h1, h2, h3, h4, h5, h6, h7, h8⟩ := h
 have c1 := Ep 8 v.n1 (by omega) h1
 have c2 := Ep 8 v.n2 (by omega) h2
 have c3 := Ep 8 v.n3 (by omega) h3
 have c4 := Ep 8 v.n4 (by omega) h4
 have c5 := Ep 8 v.n5 (by omega) h5
 have c6 := Ep 8 v.n6 (by omega) h6
 have c7 := Ep 8 v.n7 (by omega) h7
 have c8 := Ep 8 v.n8 (by omega) h8
 have l1 := As 8 v.n1
 have l2 := As 8 v.n2
 have l3 := As 8 v.n3
 have l4 := As 8 v.n4
 have l5 := As 8 v.n5
 have l6 := As 8 v.n6
 have l7 := As 8 v.n7
 have l8 := As 8 v.n8
 refine VP.le ?_
 refine Am fun B => ?_
 repeat' (first | refine Al ?_ | refine Ak ?_ | refine nc ?_ ?_ | (with_reducible intro _ <;> (try (exfalso; omega))) | refine Ad ?_ | (refine nd ?_ ?_ <;> intro hg <;> first | exact xo hg | rw [hg]))
 refine Hw 3 5 1 rfl ?_
 refine AF 9 ?_
 repeat' (first | refine Al ?_ | (refine Ay ?_; first | refine cz (c1) ?_ | refine cz (c2) ?_ | refine cz (c3) ?_ | refine cz (c4) ?_ | refine cz (c5) ?_ | refine cz (c6) ?_ | refine cz (c7) ?_ | refine cz (c8) ?_) | refine Ak ?_ | refine nc ?_ ?_ | (with_reducible intro _ <;> (try (exfalso; omega))) | refine Ad ?_ | (refine nd ?_ ?_ <;> intro hg <;> first | exact xo hg | rw [hg]))
 have hv : ([] : List (List D)) ++ AH (Av 8 v.n1) ++ AH (Av 8 v.n2) ++ AH (Av 8 v.n3) ++ AH (Av 8 v.n4) ++ AH (Av 8 v.n5) ++ AH (Av 8 v.n6) ++ AH (Av 8 v.n7) ++ AH (Av 8 v.n8) = AH (GW v) := by simp [GW, AH]
 rw [hv]
 exact AP _
def J8 (b : List UInt8) : Vc := ⟨0, A3 (b.take 8), A3 ((b.take 16).drop 8), A3 ((b.take 24).drop 16), A3 ((b.take 32).drop 24), A3 ((b.take 40).drop 32), A3 ((b.take 48).drop 40), A3 ((b.take 56).drop 48), A3 ((b.take 64).drop 56)⟩
def Vc.zero : Vc := ⟨0, 0, 0, 0, 0, 0, 0, 0, 0⟩
def Cv (b : List UInt8) : Vc × Int × Int := if b.length < 64 then (.zero, 0, 110) else if D9 (J8 b) then (J8 b, 64, 0) else (.zero, 0, 290)

set_option maxRecDepth 20000
set_option maxRecDepth 10000
theorem Aa (e : Int) : VP Tryz.prog 180 [.lit (.bool true), Ar e] (· = .ret (.tup [])) := by
 refine Am fun B => ?_
 repeat' (first | refine Al ?_ | refine Ak ?_ | refine nc ?_ ?_ | (with_reducible intro _ <;> (try (exfalso; omega))) | refine Ad ?_ | (refine nd ?_ ?_ <;> intro hg <;> first | exact xo hg | rw [hg]))
 all_goals rfl
theorem Ai (e : Int) : VP Tryz.prog 180 [.lit (.bool false), Ar e] (· = .panic (GB e)) := by
 refine Am fun B => ?_
 repeat' (first | refine Al ?_ | refine Ak ?_ | refine nc ?_ ?_ | (with_reducible intro _ <;> (try (exfalso; omega))) | refine Ad ?_ | (refine nd ?_ ?_ <;> intro hg <;> first | exact xo hg | rw [hg]))
 all_goals rfl
theorem Ab (c : Bool) (e : Int) : VP Tryz.prog 180 [.lit (.bool c), Ar e] (· = if c then .ret (.tup []) else .panic (GB e)) := by
 cases c with
 | true => exact Aa e
 | false => exact Ai e
theorem Sf (v : Vc) (h : v.in) : VP Tryz.prog 189 [.agg (Hz v)] (· = .ret (.tup [.sl false true (AH (if D9 v then GW v else [])), Ar (if D9 v then 0 else 230)])) := by
 obtain ⟨h0, h1, h2, h3, h4, h5, h6, h7, h8⟩ := h
 have cc := KQ v
 refine VP.le ?_
 cases hv : D9 v with
 | false =>
  rw [hv] at cc
  simp only [Bool.false_eq_true, if_false] at cc ⊢
  refine Am fun B => ?_
  repeat' (first | refine Al ?_ | (refine Ay ?_; first | refine cz (cc) ?_ | (refine AK (Aa 230) ?_; first | refine Ag (Aa 230) ?_ | refine An (Ai 230) ?_ | (refine Ah (Ab _ 230) ?_ ?_ <;> intro _ <;> (try (exfalso; omega))) | (refine Ao (Ab _ 230) ?_ ?_ <;> intro _)) | refine Ae 178 fun _ => ?_ | refine Ae 213 fun _ => ?_ | refine Ae 224 fun _ => ?_ | refine Bs (hc := AN (fd := 247) Tryz.func212 rfl Tryz.ntmps212 Tryz.results212 fun _ => ?_)) | refine Ak ?_ | refine nc ?_ ?_ | (with_reducible intro _ <;> (try (exfalso; omega))) | refine Ad ?_ | (refine nd ?_ ?_ <;> intro hg <;> first | exact xo hg | rw [hg]) | refine AR Tryz.func247 rfl Tryz.ntmps247 Tryz.results247 ?_)
  all_goals (simp only [AH, List.map_nil, HN]; infer_instance)
 | true =>
  rw [hv] at cc
  simp only [if_true] at cc ⊢
  have c1 := JV [] 8 v.n1 (by omega) (by simpa using h1) (by simp)
  have c2 := JV ([] ++ Av 8 v.n1) 8 v.n2 (by omega) (by simpa using h2) (by simp [As])
  have c3 := JV ([] ++ Av 8 v.n1 ++ Av 8 v.n2) 8 v.n3 (by omega) (by simpa using h3) (by simp [As])
  have c4 := JV ([] ++ Av 8 v.n1 ++ Av 8 v.n2 ++ Av 8 v.n3) 8 v.n4 (by omega) (by simpa using h4) (by simp [As])
  have c5 := JV ([] ++ Av 8 v.n1 ++ Av 8 v.n2 ++ Av 8 v.n3 ++ Av 8 v.n4) 8 v.n5 (by omega) (by simpa using h5) (by simp [As])
  have c6 := JV ([] ++ Av 8 v.n1 ++ Av 8 v.n2 ++ Av 8 v.n3 ++ Av 8 v.n4 ++ Av 8 v.n5) 8 v.n6 (by omega) (by simpa using h6) (by simp [As])
  have c7 := JV ([] ++ Av 8 v.n1 ++ Av 8 v.n2 ++ Av 8 v.n3 ++ Av 8 v.n4 ++ Av 8 v.n5 ++ Av 8 v.n6) 8 v.n7 (by omega) (by simpa using h7) (by simp [As])
  have c8 := JV ([] ++ Av 8 v.n1 ++ Av 8 v.n2 ++ Av 8 v.n3 ++ Av 8 v.n4 ++ Av 8 v.n5 ++ Av 8 v.n6 ++ Av 8 v.n7) 8 v.n8 (by omega) (by simpa using h8) (by simp [As])
  simp only [CV, show AH ([] : List UInt8) = [] from rfl] at c1
  rw [show ((8 : Nat) : Int) = 8 from rfl] at c1 c2 c3 c4 c5 c6 c7 c8
  simp only [GW]
  generalize Av 8 v.n1 = L1 at *
  generalize Av 8 v.n2 = L2 at *
  generalize Av 8 v.n3 = L3 at *
  generalize Av 8 v.n4 = L4 at *
  generalize Av 8 v.n5 = L5 at *
  generalize Av 8 v.n6 = L6 at *
  generalize Av 8 v.n7 = L7 at *
  generalize Av 8 v.n8 = L8 at *
  refine Am fun B => ?_
  repeat' (first | refine Al ?_ | (refine Ay ?_; first | refine cz (cc) ?_ | (refine AK (Aa 230) ?_; first | refine Ag (Aa 230) ?_ | refine An (Ai 230) ?_ | (refine Ah (Ab _ 230) ?_ ?_ <;> intro _ <;> (try (exfalso; omega))) | (refine Ao (Ab _ 230) ?_ ?_ <;> intro _)) | refine Ae 178 fun _ => ?_ | refine Ae 213 fun _ => ?_ | refine Ae 224 fun _ => ?_ | refine AX ?_ | refine Bg ?_ | refine Bs (hc := AN (fd := 247) Tryz.func212 rfl Tryz.ntmps212 Tryz.results212 fun _ => ?_)) | refine Ak ?_ | refine nc ?_ ?_ | (with_reducible intro _ <;> (try (exfalso; omega))) | refine Ad ?_ | (refine nd ?_ ?_ <;> intro hg <;> first | exact xo hg | rw [hg]) | refine AR Tryz.func247 rfl Tryz.ntmps247 Tryz.results247 ?_)
  refine AF 9 ?_
  repeat' (first | refine Al ?_ | (refine Ay ?_; first | refine On ?_ | refine Ae 181 fun _ => ?_ | refine cz (c1) ?_ | refine cz (c2) ?_ | refine cz (c3) ?_ | refine cz (c4) ?_ | refine cz (c5) ?_ | refine cz (c6) ?_ | refine cz (c7) ?_ | refine cz (c8) ?_ | (refine AK (Aa 0) ?_; first | refine Ag (Aa 0) ?_ | refine An (Ai 0) ?_ | (refine Ah (Ab _ 0) ?_ ?_ <;> intro _ <;> (try (exfalso; omega))) | (refine Ao (Ab _ 0) ?_ ?_ <;> intro _))) | refine Ak ?_ | refine nc ?_ ?_ | (with_reducible intro _ <;> (try (exfalso; omega))) | refine Ad ?_ | (refine nd ?_ ?_ <;> intro hg <;> first | exact xo hg | rw [hg]) | refine AR Tryz.func247 rfl Tryz.ntmps247 Tryz.results247 ?_)
  have hv : AH ([] ++ L1 ++ L2 ++ L3 ++ L4 ++ L5 ++ L6 ++ L7 ++ L8) = AH (L1 ++ L2 ++ L3 ++ L4 ++ L5 ++ L6 ++ L7 ++ L8) := by rw [List.nil_append]
  rw [hv]
  exact AP _

set_option maxRecDepth 20000
section
variable {B : Nat} {U : Nat → Prop} {w : World}
theorem LM : ∀ {vs cs : List Value}, dreps B U w (vs.map .lit) cs → cs = vs
 | [], _, h => by simpa only [List.map_nil, dreps] using h
 | v :: vs, _, h => by
  simp only [List.map_cons, dreps, drep] at h
  obtain ⟨y, ys, rfl, rfl, k⟩ := h
  rw [LM k]
theorem JY {α : Type} (g : α → List Value) : ∀ {L : List α} {cs : List Value}, drepss B U w (L.map fun x => (g x).map .lit) cs → cs = L.flatMap g
 | [], _, h => by simpa only [List.map_nil, drepss, List.flatMap_nil] using h
 | x :: L, _, h => by
  simp only [List.map_cons, drepss] at h
  obtain ⟨c1, c2, rfl, k1, k2⟩ := h
  rw [LM k1, JY g k2, List.flatMap_cons]
theorem H9 : ∀ (vs : List Value), dreps B U w (vs.map .lit) vs
 | [] => by simp only [List.map_nil, dreps]
 | v :: vs => by simp only [List.map_cons, dreps, drep]; exact ⟨v, vs, rfl, rfl, H9 vs⟩
theorem Hk {α : Type} (g : α → List Value) : ∀ (L : List α), drepss B U w (L.map fun x => (g x).map .lit) (L.flatMap g)
 | [] => by simp only [List.map_nil, drepss, List.flatMap_nil]
 | x :: L => by simp only [List.map_cons, drepss, List.flatMap_cons]; exact ⟨_, _, rfl, H9 _, Hk g L⟩
theorem RW {α : Type} (g : α → List Value) {c f : Bool} {L : List α} {u : Value} (h : drep B U w (.sl c f (L.map fun x => (g x).map .lit)) u) : C8 w u L.length (L.flatMap g) := by
 simp only [drep] at h
 obtain ⟨a, cap, cs, e1, e2, e3, _, e5, _, _, e7, e8⟩ := h
 rw [List.length_map] at e1 e2
 rw [JY g e8] at e7
 exact ⟨a, cap, e1, e2, e3, e5, fun j u hj => by
  obtain ⟨b, o, h1, _, h3⟩ := e7 j u hj
  exact ⟨b, o, h1, h3⟩⟩
end
theorem MB {P : Program} {f : FuncId} {ds : List D} {r : R} (hrun : ∀ args w, (callFunc f args).run P w = .ok (.enter f args) w)
  (h : ∀ (U : Nat → Prop) (w : World) (us : List Value), dreps w.heap.size U w ds us → Calls P f us.toArray w fun e w' => Below w.heap.size w w' ∧ PW w.heap.size (fun b => U b ∨ w.heap.size ≤ b) w' r e) : VP P f ds (· = r) :=
 ⟨hrun, fun U w us hu => (h U w us hu).mono fun _ _ ⟨h1, h2⟩ => ⟨h1, r, rfl, h2⟩⟩

end Go.Proofs.YtbgcjnfhadhjeaaGreat