/- Walks by data and names, part 14: Slices of arrays: of a variable's own, and of cells that nobody writes to. Strings of bytes. Structs of numbers compared. -/
import Derived.Laws.BytesArg
import Derived.Laws.IdiomStrings
import Derived.Laws.Strings
import Derived.StillTailTactics
import Derived.Deep.RegionHeld3
import Derived.Test.YtbgcjnfhadhjeaaGreatPk13
import Derived.Test.YtbgcjnfhadhjeaaGreatPk4
import Derived.Test.YtbgcjnfhadhjeaaGreatPk1
namespace Go.Proofs.YtbgcjnfhadhjeaaGreat
set_option maxRecDepth 20000
open Go.RowKit
section
variable {P : Program} {cx : Cx} {s : St}
theorem IF {w : World} {t e n sz b o : Nat} [hA : EE P t n e sz] : (Instr.sliceAt t (.pointer (some ⟨b, o, none⟩)) none none none).run P w = .ok (.slice (some ⟨b, o, none⟩) n n) w := by
 obtain ⟨h1, i, h2, h3⟩ := hA.get
 have hs : (sizeOf e).run P w = .ok sz w := by simp [sizeOf, typeInfo, h2, h3]
 have hb : (Instr.sliceBounds false n n none none none).run P w = .ok (0, n, n) w := by simp [Instr.sliceBounds]
 have ha : (⟨b, o, none⟩ : Addr).add 0 = ⟨b, o, none⟩ := by simp [Addr.add]
 simp [Instr.sliceAt, run_underlying h1, Instr.sureAddr, hb, hs, ha]
theorem Lb {t ty e : TypeId} {x : Operand} {k off n sz : Nat} [hA : EE P t n e sz] (hx : Af s x = some (.ptr k off)) (hn : Nat.ble n 9223372036854775807 = true) : Bn P cx (.slice t x none none none) ty s (.sv k off n n sz) := fun g a w hS => by
 have h := hS.eval hx
 simp only [vrep] at h
 obtain ⟨b, hb, hu⟩ := h
 refine ⟨.slice (some ⟨b, off, none⟩) n n, ?_, by simp only [vrep]; exact ⟨b, hb, rfl, Nat.le_refl _, Nat.le_of_ble_eq_true hn⟩⟩
 simp [execOp, hu, IF (P := P) (t := t) (n := n) (e := e) (sz := sz)]
theorem Lc {t ty e : TypeId} {x : Operand} {n sz : Nat} {l : List D} [hA : EE P t n e sz] (hx : Af s x = some (.ep l)) (hl : l.length = n * sz) (h1 : BH (l.map .d) = true) (hn : Nat.ble n 9223372036854775807 = true) : Bn P cx (.slice t x none none none) ty s (.d (.sl false false (Ia sz n l))) := fun g a w hS => by
 have h := hS.eval hx
 simp only [vrep] at h
 obtain ⟨b, o, cs, hu, k1, k2⟩ := h
 obtain ⟨m1, m2⟩ := GC hl k2
 refine ⟨.slice (some ⟨b, o, none⟩) n n, ?_, ?_⟩
 ·simp [execOp, hu, IF (P := P) (t := t) (n := n) (e := e) (sz := sz)]
 ·simp only [vrep, drep]
  exact ⟨_, n, cs, by rw [Gg], by rw [Gg]; exact Nat.le_refl _, Nat.le_of_ble_eq_true hn, (fun h => by cases h), (fun h => by cases h), ⟨sz, m2⟩, Ek h1 (Hy k2), k1.imp fun _ hb => ⟨hb, fun h => by cases h⟩, m1⟩
end

abbrev Bl (b : List UInt8) : Value := .string ⟨b.toArray⟩
inductive BsV : V → List UInt8 → Prop where
 | sl {c f : Bool} {b : List UInt8} : BsV (.d (.sl c f (b.map fun x => [.lit (vb x)]))) b
 | nil : BsV (.d (.lit (.slice none 0 0))) []
section
variable {P : Program} {cx : Cx} {s : St}
theorem I5 {B : Nat} {U : Nat → Prop} {w : World} : ∀ {b : List UInt8} {cs : List Value}, drepss B U w (b.map fun x => [.lit (vb x)]) cs → cs = b.map vb
 | [], _, h => by simpa only [List.map_nil, drepss] using h
 | x :: b, _, h => by
  simp only [List.map_cons, drepss, dreps, drep] at h
  obtain ⟨c1, c2, rfl, ⟨y, ys, rfl, rfl, rfl⟩, h2⟩ := h
  rw [I5 h2]; rfl
theorem Qo {t1 t2 ty e : TypeId} {by_ : Nat} {x : Operand} {v : V} {b : List UInt8} [hE : EU P t1 e 1 by_] [hI : Je P e .u8] [hS2 : Adi P t2] (hx : Af s x = some v) (hb : BsV v b) : Bn P cx (.convert t1 t2 x) ty s (.d (.lit (Bl b))) := fun g a w hS => by
 have h := hS.eval hx
 refine ⟨Bl b, ?_, by simp only [vrep, drep]⟩
 cases hb with
 | nil =>
  simp only [vrep, drep] at h
  simp only [execOp, h, Sem.run_bind]
  have := run_convert_bytes_nil w t1 e hE.elem.und hI.und 0 0 t2 hS2.und
  rw [this]; rfl
 | sl =>
  rename_i c f
  simp only [vrep, drep] at h
  obtain ⟨ad, cap, cs, e1, e2, e3, e4, e5, _, _, e7, e8⟩ := h
  have hcs := I5 e8
  subst hcs
  simp only [execOp, e1, Sem.run_bind, List.length_map]
  cases ad with
  | none =>
   have hz : b = [] := by
    have := e5 rfl
    rw [List.length_map] at e2
    exact List.length_eq_zero_iff.1 (by omega)
   subst hz
   have := run_convert_bytes_nil w t1 e hE.elem.und hI.und 0 cap t2 hS2.und
   simp only [List.length_nil]
   rw [this]; rfl
  | some ad =>
   have := run_convert_bytes_back (P := P) w t1 t2 e ad cap b hE.elem.und hI.und hS2.und fun j hj => by
    obtain ⟨bk, o, k1, _, k3⟩ := e7 j (vb b[j]) (by simp [hj])
    cases k1
    have he : (⟨bk, o, none⟩ : Addr).add j = ⟨bk, o + j, none⟩ := by unfold Addr.add; split <;> simp_all
    rw [he]; exact k3
   rw [this]; rfl
theorem OV {t yt ty : TypeId} {x y : Operand} {a b : List UInt8} (hx : Af s x = some (.d (.lit (Bl a)))) (hy : Af s y = some (.d (.lit (Bl b)))) : Bn P cx (.binOp .eql t x y yt) ty s (.d (.lit (.bool (decide (a = b))))) := by
 refine Fy hx hy fun w => ?_
 simp only [eqGuard, binOp, Sem.run_bind, Sem.run_pure, Op.stringOp]
 have : ((⟨a.toArray⟩ : ByteArray).toList == (⟨b.toArray⟩ : ByteArray).toList) = decide (a = b) := by
  rw [ByteArray.toList_mk, ByteArray.toList_mk, Bool.eq_iff_iff]
  simp
 simp []
 rw [Bool.eq_iff_iff]; simp
theorem UD {t yt ty : TypeId} {x y : Operand} {a b : List UInt8} (hx : Af s x = some (.d (.lit (Bl a)))) (hy : Af s y = some (.d (.lit (Bl b)))) : Bn P cx (.binOp .neq t x y yt) ty s (.d (.lit (.bool (decide (a ≠ b))))) := by
 refine Fy hx hy fun w => ?_
 simp only [eqGuard, binOp, Sem.run_bind, Sem.run_pure, Op.stringOp]
 have : ((⟨a.toArray⟩ : ByteArray).toList == (⟨b.toArray⟩ : ByteArray).toList) = decide (a = b) := by
  rw [ByteArray.toList_mk, ByteArray.toList_mk, Bool.eq_iff_iff]
  simp
 simp []
 rw [Bool.eq_iff_iff]; simp
theorem Qk {t yt ty : TypeId} {x y : Operand} {a b : List UInt8} (hx : Af s x = some (.d (.lit (Bl a)))) (hy : Af s y = some (.d (.lit (Bl b)))) (h : decide (a = b) = true) : Bn P cx (.binOp .eql t x y yt) ty s (.d (.lit (.bool true))) := by
 rw [← h]; exact OV hx hy
theorem Ql {t yt ty : TypeId} {x y : Operand} {a b : List UInt8} (hx : Af s x = some (.d (.lit (Bl a)))) (hy : Af s y = some (.d (.lit (Bl b)))) (h : decide (a = b) = false) : Bn P cx (.binOp .eql t x y yt) ty s (.d (.lit (.bool false))) := by
 rw [← h]; exact OV hx hy
end

def N4 (P : Program) : Nat → List Field → Bool
 | _, [] => true
 | o, f :: fs => f.name != "_" && f.offset == o && (match P.underlying f.type with | some (.int _) => true | _ => false) && N4 P (o + 1) fs
class J6 (P : Program) (t : TypeId) (n : outParam Nat) : Prop where
 und : P.underlying t = some (.struct (P.fieldsOf t))
 held : P.stoodInHeld t = false
 no : P.eqGuardType P.depth t = false
 fs : N4 P 0 (P.fieldsOf t).toList = true
 len : (P.fieldsOf t).toList.length = n
def Fu (x : IntKind × Int) : Value := .int x.1 x.2
def iDs : List D → Option (List (IntKind × Int))
 | [] => some []
 | .lit (.int k n) :: r => (iDs r).map ((k, n) :: ·)
 | _ => none
def iVs : List V → Option (List (IntKind × Int))
 | [] => some []
 | .d (.lit (.int k n)) :: r => (iVs r).map ((k, n) :: ·)
 | _ => none
def Wr : V → Option (List (IntKind × Int))
 | .agg l => iVs l
 | .d (.agg l) => iDs l
 | _ => none
theorem RZ {B : Nat} {U : Nat → Prop} {w : World} : ∀ {l : List D} {r : List (IntKind × Int)} {us : List Value}, iDs l = some r → dreps B U w l us → us = r.map Fu
 | [], r, us, h, hu => by simp only [iDs, Option.some.injEq] at h; subst h; simpa only [dreps, List.map_nil] using hu
 | .lit (.int k n) :: l, r, us, h, hu => by
  simp only [iDs, Option.map_eq_some_iff] at h
  obtain ⟨q, h, rfl⟩ := h
  simp only [dreps, drep] at hu
  obtain ⟨y, ys, rfl, rfl, k⟩ := hu
  rw [RZ h k]; rfl
theorem RY {B : Nat} {g : G} {w : World} : ∀ {l : List V} {r : List (IntKind × Int)} {us : List Value}, iVs l = some r → vreps B g w l us → us = r.map Fu
 | [], r, us, h, hu => by simp only [iVs, Option.some.injEq] at h; subst h; simpa only [vreps, List.map_nil] using hu
 | .d (.lit (.int k n)) :: l, r, us, h, hu => by
  simp only [iVs, Option.map_eq_some_iff] at h
  obtain ⟨q, h, rfl⟩ := h
  simp only [vreps, vrep, drep] at hu
  obtain ⟨y, ys, rfl, rfl, k⟩ := hu
  rw [RY h k]; rfl
theorem KC {B : Nat} {g : G} {w : World} {v : V} {r : List (IntKind × Int)} {u : Value} (h : Wr v = some r) (hu : vrep B g w v u) : u = .agg (r.map Fu).toArray := by
 unfold Wr at h
 split at h
 ·simp only [vrep] at hu; obtain ⟨us, rfl, k⟩ := hu; rw [RY h k]
 ·simp only [vrep, drep] at hu; obtain ⟨us, rfl, k⟩ := hu; rw [RZ h k]
 ·cases h
theorem Fx {P : Program} {w : World} (d : Nat) (X Y : List Value) : ∀ (fs : List Field) (o : Nat) (xs ys : List (IntKind × Int)), N4 P o fs = true → X.drop o = xs.map Fu → Y.drop o = ys.map Fu → xs.map (·.1) = ys.map (·.1) → xs.length = fs.length →
  (Op.eqFields (d + 1) X.toArray Y.toArray fs).run P w = .ok (decide (xs.map (·.2) = ys.map (·.2))) w
 | [], o, xs, ys, _, _, _, hk, hl => by
  have h1 : xs = [] := List.eq_nil_of_length_eq_zero hl
  subst h1
  have h2 : ys = [] := by cases ys; rfl; simp at hk
  subst h2
  simp [Op.eqFields]
 | f :: fs, o, [], ys, _, _, _, _, hl => by simp at hl
 | f :: fs, o, x :: xs, [], _, _, _, hk, _ => by simp at hk
 | f :: fs, o, x :: xs, y :: ys, hf, hX, hY, hk, hl => by
  simp only [N4, Bool.and_eq_true, beq_iff_eq, bne_iff_ne, ne_eq] at hf
  obtain ⟨⟨⟨hn, ho⟩, hu⟩, hr⟩ := hf
  have hu : ∃ k, P.underlying f.type = some (.int k) := by
   split at hu
   ·exact ⟨_, by assumption⟩
   ·cases hu
  obtain ⟨k, hu⟩ := hu
  have get {Z : List Value} {z : IntKind × Int} {zs : List (IntKind × Int)} (h : Z.drop o = (z :: zs).map Fu) : Z[o]? = some (Fu z) ∧ Z.drop (o + 1) = zs.map Fu := by
   have h0 := congrArg (fun l => l[0]?) h
   have h1 := congrArg (fun l => l.drop 1) h
   simp at h0 h1
   exact ⟨h0, by simpa using h1⟩
  obtain ⟨x0, hX1⟩ := get hX
  obtain ⟨y0, hY1⟩ := get hY
  have hp : P.plainKey f.type = true := by simp [Program.plainKey, hu]
  have p1 : (part f.type X.toArray f.offset).run P w = .ok (Fu x) w := run_part_plain w hp (by rw [ho]; simpa using x0)
  have p2 : (part f.type Y.toArray f.offset).run P w = .ok (Fu y) w := run_part_plain w hp (by rw [ho]; simpa using y0)
  obtain ⟨kx, a⟩ := x
  obtain ⟨ky, b⟩ := y
  simp only [List.map_cons, List.cons.injEq] at hk
  obtain ⟨e, hk⟩ := hk
  have e : kx = ky := e
  subst e
  have he : (Op.equalIn (d + 1) f.type (Fu (kx, a)) (Fu (kx, b))).run P w = .ok (a == b) w := run_equalIn_int w d f.type kx k a b hu
  have ih := Fx (w := w) d X Y fs (o + 1) xs ys hr hX1 hY1 hk (by simpa using hl)
  simp only [Op.eqFields, hn, ne_eq, not_false_eq_true, if_true, Sem.run_bind, p1, p2, Result.andThen_ok, he, List.map_cons, List.cons.injEq]
  by_cases hc : a = b
  ·simp only [hc, beq_self_eq_true, Bool.not_true, Bool.false_eq_true, if_false, ih, true_and]
  ·simp [hc]
section
variable {P : Program} {cx : Cx} {s : St}
theorem OL {w : World} {t : TypeId} {n : Nat} [hF : J6 P t n] {xs ys : List (IntKind × Int)} (hk : xs.map (·.1) = ys.map (·.1)) (hl : xs.length = n) :
  (Op.equalIn 10000 t (.agg (xs.map Fu).toArray) (.agg (ys.map Fu).toArray)).run P w = .ok (decide (xs.map (·.2) = ys.map (·.2))) w := by
 rw [run_equalIn_struct w 9999 t _ _ hF.und hF.held]
 exact Fx 9998 _ _ _ 0 xs ys hF.fs (by simp) (by simp) hk (by rw [hl, hF.len])
theorem UP {t yt ty : TypeId} {x y : Operand} {v1 v2 : V} {xs ys : List (IntKind × Int)} {n : Nat} {r : Bool} [hF : J6 P t n] (hx : Af s x = some v1) (hy : Af s y = some v2) (h1 : Wr v1 = some xs) (h2 : Wr v2 = some ys) (hk : xs.map (·.1) = ys.map (·.1)) (hl : xs.length = n) (hr : decide (xs.map (·.2) = ys.map (·.2)) = r) :
  Bn P cx (.binOp .eql t x y yt) ty s (.d (.lit (.bool r))) := fun g a w hS => by
 have e1 := KC h1 (hS.eval hx)
 have e2 := KC h2 (hS.eval hy)
 have hg := run_eqGuard_agg (P := P) (w := w) .eql t x y (xs.map Fu).toArray (ys.map Fu).toArray hF.no
 have hs := run_eql_struct (P := P) (w := w) t (xs.map Fu).toArray (ys.map Fu).toArray
 rw [OL (w := w) hk hl, hr] at hs
 exact ⟨.bool r, by simp [execOp, e1, e2, hg, hs], by simp only [vrep, drep]⟩
theorem OU {t yt ty : TypeId} {x y : Operand} {v1 v2 : V} {xs ys : List (IntKind × Int)} {n : Nat} {r : Bool} [hF : J6 P t n] (hx : Af s x = some v1) (hy : Af s y = some v2) (h1 : Wr v1 = some xs) (h2 : Wr v2 = some ys) (hk : xs.map (·.1) = ys.map (·.1)) (hl : xs.length = n) (hr : decide (xs.map (·.2) = ys.map (·.2)) = r) :
  Bn P cx (.binOp .neq t x y yt) ty s (.d (.lit (.bool (!r)))) := fun g a w hS => by
 have e1 := KC h1 (hS.eval hx)
 have e2 := KC h2 (hS.eval hy)
 have hg := run_eqGuard_agg (P := P) (w := w) .neq t x y (xs.map Fu).toArray (ys.map Fu).toArray hF.no
 have hs := run_neq_struct (P := P) (w := w) t (xs.map Fu).toArray (ys.map Fu).toArray
 rw [OL (w := w) hk hl, hr] at hs
 exact ⟨.bool (!r), by simp [execOp, e1, e2, hg, hs], by simp only [vrep, drep]⟩
theorem P9 {t yt ty : TypeId} {x y : Operand} {v1 v2 : V} {xs ys : List (IntKind × Int)} {n : Nat} [hF : J6 P t n] (hx : Af s x = some v1) (hy : Af s y = some v2) (h1 : Wr v1 = some xs) (h2 : Wr v2 = some ys) (hk : xs.map (·.1) = ys.map (·.1)) (hl : xs.length = n) (hr : decide (xs.map (·.2) = ys.map (·.2)) = true) :
  Bn P cx (.binOp .neq t x y yt) ty s (.d (.lit (.bool false))) := OU hx hy h1 h2 hk hl hr
theorem Qa {t yt ty : TypeId} {x y : Operand} {v1 v2 : V} {xs ys : List (IntKind × Int)} {n : Nat} [hF : J6 P t n] (hx : Af s x = some v1) (hy : Af s y = some v2) (h1 : Wr v1 = some xs) (h2 : Wr v2 = some ys) (hk : xs.map (·.1) = ys.map (·.1)) (hl : xs.length = n) (hr : decide (xs.map (·.2) = ys.map (·.2)) = false) :
  Bn P cx (.binOp .neq t x y yt) ty s (.d (.lit (.bool true))) := OU hx hy h1 h2 hk hl hr
end

section
variable {P : Program} {cx : Cx} {tm : List (Nat × V)} {st : List E} {nb : Nat} {s : St} {Q : VE → St → Prop} {ops rest : List Oper}
section
variable {ty t y : TypeId} {x z : Operand} {v : V}
theorem U0 (h : Bn P cx (.load t x) ty s v) : Bn P cx (.load t x) ty s v := h
theorem Qq {b : BinOp} (h : Bn P cx (.binOp b t x z y) ty s v) : Bn P cx (.binOp b t x z y) ty s v := h
theorem U2 {i : Nat} (h : Bn P cx (.fieldAddr t x i) ty s v) : Bn P cx (.fieldAddr t x i) ty s v := h
theorem UY {b : UnOp} (h : Bn P cx (.unOp b t x) ty s v) : Bn P cx (.unOp b t x) ty s v := h
theorem Qp (h : Bn P cx (.nilCheck x) ty s v) : Bn P cx (.nilCheck x) ty s v := h
theorem U1 (h : Bn P cx (.indexAddr t x z) ty s v) : Bn P cx (.indexAddr t x z) ty s v := h
theorem NN {c : Call} (h : Bn P cx (.call c) ty s v) : Bn P cx (.call c) ty s v := h
theorem UZ {a b c : Option Operand} (h : Bn P cx (.slice t x a b c) ty s v) : Bn P cx (.slice t x a b c) ty s v := h
end
theorem QZ (h : VL P cx ops rest s Q) : VL P cx ops rest s Q := h
theorem Zi {t ty e : TypeId} {x y : Operand} {k ver sz by_ : Nat} {l l2 : List (List D)} {nw : Bool} {v2 : V} [hE : EU P t e sz by_] (hx : Af ⟨tm, st, nb⟩ x = some (.row k ver)) (hr : AB k st = some (true, nw, ver, e, sz, l)) (hy : Af ⟨tm, st, nb⟩ y = some v2) (hsrc : H0 st sz v2 l2)
  (hb : (l.length + l2.length) * by_ ≤ 140737488355328) (h0 : 0 < by_) : YX P cx (.call { callee := .builtin .append, args := #[x, y], argTypes := #[t, t] }) ty ⟨tm, st, nb⟩ (.row k (ver + 1)) (.r true nw k (ver + 1) e sz (l ++ l2) :: st) nb := Abd hx hr hy hsrc hb h0
theorem WS {t t2 ty e : TypeId} {x y : Operand} {k ver by_ : Nat} {nw : Bool} {l l2 : List (List D)} {v2 : V} [hE : EU P t e 1 by_] (hx : Af ⟨tm, st, nb⟩ x = some (.row k ver)) (hr : AB k st = some (true, nw, ver, e, 1, l)) (hy : Af ⟨tm, st, nb⟩ y = some v2) (hsrc : H0 st 1 v2 l2) (hl : l2.length = l.length) :
  YX P cx (.call { callee := .builtin .copy, args := #[x, y], argTypes := #[t, t2] }) ty ⟨tm, st, nb⟩ (I .i64 (l2.length : Int)) (.r true nw k ver e 1 l2 :: st) nb := Zh hx hr hy hsrc hl
theorem MD {t ty e : TypeId} {x y : Operand} {k ver sz i j n : Nat} {ag nw : Bool} {z : List Value} {l : List (List D)} {cs : List D} {v : V} {vs : List V} {d : D} [hT : Br P t ag n z] (hx : Af ⟨tm, st, nb⟩ x = some (.rp k ver sz i j)) (hr : AB k st = some (true, nw, ver, e, sz, l)) (hl : l[i]? = some cs) (hy : Af ⟨tm, st, nb⟩ y = some v) (hd : Fw st v = some d) (hv : Bm (.d d) = some vs) (h1 : (BH vs && Nat.beq vs.length n) = true) (hj : Nat.ble (j + n) sz = true) :
  YY P cx (.store t x y) ty ⟨tm, st, nb⟩ (.r true nw k ver e sz (l.set i (DD cs j (AT d))) :: st) nb := TF hx hr hl hy hd hv h1 hj
theorem FT {t ty : TypeId} {x y : Operand} {k off sz : Nat} {ag : Bool} {z : List Value} {v : V} {vs old : List V} [hT : Br P t ag (sz + 1) z] (hx : Af ⟨tm, st, nb⟩ x = some (.ptr k off)) (hy : Af ⟨tm, st, nb⟩ y = some v) (hv : Bm v = some vs) (hl : vs.length = sz + 1) (h1 : BH vs = true) (hold : AM k off st (sz + 1) = some old) :
  YY P cx (.store t x y) ty ⟨tm, st, nb⟩ (.c k off vs :: st) nb := WU hx hy hv hl h1 hold
theorem WD {op : Op} {ty : TypeId} {pos : String} {af : Array Edge} {gd : Option (Nat × Bool)} {st' : List E} {nb' : Nat} (k : VL P cx ops rest ⟨tm, st', nb'⟩ Q)
  (h : YY P cx op ty ⟨tm, st, nb⟩ st' nb' := by
   first
    | ((with_reducible apply FT) <;> rfl)
    | ((with_reducible apply MD); rfl; rfl; (first | rfl | assumption); rfl; rfl; rfl; rfl; rfl))
  (hw : Wd ops tm gd := by first | exact trivial | exact A9 rfl rfl (by with_reducible rfl)) (hn : BG op = true := by rfl) : VL P cx ops (⟨none, op, ty, pos, af, gd⟩ :: rest) ⟨tm, st, nb⟩ Q := Za h hw hn k
theorem AcM {d : Option Tmp} {op : Op} {ty : TypeId} {pos : String} {af : Array Edge} {gd : Option (Nat × Bool)} {v : V} (k : Q (.panic v) ⟨tm, st, nb⟩)
  (h : OpP P cx op ty ⟨tm, st, nb⟩ v := by
   first
    | ((with_reducible apply Xu); rfl) | ((with_reducible apply UX); rfl))
  (hw : Wd ops tm gd := by first | exact trivial | exact A9 rfl rfl (by with_reducible rfl)) (hn : BG op = true := by rfl) : VL P cx ops (⟨d, op, ty, pos, af, gd⟩ :: rest) ⟨tm, st, nb⟩ Q := AcO h hw hn k
theorem WE {d : Tmp} {op : Op} {ty : TypeId} {pos : String} {af : Array Edge} {j : Nat} {b : Bool} {t : Nat} {p : Prop} [Decidable p] (k1 : p → VL P cx ops (⟨some d, op, ty, pos, af, some (j, b)⟩ :: rest) ⟨(t, .d (.lit (.bool true))) :: tm, st, nb⟩ Q) (k2 : ¬ p → VL P cx ops (⟨some d, op, ty, pos, af, some (j, b)⟩ :: rest) ⟨(t, .d (.lit (.bool false))) :: tm, st, nb⟩ Q)
  (_h1 : (ops[j]?).bind (·.dst) = some t := by rfl) (h2 : AE t tm = some (.d (.lit (.bool (decide p)))) := by rfl) : VL P cx ops (⟨some d, op, ty, pos, af, some (j, b)⟩ :: rest) ⟨tm, st, nb⟩ Q := Tn h2 k1 k2
theorem Td {d : Tmp} {op : Op} {ty : TypeId} {pos : String} {af : Array Edge} {j : Nat} {b c : Bool} {t : Nat} (k1 : c = true → VL P cx ops (⟨some d, op, ty, pos, af, some (j, b)⟩ :: rest) ⟨(t, .d (.lit (.bool true))) :: tm, st, nb⟩ Q) (k2 : c = false → VL P cx ops (⟨some d, op, ty, pos, af, some (j, b)⟩ :: rest) ⟨(t, .d (.lit (.bool false))) :: tm, st, nb⟩ Q)
  (_h1 : (ops[j]?).bind (·.dst) = some t := by rfl) (h2 : AE t tm = some (.d (.lit (.bool c))) := by rfl) : VL P cx ops (⟨some d, op, ty, pos, af, some (j, b)⟩ :: rest) ⟨tm, st, nb⟩ Q := Q0 h2 k1 k2
theorem Y5 {d : Tmp} {op : Op} {ty : TypeId} {pos : String} {af : Array Edge} {j : Nat} {b : Bool} {t : Nat} (k : VL P cx ops (⟨some d, op, ty, pos, af, some (j, b)⟩ :: rest) ⟨tm, st, nb⟩ Q)
  (_h1 : (ops[j]?).bind (·.dst) = some t := by rfl) {v : V} (_h2 : AE t tm = some v := by rfl) (_h3 : v = .d (.lit (.bool true)) ∨ v = .d (.lit (.bool false)) := by first | (left; with_reducible rfl) | (right; with_reducible rfl)) : VL P cx ops (⟨some d, op, ty, pos, af, some (j, b)⟩ :: rest) ⟨tm, st, nb⟩ Q := k
theorem An {t : Tmp} {x : Operand} {f : FuncId} {xs : Array Operand} {tys : Array TypeId} {ty : TypeId} {pos : String} {af : Array Edge} {gd : Option (Nat × Bool)} {v : V} {vs az : List V} {ds' ds : List D} {d : D}
  (hc : VP P f ds (· = .panic d)) (k : Q (.panic (.d d)) ⟨tm, st, nb⟩) (hx : Af ⟨tm, st, nb⟩ x = some v := by rfl) (hv : AY ⟨tm, st, nb⟩ xs.toList = some vs := by rfl) (hf : Hi v vs = some (f, az) := by rfl) (ha : AD st az ds' := by first | exact Jc rfl | ((repeat' (first | exact Hq | exact Hr | ((apply FH); rfl))); fail_if_success (focus skip))) (hd : Er ds' ds := by ((repeat' (first | exact Dy | with_reducible apply CH | with_reducible exact EO _ | with_reducible exact GK _ | infer_instance | with_reducible apply EQ | with_reducible apply EP | with_reducible apply GJ | with_reducible apply GL | with_reducible apply BK | assumption | apply BK)); fail_if_success (focus skip))) (hw : Wd ops tm gd := by first | exact trivial | exact A9 rfl rfl (by with_reducible rfl)) (ht : Nat.blt t cx.N = true := by rfl) :
  VL P cx ops (⟨some t, .call { callee := .value x, args := xs, argTypes := tys }, ty, pos, af, gd⟩ :: rest) ⟨tm, st, nb⟩ Q := Tm hc hx hv hf ha hd hw ht k
theorem Ta {t : Tmp} {x : Operand} {f : FuncId} {xs : Array Operand} {tys : Array TypeId} {ty : TypeId} {pos : String} {af : Array Edge} {gd : Option (Nat × Bool)} {v : V} {vs az : List V} {ds' ds : List D} {d : D}
  (hc : VP P f ds (· = .panic d)) (k : Q (.panic (.d d)) ⟨tm, st, nb⟩) (hx : Af ⟨tm, st, nb⟩ x = some v := by rfl) (hv : AY ⟨tm, st, nb⟩ xs.toList = some vs := by rfl) (hf : Hi v vs = some (f, az) := by rfl) (ha : Dd st 64 az = some ds' := by rfl) (hd : Er ds' ds := by ((repeat' (first | exact Dy | with_reducible apply CH | with_reducible exact EO _ | with_reducible exact GK _ | infer_instance | with_reducible apply EQ | with_reducible apply EP | with_reducible apply GJ | with_reducible apply GL | with_reducible apply BK | assumption | apply BK)); fail_if_success (focus skip))) (hfl : GO d := by infer_instance) (hw : Wd ops tm gd := by first | exact trivial | exact A9 rfl rfl (by with_reducible rfl)) (ht : Nat.blt t cx.N = true := by rfl) :
  VL P cx ops (⟨some t, .call { callee := .value x, args := xs, argTypes := tys }, ty, pos, af, gd⟩ :: rest) ⟨tm, st, nb⟩ Q := Nj hc hx hv hf ha hd hfl hw ht (fun _ e => by cases e) (fun _ _ _ e => by cases e) (fun _ e => by cases e; exact k)
theorem S6 {c : Operand} {x y : Code} (h : VW P cx (.cond c x y) s Q) : VW P cx (.cond c x y) s Q := h
theorem S3 {c : Operand} {x y : Code} (ht : VW P cx x s Q) (hc : Af s c = some (.d (.lit (.bool true))) := by exact FB rfl (by with_reducible rfl)) : VW P cx (.cond c x y) s Q := Kp hc (fun _ => ht) (fun h => by cases h)
theorem S5 {c : Operand} {x y : Code} (ht : VW P cx y s Q) (hc : Af s c = some (.d (.lit (.bool false))) := by exact FB rfl (by with_reducible rfl)) : VW P cx (.cond c x y) s Q := Kp hc (fun h => by cases h) (fun _ => ht)
theorem AaT {c : Operand} {x y : Code} {p : Prop} [Decidable p] (ht : p → VW P cx x s Q) (hf : ¬ p → VW P cx y s Q) (hc : Af s c = some (.d (.lit (.bool (decide p)))) := by rfl) : VW P cx (.cond c x y) s Q := S4 hc ht hf
theorem AaU {c : Operand} {x y : Code} {b : Bool} (ht : b = true → VW P cx x s Q) (hf : b = false → VW P cx y s Q) (hc : Af s c = some (.d (.lit (.bool b))) := by rfl) : VW P cx (.cond c x y) s Q := Kp hc ht hf
theorem XQ {i j : Nat} (hj : Nat.beq j i = true) (h : Q .normal s) : ES i Q (.exit j) s := by simp only [ES, hj]; exact h
theorem XP {i j : Nat} (hj : Nat.beq j i = false) (h : Q (.exit j) s) : ES i Q (.exit j) s := by simp only [ES, hj]; exact h
theorem Abo {rs : List ResultVar} {post : R → Prop} (h : Ff P rs post .ret s) : Ff P rs post .ret s := h
theorem Zt {rs : List ResultVar} {post : R → Prop} {v : V} (h : Ff P rs post (.panic v) s) : Ff P rs post (.panic v) s := h
theorem AcT {rs : List ResultVar} {post : R → Prop} {vs : List V} {d : D} (k : post (.ret d))
  (h : Ci P s rs vs := by repeat' (first | exact Ci.nil | (apply Ci.tmp; rfl) | (apply Ci.cell; infer_instance; rfl; rfl) | (apply Ci.cells; infer_instance; rfl; rfl))) (hd : PY s.st (Ea vs) = some d := by rfl) : Ff P rs post .ret s := ⟨vs, h, .inl ⟨d, hd, k⟩⟩
theorem AcR {rs : List ResultVar} {post : R → Prop} {vs : List V} {k ver : Nat} {nw : Bool} {e : TypeId} {sz : Nat} {l : List (List D)} (q : post (.own e sz l))
  (h : Ci P s rs vs := by repeat' (first | exact Ci.nil | (apply Ci.tmp; rfl) | (apply Ci.cell; infer_instance; rfl; rfl) | (apply Ci.cells; infer_instance; rfl; rfl))) (hd : Ea vs = .row k ver := by rfl) (hr : AB k s.st = some (true, nw, ver, e, sz, l) := by rfl) : Ff P rs post .ret s := ⟨vs, h, .inr ⟨k, nw, ver, e, sz, l, hd, hr, q⟩⟩
theorem AcS {post : R → Prop} (k : post (.ret (.tup []))) : Ff P [] post .normal s := ⟨[], .nil, .inl ⟨_, rfl, k⟩⟩
theorem Abn {post : R → Prop} (k : post (.ret (.tup []))) : Ff P [] post .ret s := ⟨[], .nil, .inl ⟨_, rfl, k⟩⟩
theorem Zs {rs : List ResultVar} {post : R → Prop} {v : V} {d : D} (hd : PY s.st v = some d) (k : post (.panic d)) : Ff P rs post (.panic v) s := ⟨d, hd, k⟩
theorem Y2 {c : Code} {cc f : Bool} {l : List (List D)} (t : Tmp) (ht : AE t s.tm = some (.d (.sl cc f l))) (k : l.length ≤ 9223372036854775807 → VW P cx c s Q) : VW P cx c s Q := fun n g0 w0 g a w hE hS => by
 have h := hS.tm ht
 simp only [vrep, drep] at h
 obtain ⟨_, cap, _, _, h1, h2, _⟩ := h
 exact k (by simp only [maxLen] at h2; omega) n g0 w0 g a w hE hS
theorem X1 {l : List (List D)} (h : ∀ x ∈ l, Er x x) : CC l l := ⟨fun B B' U w u k => by
 induction l generalizing u with
 | nil => simpa only [drepss] using k
 | cons x xs ih =>
  simp only [drepss] at k ⊢
  obtain ⟨c1, c2, e, k1, k2⟩ := k
  exact ⟨c1, c2, e, (h x (by simp)).le _ _ _ _ _ k1, ih (fun y hy => h y (by simp [hy])) _ k2⟩, rfl, fun _ h => h⟩
instance Aca : CC [] [] := X1 fun _ h => by simp at h
instance AaJ {x : List D} {l : List (List D)} [h : Er x x] [hs : CC l l] : CC (x :: l) (x :: l) := ⟨fun B B' U w u k => by
 simp only [drepss] at k ⊢
 obtain ⟨c1, c2, e, k1, k2⟩ := k
 exact ⟨c1, c2, e, h.le _ _ _ _ _ k1, hs.le _ _ _ _ _ k2⟩, rfl, fun _ h => h⟩
end

section
variable {P : Program} {ops : Array Oper} {Q : Exit → Act → World → Prop} {S : World → Prop} {L : Array Bool → Act → World → Prop} {n : Nat}
def un (listed : Array Bool) : Nat → Nat
 | 0 => 0
 | k + 1 => (if listed.getD k true = true then 0 else 1) + un listed k
theorem Ow {l l' : Array Bool} : ∀ k, (∀ i, i < k → l.getD i true = l'.getD i true) → un l k = un l' k
 | 0, _ => rfl
 | k + 1, h => by rw [un, un, h k (by omega), Ow k (fun i hi => h i (by omega))]
theorem PM {l : Array Bool} {i : Nat} (hi : l.getD i true = false) : ∀ k, i < k → un (l.setIfInBounds i true) k + 1 = un l k
 | 0, h => by omega
 | k + 1, h => by
  have hlt : i < l.size := by
   rcases Nat.lt_or_ge i l.size with h' | h'
   ·exact h'
   ·simp [Array.getElem?_eq_none h'] at hi
  by_cases e : i = k
  ·subst e
   have h1 : (l.setIfInBounds i true).getD i true = true := by simp [hlt]
   rw [un, un, h1, hi, Ow (l := l.setIfInBounds i true) (l' := l) i (fun j hj => getD_set_ne true (by omega))]
   simp; omega
  ·rw [un, un, getD_set_ne true e]
   have := PM hi k (by omega)
   omega
theorem Nm {l : Array Bool} : ∀ {k}, 0 < un l k → ∃ i, i < k ∧ l.getD i true = false
 | 0, h => by simp [un] at h
 | k + 1, h => by
  cases e : l.getD k true with
  | false => exact ⟨k, by omega, e⟩
  | true =>
   rw [un, e] at h
   obtain ⟨i, hi, he⟩ := Nm (k := k) (by simpa using h)
   exact ⟨i, by omega, he⟩
theorem Nn (m : Nat) : ∀ k, k ≤ m → un (Array.replicate m false) k = k
 | 0, _ => rfl
 | k + 1, h => by
  rw [un, Nn m k (by omega)]
  simp [show k < m from by omega]; omega
inductive Seg where
 | q (l : List Nat)
 | e (i : Nat)
def Ga (m n : Nat) : Array Bool := ((List.range m).map fun i => decide (i < n)).toArray
theorem Kq {l : Array Bool} : ∀ {k}, un l k = 0 → ∀ i, i < k → l.getD i true = true
 | 0, _, i, hi => by omega
 | k + 1, h, i, hi => by
  rw [un] at h
  by_cases e : i = k
  ·subst e
   cases e2 : l.getD i true with
   | true => rfl
   | false => rw [e2] at h; simp at h
  ·exact Kq (k := k) (by omega) i (by omega)
theorem SD {listed : Array Bool} (inv : HeadInv .any ops n listed) (hu : un listed n = 0) : listed = Ga ops.size n := by
 apply Array.ext
 ·simp [Ga, inv.size]
 ·intro i h1 h2
  have hs := inv.size
  rw [show (Ga ops.size n)[i] = decide (i < n) from by simp [Ga]]
  by_cases e : i < n
  ·have := Kq hu i e
   simp [h1] at this
   simp [this, e]
  ·have := inv.tail i (by omega) (by omega)
   simp [h1] at this
   simp [this, e]
end
section
variable {P : Program} {ops : Array Oper} {C : World → Prop} {Q : Act → Prop} {rest : List Oper} {a : Act} {dst : Option Tmp} {p : Operand} {lt ty : TypeId} {pos : String} {af : Array Edge} {g : Option (Nat × Bool)} {b o : Nat} {v : Value}
end
inductive Adj where
 | q (l : List Oper)
 | e (o : Oper)
def idx : Nat → List Adj → List Seg
 | _, [] => []
 | k, .q l :: r => .q (List.range' k l.length) :: idx (k + l.length) r
 | k, .e _ :: r => .e k :: idx (k + 1) r
section
variable {P : Program} {Q : Exit → Act → World → Prop} {S : World → Prop}
end

end Go.Proofs.YtbgcjnfhadhjeaaGreat