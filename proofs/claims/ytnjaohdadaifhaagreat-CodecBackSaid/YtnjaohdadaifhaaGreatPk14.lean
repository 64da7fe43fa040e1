/- Walks by data and names, part 14: Slices of arrays: of a variable's own, and of cells that nobody writes to. Strings of bytes. Structs of numbers compared. -/
import Derived.Laws.BytesArg
import Derived.Laws.IdiomStrings
import Derived.Laws.Strings
import Derived.StillTailTactics
import Derived.Deep.RegionHeld3
import Derived.Test.YtnjaohdadaifhaaGreatPk13
import Derived.Test.YtnjaohdadaifhaaGreatPk4
import Derived.Test.YtnjaohdadaifhaaGreatPk1
namespace Go.Proofs.YtnjaohdadaifhaaGreat
set_option maxRecDepth 20000
open Go.RowKit
section
variable {P : Program} {cx : Cx} {s : St}
theorem run_sliceArr {w : World} {t e n sz b o : Nat} [hA : ArrI P t n e sz] : (Instr.sliceAt t (.pointer (some ⟨b, o, none⟩)) none none none).run P w = .ok (.slice (some ⟨b, o, none⟩) n n) w := by
  obtain ⟨h1, i, h2, h3⟩ := hA.get
  have hs : (sizeOf e).run P w = .ok sz w := by simp [sizeOf, typeInfo, h2, h3]
  have hb : (Instr.sliceBounds false n n none none none).run P w = .ok (0, n, n) w := by simp [Instr.sliceBounds]
  have ha : (⟨b, o, none⟩ : Addr).add 0 = ⟨b, o, none⟩ := by simp [Addr.add]
  simp [Instr.sliceAt, run_underlying h1, Instr.sureAddr, hb, hs, ha]
theorem q_slicep {t ty e : TypeId} {x : Operand} {k off n sz : Nat} [hA : ArrI P t n e sz] (hx : evalV s x = some (.ptr k off)) (hn : Nat.ble n 9223372036854775807 = true) : OpQ P cx (.slice t x none none none) ty s (.sv k off n n sz) := fun g a w hS => by
  have h := hS.eval hx
  simp only [vrep] at h
  obtain ⟨b, hb, hu⟩ := h
  refine ⟨.slice (some ⟨b, off, none⟩) n n, ?_, by simp only [vrep]; exact ⟨b, hb, rfl, Nat.le_refl _, Nat.le_of_ble_eq_true hn⟩⟩
  simp [execOp, hu, run_sliceArr (P := P) (t := t) (n := n) (e := e) (sz := sz)]
theorem q_slicee {t ty e : TypeId} {x : Operand} {n sz : Nat} {l : List D} [hA : ArrI P t n e sz] (hx : evalV s x = some (.ep l)) (hl : l.length = n * sz) (h1 : leaves (l.map .d) = true) (hn : Nat.ble n 9223372036854775807 = true) : OpQ P cx (.slice t x none none none) ty s (.d (.sl false false (chunk sz n l))) := fun g a w hS => by
  have h := hS.eval hx
  simp only [vrep] at h
  obtain ⟨b, o, cs, hu, k1, k2⟩ := h
  obtain ⟨m1, m2⟩ := drepss_chunk hl k2
  refine ⟨.slice (some ⟨b, o, none⟩) n n, ?_, ?_⟩
  · simp [execOp, hu, run_sliceArr (P := P) (t := t) (n := n) (e := e) (sz := sz)]
  · simp only [vrep, drep]
    exact ⟨_, n, cs, by rw [chunk_len], by rw [chunk_len]; exact Nat.le_refl _, Nat.le_of_ble_eq_true hn, (fun h => by cases h), (fun h => by cases h), ⟨sz, m2⟩, leaves_one h1 (vreps_d k2), k1.imp fun _ hb => ⟨hb, fun h => by cases h⟩, m1⟩
end
end Go.Proofs.YtnjaohdadaifhaaGreat

namespace Go.Proofs.YtnjaohdadaifhaaGreat
set_option maxRecDepth 20000
open Go.RowKit
abbrev strV (b : List UInt8) : Value := .string ⟨b.toArray⟩
inductive BsV : V → List UInt8 → Prop where
  | sl {c f : Bool} {b : List UInt8} : BsV (.d (.sl c f (b.map fun x => [.lit (vb x)]))) b
  | nil : BsV (.d (.lit (.slice none 0 0))) []
section
variable {P : Program} {cx : Cx} {s : St}
theorem drepss_bytes {B : Nat} {U : Nat → Prop} {w : World} : ∀ {b : List UInt8} {cs : List Value}, drepss B U w (b.map fun x => [.lit (vb x)]) cs → cs = b.map vb
  | [], _, h => by simpa only [List.map_nil, drepss] using h
  | x :: b, _, h => by
    simp only [List.map_cons, drepss, dreps, drep] at h
    obtain ⟨c1, c2, rfl, ⟨y, ys, rfl, rfl, rfl⟩, h2⟩ := h
    rw [drepss_bytes h2]; rfl
theorem q_bstr {t1 t2 ty e : TypeId} {by_ : Nat} {x : Operand} {v : V} {b : List UInt8} [hE : SlI P t1 e 1 by_] [hI : IntI P e .u8] [hS2 : StrI P t2] (hx : evalV s x = some v) (hb : BsV v b) : OpQ P cx (.convert t1 t2 x) ty s (.d (.lit (strV b))) := fun g a w hS => by
  have h := hS.eval hx
  refine ⟨strV b, ?_, by simp only [vrep, drep]⟩
  cases hb with
  | nil =>
    simp only [vrep, drep] at h
    simp only [execOp, h, Sem.run_bind]
    have := run_convert_bytes_nil w t1 e hE.elem.und hI.und 0 0 t2 hS2.und
    rw [this]; rfl
  | sl =>
    rename_i c f
    simp only [vrep, drep] at h
    obtain ⟨ad, cap, cs, e1, e2, e3, e4, e5, _, _, e7, e8⟩ := h
    have hcs := drepss_bytes e8
    subst hcs
    simp only [execOp, e1, Sem.run_bind, List.length_map]
    cases ad with
    | none =>
      have hz : b = [] := by
        have := e5 rfl
        rw [List.length_map] at e2
        exact List.length_eq_zero_iff.1 (by omega)
      subst hz
      have := run_convert_bytes_nil w t1 e hE.elem.und hI.und 0 cap t2 hS2.und
      simp only [List.length_nil]
      rw [this]; rfl
    | some ad =>
      have := run_convert_bytes_back (P := P) w t1 t2 e ad cap b hE.elem.und hI.und hS2.und fun j hj => by
        obtain ⟨bk, o, k1, _, k3⟩ := e7 j (vb b[j]) (by simp [hj])
        cases k1
        have he : (⟨bk, o, none⟩ : Addr).add j = ⟨bk, o + j, none⟩ := by unfold Addr.add; split <;> simp_all
        rw [he]; exact k3
      rw [this]; rfl
theorem q_eqs {t yt ty : TypeId} {x y : Operand} {a b : List UInt8} (hx : evalV s x = some (.d (.lit (strV a)))) (hy : evalV s y = some (.d (.lit (strV b)))) : OpQ P cx (.binOp .eql t x y yt) ty s (.d (.lit (.bool (decide (a = b))))) := by
  refine q_bin hx hy fun w => ?_
  simp only [eqGuard, binOp, Sem.run_bind, Sem.run_pure, Op.stringOp]
  have : ((⟨a.toArray⟩ : ByteArray).toList == (⟨b.toArray⟩ : ByteArray).toList) = decide (a = b) := by
    rw [ByteArray.toList_mk, ByteArray.toList_mk, Bool.eq_iff_iff]
    simp
  simp []
  rw [Bool.eq_iff_iff]; simp
theorem q_nes {t yt ty : TypeId} {x y : Operand} {a b : List UInt8} (hx : evalV s x = some (.d (.lit (strV a)))) (hy : evalV s y = some (.d (.lit (strV b)))) : OpQ P cx (.binOp .neq t x y yt) ty s (.d (.lit (.bool (decide (a ≠ b))))) := by
  refine q_bin hx hy fun w => ?_
  simp only [eqGuard, binOp, Sem.run_bind, Sem.run_pure, Op.stringOp]
  have : ((⟨a.toArray⟩ : ByteArray).toList == (⟨b.toArray⟩ : ByteArray).toList) = decide (a = b) := by
    rw [ByteArray.toList_mk, ByteArray.toList_mk, Bool.eq_iff_iff]
    simp
  simp []
  rw [Bool.eq_iff_iff]; simp
theorem q_eqst {t yt ty : TypeId} {x y : Operand} {a b : List UInt8} (hx : evalV s x = some (.d (.lit (strV a)))) (hy : evalV s y = some (.d (.lit (strV b)))) (h : decide (a = b) = true) : OpQ P cx (.binOp .eql t x y yt) ty s (.d (.lit (.bool true))) := by
  rw [← h]; exact q_eqs hx hy
theorem q_eqsf {t yt ty : TypeId} {x y : Operand} {a b : List UInt8} (hx : evalV s x = some (.d (.lit (strV a)))) (hy : evalV s y = some (.d (.lit (strV b)))) (h : decide (a = b) = false) : OpQ P cx (.binOp .eql t x y yt) ty s (.d (.lit (.bool false))) := by
  rw [← h]; exact q_eqs hx hy
end
end Go.Proofs.YtnjaohdadaifhaaGreat

namespace Go.Proofs.YtnjaohdadaifhaaGreat
set_option maxRecDepth 20000
open Go.RowKit
def flatOk (P : Program) : Nat → List Field → Bool
  | _, [] => true
  | o, f :: fs => f.name != "_" && f.offset == o && (match P.underlying f.type with | some (.int _) => true | _ => false) && flatOk P (o + 1) fs
class FlatI (P : Program) (t : TypeId) (n : outParam Nat) : Prop where
  und : P.underlying t = some (.struct (P.fieldsOf t))
  held : P.stoodInHeld t = false
  no : P.eqGuardType P.depth t = false
  fs : flatOk P 0 (P.fieldsOf t).toList = true
  len : (P.fieldsOf t).toList.length = n
def iVal (x : IntKind × Int) : Value := .int x.1 x.2
def iDs : List D → Option (List (IntKind × Int))
  | [] => some []
  | .lit (.int k n) :: r => (iDs r).map ((k, n) :: ·)
  | _ => none
def iVs : List V → Option (List (IntKind × Int))
  | [] => some []
  | .d (.lit (.int k n)) :: r => (iVs r).map ((k, n) :: ·)
  | _ => none
def iV9 : V → Option (List (IntKind × Int))
  | .agg l => iVs l
  | .d (.agg l) => iDs l
  | _ => none
theorem iDs_rep {B : Nat} {U : Nat → Prop} {w : World} : ∀ {l : List D} {r : List (IntKind × Int)} {us : List Value}, iDs l = some r → dreps B U w l us → us = r.map iVal
  | [], r, us, h, hu => by simp only [iDs, Option.some.injEq] at h; subst h; simpa only [dreps, List.map_nil] using hu
  | .lit (.int k n) :: l, r, us, h, hu => by
    simp only [iDs, Option.map_eq_some_iff] at h
    obtain ⟨q, h, rfl⟩ := h
    simp only [dreps, drep] at hu
    obtain ⟨y, ys, rfl, rfl, k⟩ := hu
    rw [iDs_rep h k]; rfl
theorem iVs_rep {B : Nat} {g : G} {w : World} : ∀ {l : List V} {r : List (IntKind × Int)} {us : List Value}, iVs l = some r → vreps B g w l us → us = r.map iVal
  | [], r, us, h, hu => by simp only [iVs, Option.some.injEq] at h; subst h; simpa only [vreps, List.map_nil] using hu
  | .d (.lit (.int k n)) :: l, r, us, h, hu => by
    simp only [iVs, Option.map_eq_some_iff] at h
    obtain ⟨q, h, rfl⟩ := h
    simp only [vreps, vrep, drep] at hu
    obtain ⟨y, ys, rfl, rfl, k⟩ := hu
    rw [iVs_rep h k]; rfl
theorem iV9_rep {B : Nat} {g : G} {w : World} {v : V} {r : List (IntKind × Int)} {u : Value} (h : iV9 v = some r) (hu : vrep B g w v u) : u = .agg (r.map iVal).toArray := by
  unfold iV9 at h
  split at h
  · simp only [vrep] at hu; obtain ⟨us, rfl, k⟩ := hu; rw [iVs_rep h k]
  · simp only [vrep, drep] at hu; obtain ⟨us, rfl, k⟩ := hu; rw [iDs_rep h k]
  · cases h
theorem run_eqFields_flat {P : Program} {w : World} (d : Nat) (X Y : List Value) : ∀ (fs : List Field) (o : Nat) (xs ys : List (IntKind × Int)), flatOk P o fs = true → X.drop o = xs.map iVal → Y.drop o = ys.map iVal → xs.map (·.1) = ys.map (·.1) → xs.length = fs.length →
    (Op.eqFields (d + 1) X.toArray Y.toArray fs).run P w = .ok (decide (xs.map (·.2) = ys.map (·.2))) w
  | [], o, xs, ys, _, _, _, hk, hl => by
    have h1 : xs = [] := List.eq_nil_of_length_eq_zero hl
    subst h1
    have h2 : ys = [] := by cases ys; rfl; simp at hk
    subst h2
    simp [Op.eqFields]
  | f :: fs, o, [], ys, _, _, _, _, hl => by simp at hl
  | f :: fs, o, x :: xs, [], _, _, _, hk, _ => by simp at hk
  | f :: fs, o, x :: xs, y :: ys, hf, hX, hY, hk, hl => by
    simp only [flatOk, Bool.and_eq_true, beq_iff_eq, bne_iff_ne, ne_eq] at hf
    obtain ⟨⟨⟨hn, ho⟩, hu⟩, hr⟩ := hf
    have hu : ∃ k, P.underlying f.type = some (.int k) := by
      split at hu
      · exact ⟨_, by assumption⟩
      · cases hu
    obtain ⟨k, hu⟩ := hu
    have get {Z : List Value} {z : IntKind × Int} {zs : List (IntKind × Int)} (h : Z.drop o = (z :: zs).map iVal) : Z[o]? = some (iVal z) ∧ Z.drop (o + 1) = zs.map iVal := by
      have h0 := congrArg (fun l => l[0]?) h
      have h1 := congrArg (fun l => l.drop 1) h
      simp at h0 h1
      exact ⟨h0, by simpa using h1⟩
    obtain ⟨x0, hX1⟩ := get hX
    obtain ⟨y0, hY1⟩ := get hY
    have hp : P.plainKey f.type = true := by simp [Program.plainKey, hu]
    have p1 : (part f.type X.toArray f.offset).run P w = .ok (iVal x) w := run_part_plain w hp (by rw [ho]; simpa using x0)
    have p2 : (part f.type Y.toArray f.offset).run P w = .ok (iVal y) w := run_part_plain w hp (by rw [ho]; simpa using y0)
    obtain ⟨kx, a⟩ := x
    obtain ⟨ky, b⟩ := y
    simp only [List.map_cons, List.cons.injEq] at hk
    obtain ⟨e, hk⟩ := hk
    have e : kx = ky := e
    subst e
    have he : (Op.equalIn (d + 1) f.type (iVal (kx, a)) (iVal (kx, b))).run P w = .ok (a == b) w := run_equalIn_int w d f.type kx k a b hu
    have ih := run_eqFields_flat (w := w) d X Y fs (o + 1) xs ys hr hX1 hY1 hk (by simpa using hl)
    simp only [Op.eqFields, hn, ne_eq, not_false_eq_true, if_true, Sem.run_bind, p1, p2, Result.andThen_ok, he, List.map_cons, List.cons.injEq]
    by_cases hc : a = b
    · simp only [hc, beq_self_eq_true, Bool.not_true, Bool.false_eq_true, if_false, ih, true_and]
    · simp [hc]
section
variable {P : Program} {cx : Cx} {s : St}
theorem run_flat {w : World} {t : TypeId} {n : Nat} [hF : FlatI P t n] {xs ys : List (IntKind × Int)} (hk : xs.map (·.1) = ys.map (·.1)) (hl : xs.length = n) :
    (Op.equalIn 10000 t (.agg (xs.map iVal).toArray) (.agg (ys.map iVal).toArray)).run P w = .ok (decide (xs.map (·.2) = ys.map (·.2))) w := by
  rw [run_equalIn_struct w 9999 t _ _ hF.und hF.held]
  exact run_eqFields_flat 9998 _ _ _ 0 xs ys hF.fs (by simp) (by simp) hk (by rw [hl, hF.len])
theorem q_eqr {t yt ty : TypeId} {x y : Operand} {v1 v2 : V} {xs ys : List (IntKind × Int)} {n : Nat} {r : Bool} [hF : FlatI P t n] (hx : evalV s x = some v1) (hy : evalV s y = some v2) (h1 : iV9 v1 = some xs) (h2 : iV9 v2 = some ys) (hk : xs.map (·.1) = ys.map (·.1)) (hl : xs.length = n) (hr : decide (xs.map (·.2) = ys.map (·.2)) = r) :
    OpQ P cx (.binOp .eql t x y yt) ty s (.d (.lit (.bool r))) := fun g a w hS => by
  have e1 := iV9_rep h1 (hS.eval hx)
  have e2 := iV9_rep h2 (hS.eval hy)
  have hg := run_eqGuard_agg (P := P) (w := w) .eql t x y (xs.map iVal).toArray (ys.map iVal).toArray hF.no
  have hs := run_eql_struct (P := P) (w := w) t (xs.map iVal).toArray (ys.map iVal).toArray
  rw [run_flat (w := w) hk hl, hr] at hs
  exact ⟨.bool r, by simp [execOp, e1, e2, hg, hs], by simp only [vrep, drep]⟩
theorem q_ner {t yt ty : TypeId} {x y : Operand} {v1 v2 : V} {xs ys : List (IntKind × Int)} {n : Nat} {r : Bool} [hF : FlatI P t n] (hx : evalV s x = some v1) (hy : evalV s y = some v2) (h1 : iV9 v1 = some xs) (h2 : iV9 v2 = some ys) (hk : xs.map (·.1) = ys.map (·.1)) (hl : xs.length = n) (hr : decide (xs.map (·.2) = ys.map (·.2)) = r) :
    OpQ P cx (.binOp .neq t x y yt) ty s (.d (.lit (.bool (!r)))) := fun g a w hS => by
  have e1 := iV9_rep h1 (hS.eval hx)
  have e2 := iV9_rep h2 (hS.eval hy)
  have hg := run_eqGuard_agg (P := P) (w := w) .neq t x y (xs.map iVal).toArray (ys.map iVal).toArray hF.no
  have hs := run_neq_struct (P := P) (w := w) t (xs.map iVal).toArray (ys.map iVal).toArray
  rw [run_flat (w := w) hk hl, hr] at hs
  exact ⟨.bool (!r), by simp [execOp, e1, e2, hg, hs], by simp only [vrep, drep]⟩
theorem q_nert {t yt ty : TypeId} {x y : Operand} {v1 v2 : V} {xs ys : List (IntKind × Int)} {n : Nat} [hF : FlatI P t n] (hx : evalV s x = some v1) (hy : evalV s y = some v2) (h1 : iV9 v1 = some xs) (h2 : iV9 v2 = some ys) (hk : xs.map (·.1) = ys.map (·.1)) (hl : xs.length = n) (hr : decide (xs.map (·.2) = ys.map (·.2)) = true) :
    OpQ P cx (.binOp .neq t x y yt) ty s (.d (.lit (.bool false))) := q_ner hx hy h1 h2 hk hl hr
theorem q_nerf {t yt ty : TypeId} {x y : Operand} {v1 v2 : V} {xs ys : List (IntKind × Int)} {n : Nat} [hF : FlatI P t n] (hx : evalV s x = some v1) (hy : evalV s y = some v2) (h1 : iV9 v1 = some xs) (h2 : iV9 v2 = some ys) (hk : xs.map (·.1) = ys.map (·.1)) (hl : xs.length = n) (hr : decide (xs.map (·.2) = ys.map (·.2)) = false) :
    OpQ P cx (.binOp .neq t x y yt) ty s (.d (.lit (.bool true))) := q_ner hx hy h1 h2 hk hl hr
end
end Go.Proofs.YtnjaohdadaifhaaGreat

namespace Go.Proofs.YtnjaohdadaifhaaGreat
set_option maxRecDepth 20000
open Go.RowKit
section
variable {P : Program} {cx : Cx} {tm : List (Nat × V)} {st : List E} {nb : Nat} {s : St} {Q : VE → St → Prop} {ops rest : List Oper}
section
variable {ty t y : TypeId} {x z : Operand} {v : V}
theorem oq_ld (h : OpQ P cx (.load t x) ty s v) : OpQ P cx (.load t x) ty s v := h
theorem oq_bin {b : BinOp} (h : OpQ P cx (.binOp b t x z y) ty s v) : OpQ P cx (.binOp b t x z y) ty s v := h
theorem oq_fa {i : Nat} (h : OpQ P cx (.fieldAddr t x i) ty s v) : OpQ P cx (.fieldAddr t x i) ty s v := h
theorem oq_un {b : UnOp} (h : OpQ P cx (.unOp b t x) ty s v) : OpQ P cx (.unOp b t x) ty s v := h
theorem oq_nil (h : OpQ P cx (.nilCheck x) ty s v) : OpQ P cx (.nilCheck x) ty s v := h
theorem oq_ia (h : OpQ P cx (.indexAddr t x z) ty s v) : OpQ P cx (.indexAddr t x z) ty s v := h
theorem oq_call {c : Call} (h : OpQ P cx (.call c) ty s v) : OpQ P cx (.call c) ty s v := h
theorem oq_sl {a b c : Option Operand} (h : OpQ P cx (.slice t x a b c) ty s v) : OpQ P cx (.slice t x a b c) ty s v := h
end
theorem vl_id (h : VL P cx ops rest s Q) : VL P cx ops rest s Q := h
theorem v_app' {t ty e : TypeId} {x y : Operand} {k ver sz by_ : Nat} {l l2 : List (List D)} {nw : Bool} {v2 : V} [hE : SlI P t e sz by_] (hx : evalV ⟨tm, st, nb⟩ x = some (.row k ver)) (hr : rowAt k st = some (true, nw, ver, e, sz, l)) (hy : evalV ⟨tm, st, nb⟩ y = some v2) (hsrc : SrcV st sz v2 l2)
    (hb : (l.length + l2.length) * by_ ≤ 140737488355328) (h0 : 0 < by_) : OpV P cx (.call { callee := .builtin .append, args := #[x, y], argTypes := #[t, t] }) ty ⟨tm, st, nb⟩ (.row k (ver + 1)) (.r true nw k (ver + 1) e sz (l ++ l2) :: st) nb := v_app hx hr hy hsrc hb h0
theorem v_copy' {t t2 ty e : TypeId} {x y : Operand} {k ver by_ : Nat} {nw : Bool} {l l2 : List (List D)} {v2 : V} [hE : SlI P t e 1 by_] (hx : evalV ⟨tm, st, nb⟩ x = some (.row k ver)) (hr : rowAt k st = some (true, nw, ver, e, 1, l)) (hy : evalV ⟨tm, st, nb⟩ y = some v2) (hsrc : SrcV st 1 v2 l2) (hl : l2.length = l.length) :
    OpV P cx (.call { callee := .builtin .copy, args := #[x, y], argTypes := #[t, t2] }) ty ⟨tm, st, nb⟩ (I .i64 (l2.length : Int)) (.r true nw k ver e 1 l2 :: st) nb := v_copy hx hr hy hsrc hl
theorem u_storer' {t ty e : TypeId} {x y : Operand} {k ver sz i j n : Nat} {ag nw : Bool} {z : List Value} {l : List (List D)} {cs : List D} {v : V} {vs : List V} {d : D} [hT : TyI P t ag n z] (hx : evalV ⟨tm, st, nb⟩ x = some (.rp k ver sz i j)) (hr : rowAt k st = some (true, nw, ver, e, sz, l)) (hl : l[i]? = some cs) (hy : evalV ⟨tm, st, nb⟩ y = some v) (hd : argD st v = some d) (hv : cellsV (.d d) = some vs) (h1 : (leaves vs && Nat.beq vs.length n) = true) (hj : Nat.ble (j + n) sz = true) :
    OpU P cx (.store t x y) ty ⟨tm, st, nb⟩ (.r true nw k ver e sz (l.set i (setD cs j (cellsD d))) :: st) nb := u_storer hx hr hl hy hd hv h1 hj
theorem u_store' {t ty : TypeId} {x y : Operand} {k off sz : Nat} {ag : Bool} {z : List Value} {v : V} {vs old : List V} [hT : TyI P t ag (sz + 1) z] (hx : evalV ⟨tm, st, nb⟩ x = some (.ptr k off)) (hy : evalV ⟨tm, st, nb⟩ y = some v) (hv : cellsV v = some vs) (hl : vs.length = sz + 1) (h1 : leaves vs = true) (hold : cellsAt k off st (sz + 1) = some old) :
    OpU P cx (.store t x y) ty ⟨tm, st, nb⟩ (.c k off vs :: st) nb := u_store hx hy hv hl h1 hold
theorem vs_p {d : Option Tmp} {op : Op} {ty : TypeId} {pos : String} {af : Array Edge} {gd : Option (Nat × Bool)} {v : V} (k : Q (.panic v) ⟨tm, st, nb⟩)
    (h : OpP P cx op ty ⟨tm, st, nb⟩ v := by
      first
        | ((with_reducible apply p_panic); rfl) | ((with_reducible apply p_panicd); rfl))
    (hw : Wd ops tm gd := by first | exact trivial | exact wd_of rfl rfl (by with_reducible rfl)) (hn : noDefer op = true := by rfl) : VL P cx ops (⟨d, op, ty, pos, af, gd⟩ :: rest) ⟨tm, st, nb⟩ Q := vl_p h hw hn k
theorem vs_case {d : Tmp} {op : Op} {ty : TypeId} {pos : String} {af : Array Edge} {j : Nat} {b : Bool} {t : Nat} {p : Prop} [Decidable p] (k1 : p → VL P cx ops (⟨some d, op, ty, pos, af, some (j, b)⟩ :: rest) ⟨(t, .d (.lit (.bool true))) :: tm, st, nb⟩ Q) (k2 : ¬ p → VL P cx ops (⟨some d, op, ty, pos, af, some (j, b)⟩ :: rest) ⟨(t, .d (.lit (.bool false))) :: tm, st, nb⟩ Q)
    (_h1 : (ops[j]?).bind (·.dst) = some t := by rfl) (h2 : lookT t tm = some (.d (.lit (.bool (decide p)))) := by rfl) : VL P cx ops (⟨some d, op, ty, pos, af, some (j, b)⟩ :: rest) ⟨tm, st, nb⟩ Q := vl_casep h2 k1 k2
theorem vs_caseb {d : Tmp} {op : Op} {ty : TypeId} {pos : String} {af : Array Edge} {j : Nat} {b c : Bool} {t : Nat} (k1 : c = true → VL P cx ops (⟨some d, op, ty, pos, af, some (j, b)⟩ :: rest) ⟨(t, .d (.lit (.bool true))) :: tm, st, nb⟩ Q) (k2 : c = false → VL P cx ops (⟨some d, op, ty, pos, af, some (j, b)⟩ :: rest) ⟨(t, .d (.lit (.bool false))) :: tm, st, nb⟩ Q)
    (_h1 : (ops[j]?).bind (·.dst) = some t := by rfl) (h2 : lookT t tm = some (.d (.lit (.bool c))) := by rfl) : VL P cx ops (⟨some d, op, ty, pos, af, some (j, b)⟩ :: rest) ⟨tm, st, nb⟩ Q := vl_case h2 k1 k2
theorem vs_lit {d : Tmp} {op : Op} {ty : TypeId} {pos : String} {af : Array Edge} {j : Nat} {b : Bool} {t : Nat} (k : VL P cx ops (⟨some d, op, ty, pos, af, some (j, b)⟩ :: rest) ⟨tm, st, nb⟩ Q)
    (_h1 : (ops[j]?).bind (·.dst) = some t := by rfl) {v : V} (_h2 : lookT t tm = some v := by rfl) (_h3 : v = .d (.lit (.bool true)) ∨ v = .d (.lit (.bool false)) := by first | (left; with_reducible rfl) | (right; with_reducible rfl)) : VL P cx ops (⟨some d, op, ty, pos, af, some (j, b)⟩ :: rest) ⟨tm, st, nb⟩ Q := k
theorem vs_pan {t : Tmp} {x : Operand} {f : FuncId} {xs : Array Operand} {tys : Array TypeId} {ty : TypeId} {pos : String} {af : Array Edge} {gd : Option (Nat × Bool)} {v : V} {vs az : List V} {ds' ds : List D} {d : D}
    (hc : VP P f ds (· = .panic d)) (k : Q (.panic (.d d)) ⟨tm, st, nb⟩) (hx : evalV ⟨tm, st, nb⟩ x = some v := by rfl) (hv : evalVs ⟨tm, st, nb⟩ xs.toList = some vs := by rfl) (hf : fnV v vs = some (f, az) := by rfl) (ha : AD st az ds' := by first | exact ad_of rfl | ((repeat' (first | exact ad_nil | exact ad_map | ((apply ad_cons); rfl))); fail_if_success (focus skip))) (hd : DLs ds' ds := by ((repeat' (first | exact dls_nil | with_reducible apply dls_cons | with_reducible exact dl_lit _ | with_reducible exact dl_lf _ | infer_instance | with_reducible apply dl_agg | with_reducible apply dl_ifc | with_reducible apply dl_pt | with_reducible apply dl_fn | with_reducible apply dl_slr | assumption | apply dl_slr)); fail_if_success (focus skip))) (hw : Wd ops tm gd := by first | exact trivial | exact wd_of rfl rfl (by with_reducible rfl)) (ht : Nat.blt t cx.N = true := by rfl) :
    VL P cx ops (⟨some t, .call { callee := .value x, args := xs, argTypes := tys }, ty, pos, af, gd⟩ :: rest) ⟨tm, st, nb⟩ Q := vl_pan hc hx hv hf ha hd hw ht k
theorem vs_lentp {t : Tmp} {x : Operand} {f : FuncId} {xs : Array Operand} {tys : Array TypeId} {ty : TypeId} {pos : String} {af : Array Edge} {gd : Option (Nat × Bool)} {v : V} {vs az : List V} {ds' ds : List D} {d : D}
    (hc : VP P f ds (· = .panic d)) (k : Q (.panic (.d d)) ⟨tm, st, nb⟩) (hx : evalV ⟨tm, st, nb⟩ x = some v := by rfl) (hv : evalVs ⟨tm, st, nb⟩ xs.toList = some vs := by rfl) (hf : fnV v vs = some (f, az) := by rfl) (ha : lendDs st 64 az = some ds' := by rfl) (hd : DLs ds' ds := by ((repeat' (first | exact dls_nil | with_reducible apply dls_cons | with_reducible exact dl_lit _ | with_reducible exact dl_lf _ | infer_instance | with_reducible apply dl_agg | with_reducible apply dl_ifc | with_reducible apply dl_pt | with_reducible apply dl_fn | with_reducible apply dl_slr | assumption | apply dl_slr)); fail_if_success (focus skip))) (hfl : NewD d := by infer_instance) (hw : Wd ops tm gd := by first | exact trivial | exact wd_of rfl rfl (by with_reducible rfl)) (ht : Nat.blt t cx.N = true := by rfl) :
    VL P cx ops (⟨some t, .call { callee := .value x, args := xs, argTypes := tys }, ty, pos, af, gd⟩ :: rest) ⟨tm, st, nb⟩ Q := vl_lent hc hx hv hf ha hd hfl hw ht (fun _ e => by cases e) (fun _ _ _ e => by cases e) (fun _ e => by cases e; exact k)
theorem vw_cid {c : Operand} {x y : Code} (h : VW P cx (.cond c x y) s Q) : VW P cx (.cond c x y) s Q := h
theorem vw_condt {c : Operand} {x y : Code} (ht : VW P cx x s Q) (hc : evalV s c = some (.d (.lit (.bool true))) := by exact ev_of rfl (by with_reducible rfl)) : VW P cx (.cond c x y) s Q := vw_cond hc (fun _ => ht) (fun h => by cases h)
theorem vw_condf {c : Operand} {x y : Code} (ht : VW P cx y s Q) (hc : evalV s c = some (.d (.lit (.bool false))) := by exact ev_of rfl (by with_reducible rfl)) : VW P cx (.cond c x y) s Q := vw_cond hc (fun h => by cases h) (fun _ => ht)
theorem vw_cp {c : Operand} {x y : Code} {p : Prop} [Decidable p] (ht : p → VW P cx x s Q) (hf : ¬ p → VW P cx y s Q) (hc : evalV s c = some (.d (.lit (.bool (decide p)))) := by rfl) : VW P cx (.cond c x y) s Q := vw_condp hc ht hf
theorem vw_cb {c : Operand} {x y : Code} {b : Bool} (ht : b = true → VW P cx x s Q) (hf : b = false → VW P cx y s Q) (hc : evalV s c = some (.d (.lit (.bool b))) := by rfl) : VW P cx (.cond c x y) s Q := vw_cond hc ht hf
theorem nx_blkx {i j : Nat} (hj : Nat.beq j i = true) (h : Q .normal s) : blockV i Q (.exit j) s := by simp only [blockV, hj]; exact h
theorem nx_blky {i j : Nat} (hj : Nat.beq j i = false) (h : Q (.exit j) s) : blockV i Q (.exit j) s := by simp only [blockV, hj]; exact h
theorem rt_id {rs : List ResultVar} {post : R → Prop} (h : retQ P rs post .ret s) : retQ P rs post .ret s := h
theorem rt_idp {rs : List ResultVar} {post : R → Prop} {v : V} (h : retQ P rs post (.panic v) s) : retQ P rs post (.panic v) s := h
theorem rt_a {rs : List ResultVar} {post : R → Prop} {vs : List V} {d : D} (k : post (.ret d))
    (h : ResV P s rs vs := by repeat' (first | exact ResV.nil | (apply ResV.tmp; rfl) | (apply ResV.cell; infer_instance; rfl; rfl) | (apply ResV.cells; infer_instance; rfl; rfl))) (hd : retD s.st (packV vs) = some d := by rfl) : retQ P rs post .ret s := ⟨vs, h, .inl ⟨d, hd, k⟩⟩
theorem rt_o {rs : List ResultVar} {post : R → Prop} {vs : List V} {k ver : Nat} {nw : Bool} {e : TypeId} {sz : Nat} {l : List (List D)} (q : post (.own e sz l))
    (h : ResV P s rs vs := by repeat' (first | exact ResV.nil | (apply ResV.tmp; rfl) | (apply ResV.cell; infer_instance; rfl; rfl) | (apply ResV.cells; infer_instance; rfl; rfl))) (hd : packV vs = .row k ver := by rfl) (hr : rowAt k s.st = some (true, nw, ver, e, sz, l) := by rfl) : retQ P rs post .ret s := ⟨vs, h, .inr ⟨k, nw, ver, e, sz, l, hd, hr, q⟩⟩
theorem rt_n {post : R → Prop} (k : post (.ret (.tup []))) : retQ P [] post .normal s := ⟨[], .nil, .inl ⟨_, rfl, k⟩⟩
theorem rt_nr {post : R → Prop} (k : post (.ret (.tup []))) : retQ P [] post .ret s := ⟨[], .nil, .inl ⟨_, rfl, k⟩⟩
theorem rt_pan {rs : List ResultVar} {post : R → Prop} {v : V} {d : D} (hd : retD s.st v = some d) (k : post (.panic d)) : retQ P rs post (.panic v) s := ⟨d, hd, k⟩
theorem vw_len {c : Code} {cc f : Bool} {l : List (List D)} (t : Tmp) (ht : lookT t s.tm = some (.d (.sl cc f l))) (k : l.length ≤ 9223372036854775807 → VW P cx c s Q) : VW P cx c s Q := fun n g0 w0 g a w hE hS => by
  have h := hS.tm ht
  simp only [vrep, drep] at h
  obtain ⟨_, cap, _, _, h1, h2, _⟩ := h
  exact k (by simp only [maxLen] at h2; omega) n g0 w0 g a w hE hS
theorem dlss_of {l : List (List D)} (h : ∀ x ∈ l, DLs x x) : DLss l l := ⟨fun B B' U w u k => by
  induction l generalizing u with
  | nil => simpa only [drepss] using k
  | cons x xs ih =>
    simp only [drepss] at k ⊢
    obtain ⟨c1, c2, e, k1, k2⟩ := k
    exact ⟨c1, c2, e, (h x (by simp)).le _ _ _ _ _ k1, ih (fun y hy => h y (by simp [hy])) _ k2⟩, rfl, fun _ h => h⟩
instance dlss_nil : DLss [] [] := dlss_of fun _ h => by simp at h
instance dlss_cons {x : List D} {l : List (List D)} [h : DLs x x] [hs : DLss l l] : DLss (x :: l) (x :: l) := ⟨fun B B' U w u k => by
  simp only [drepss] at k ⊢
  obtain ⟨c1, c2, e, k1, k2⟩ := k
  exact ⟨c1, c2, e, h.le _ _ _ _ _ k1, hs.le _ _ _ _ _ k2⟩, rfl, fun _ h => h⟩
end
end Go.Proofs.YtnjaohdadaifhaaGreat

namespace Go.Proofs.YtnjaohdadaifhaaGreat
set_option maxRecDepth 20000
open Go.RowKit
section
variable {P : Program} {ops : Array Oper} {Q : Exit → Act → World → Prop} {S : World → Prop} {L : Array Bool → Act → World → Prop} {n : Nat}
def un (listed : Array Bool) : Nat → Nat
  | 0 => 0
  | k + 1 => (if listed.getD k true = true then 0 else 1) + un listed k
theorem un_congr {l l' : Array Bool} : ∀ k, (∀ i, i < k → l.getD i true = l'.getD i true) → un l k = un l' k
  | 0, _ => rfl
  | k + 1, h => by rw [un, un, h k (by omega), un_congr k (fun i hi => h i (by omega))]
theorem un_set {l : Array Bool} {i : Nat} (hi : l.getD i true = false) : ∀ k, i < k → un (l.setIfInBounds i true) k + 1 = un l k
  | 0, h => by omega
  | k + 1, h => by
    have hlt : i < l.size := by
      rcases Nat.lt_or_ge i l.size with h' | h'
      · exact h'
      · simp [Array.getElem?_eq_none h'] at hi
    by_cases e : i = k
    · subst e
      have h1 : (l.setIfInBounds i true).getD i true = true := by simp [hlt]
      rw [un, un, h1, hi, un_congr (l := l.setIfInBounds i true) (l' := l) i (fun j hj => getD_set_ne true (by omega))]
      simp; omega
    · rw [un, un, getD_set_ne true e]
      have := un_set hi k (by omega)
      omega
theorem un_pos {l : Array Bool} : ∀ {k}, 0 < un l k → ∃ i, i < k ∧ l.getD i true = false
  | 0, h => by simp [un] at h
  | k + 1, h => by
    cases e : l.getD k true with
    | false => exact ⟨k, by omega, e⟩
    | true =>
      rw [un, e] at h
      obtain ⟨i, hi, he⟩ := un_pos (k := k) (by simpa using h)
      exact ⟨i, by omega, he⟩
theorem un_none (m : Nat) : ∀ k, k ≤ m → un (Array.replicate m false) k = k
  | 0, _ => rfl
  | k + 1, h => by
    rw [un, un_none m k (by omega)]
    simp [show k < m from by omega]; omega
inductive Seg where
  | q (l : List Nat)
  | e (i : Nat)
def headDone (m n : Nat) : Array Bool := ((List.range m).map fun i => decide (i < n)).toArray
theorem un_zero {l : Array Bool} : ∀ {k}, un l k = 0 → ∀ i, i < k → l.getD i true = true
  | 0, _, i, hi => by omega
  | k + 1, h, i, hi => by
    rw [un] at h
    by_cases e : i = k
    · subst e
      cases e2 : l.getD i true with
      | true => rfl
      | false => rw [e2] at h; simp at h
    · exact un_zero (k := k) (by omega) i (by omega)
theorem listed_eq {listed : Array Bool} (inv : HeadInv .any ops n listed) (hu : un listed n = 0) : listed = headDone ops.size n := by
  apply Array.ext
  · simp [headDone, inv.size]
  · intro i h1 h2
    have hs := inv.size
    rw [show (headDone ops.size n)[i] = decide (i < n) from by simp [headDone]]
    by_cases e : i < n
    · have := un_zero hu i e
      simp [h1] at this
      simp [this, e]
    · have := inv.tail i (by omega) (by omega)
      simp [h1] at this
      simp [this, e]
end
section
variable {P : Program} {ops : Array Oper} {C : World → Prop} {Q : Act → Prop} {rest : List Oper} {a : Act} {dst : Option Tmp} {p : Operand} {lt ty : TypeId} {pos : String} {af : Array Edge} {g : Option (Nat × Bool)} {b o : Nat} {v : Value}
end
inductive SegO where
  | q (l : List Oper)
  | e (o : Oper)
def idx : Nat → List SegO → List Seg
  | _, [] => []
  | k, .q l :: r => .q (List.range' k l.length) :: idx (k + l.length) r
  | k, .e _ :: r => .e k :: idx (k + 1) r
section
variable {P : Program} {Q : Exit → Act → World → Prop} {S : World → Prop}
end
end Go.Proofs.YtnjaohdadaifhaaGreat
