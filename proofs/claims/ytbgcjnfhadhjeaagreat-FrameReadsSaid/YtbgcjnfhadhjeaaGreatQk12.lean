/- Walks by data and names, part 12: Structs of numbers compared. One step of a walk: the operation's law is found by itself. A region that draws its order: reads and reckonings ('quiet' in a class S of worlds), steps that turn the world in one forced order among them, and a tail that waits for all: ONE walk, in an order that is named and checked by the kernel. -/
import Derived.StillTailTactics
import Derived.Deep.RegionHeld3
import Derived.Test.YtbgcjnfhadhjeaaGreatQk4
import Derived.Test.YtbgcjnfhadhjeaaGreatQk11
import Derived.Test.YtbgcjnfhadhjeaaGreatQk1
namespace Go.Proofs.YtbgcjnfhadhjeaaGreat
set_option maxRecDepth 20000
open Go.RowKit
def NQ (P : Program) : Nat → List Field → Bool
 | _, [] => true
 | o, f :: fs => f.name != "_" && f.offset == o && (match P.underlying f.type with | some (.int _) => true | _ => false) && NQ P (o + 1) fs
class Kb (P : Program) (t : TypeId) (n : outParam Nat) : Prop where
 und : P.underlying t = some (.struct (P.fieldsOf t))
 held : P.stoodInHeld t = false
 no : P.eqGuardType P.depth t = false
 fs : NQ P 0 (P.fieldsOf t).toList = true
 len : (P.fieldsOf t).toList.length = n
def Fy (x : IntKind × Int) : Value := .int x.1 x.2
def iDs : List D → Option (List (IntKind × Int))
 | [] => some []
 | .lit (.int k n) :: r => (iDs r).map ((k, n) :: ·)
 | _ => none
def iVs : List V → Option (List (IntKind × Int))
 | [] => some []
 | .d (.lit (.int k n)) :: r => (iVs r).map ((k, n) :: ·)
 | _ => none
def Wi : V → Option (List (IntKind × Int))
 | .agg l => iVs l
 | .d (.agg l) => iDs l
 | _ => none
theorem RE {B : Nat} {U : Nat → Prop} {w : World} : ∀ {l : List D} {r : List (IntKind × Int)} {us : List Value}, iDs l = some r → dreps B U w l us → us = r.map Fy
 | [], r, us, h, hu => by simp only [iDs, Option.some.injEq] at h; subst h; simpa only [dreps, List.map_nil] using hu
 | .lit (.int k n) :: l, r, us, h, hu => by
  simp only [iDs, Option.map_eq_some_iff] at h
  obtain ⟨q, h, rfl⟩ := h
  simp only [dreps, drep] at hu
  obtain ⟨y, ys, rfl, rfl, k⟩ := hu
  rw [RE h k]; rfl
theorem RD {B : Nat} {g : G} {w : World} : ∀ {l : List V} {r : List (IntKind × Int)} {us : List Value}, iVs l = some r → vreps B g w l us → us = r.map Fy
 | [], r, us, h, hu => by simp only [iVs, Option.some.injEq] at h; subst h; simpa only [vreps, List.map_nil] using hu
 | .d (.lit (.int k n)) :: l, r, us, h, hu => by
  simp only [iVs, Option.map_eq_some_iff] at h
  obtain ⟨q, h, rfl⟩ := h
  simp only [vreps, vrep, drep] at hu
  obtain ⟨y, ys, rfl, rfl, k⟩ := hu
  rw [RD h k]; rfl
theorem Kz {B : Nat} {g : G} {w : World} {v : V} {r : List (IntKind × Int)} {u : Value} (h : Wi v = some r) (hu : vrep B g w v u) : u = .agg (r.map Fy).toArray := by
 unfold Wi at h
 split at h
 ·simp only [vrep] at hu; obtain ⟨us, rfl, k⟩ := hu; rw [RD h k]
 ·simp only [vrep, drep] at hu; obtain ⟨us, rfl, k⟩ := hu; rw [RE h k]
 ·cases h
theorem FC {P : Program} {w : World} (d : Nat) (X Y : List Value) : ∀ (fs : List Field) (o : Nat) (xs ys : List (IntKind × Int)), NQ P o fs = true → X.drop o = xs.map Fy → Y.drop o = ys.map Fy → xs.map (·.1) = ys.map (·.1) → xs.length = fs.length →
  (Op.eqFields (d + 1) X.toArray Y.toArray fs).run P w = .ok (decide (xs.map (·.2) = ys.map (·.2))) w
 | [], o, xs, ys, _, _, _, hk, hl => by
  have h1 : xs = [] := List.eq_nil_of_length_eq_zero hl
  subst h1
  have h2 : ys = [] := by cases ys; rfl; simp at hk
  subst h2
  simp [Op.eqFields]
 | f :: fs, o, [], ys, _, _, _, _, hl => by simp at hl
 | f :: fs, o, x :: xs, [], _, _, _, hk, _ => by simp at hk
 | f :: fs, o, x :: xs, y :: ys, hf, hX, hY, hk, hl => by
  simp only [NQ, Bool.and_eq_true, beq_iff_eq, bne_iff_ne, ne_eq] at hf
  obtain ⟨⟨⟨hn, ho⟩, hu⟩, hr⟩ := hf
  have hu : ∃ k, P.underlying f.type = some (.int k) := by
   split at hu
   ·exact ⟨_, by assumption⟩
   ·cases hu
  obtain ⟨k, hu⟩ := hu
  have get {Z : List Value} {z : IntKind × Int} {zs : List (IntKind × Int)} (h : Z.drop o = (z :: zs).map Fy) : Z[o]? = some (Fy z) ∧ Z.drop (o + 1) = zs.map Fy := by
   have h0 := congrArg (fun l => l[0]?) h
   have h1 := congrArg (fun l => l.drop 1) h
   simp at h0 h1
   exact ⟨h0, by simpa using h1⟩
  obtain ⟨x0, hX1⟩ := get hX
  obtain ⟨y0, hY1⟩ := get hY
  have hp : P.plainKey f.type = true := by simp [Program.plainKey, hu]
  have p1 : (part f.type X.toArray f.offset).run P w = .ok (Fy x) w := run_part_plain w hp (by rw [ho]; simpa using x0)
  have p2 : (part f.type Y.toArray f.offset).run P w = .ok (Fy y) w := run_part_plain w hp (by rw [ho]; simpa using y0)
  obtain ⟨kx, a⟩ := x
  obtain ⟨ky, b⟩ := y
  simp only [List.map_cons, List.cons.injEq] at hk
  obtain ⟨e, hk⟩ := hk
  have e : kx = ky := e
  subst e
  have he : (Op.equalIn (d + 1) f.type (Fy (kx, a)) (Fy (kx, b))).run P w = .ok (a == b) w := run_equalIn_int w d f.type kx k a b hu
  have ih := FC (w := w) d X Y fs (o + 1) xs ys hr hX1 hY1 hk (by simpa using hl)
  simp only [Op.eqFields, hn, ne_eq, not_false_eq_true, if_true, Sem.run_bind, p1, p2, Result.andThen_ok, he, List.map_cons, List.cons.injEq]
  by_cases hc : a = b
  ·simp only [hc, beq_self_eq_true, Bool.not_true, Bool.false_eq_true, if_false, ih, true_and]
  ·simp [hc]
section
variable {P : Program} {cx : Cx} {s : St}
theorem OC {w : World} {t : TypeId} {n : Nat} [hF : Kb P t n] {xs ys : List (IntKind × Int)} (hk : xs.map (·.1) = ys.map (·.1)) (hl : xs.length = n) :
  (Op.equalIn 10000 t (.agg (xs.map Fy).toArray) (.agg (ys.map Fy).toArray)).run P w = .ok (decide (xs.map (·.2) = ys.map (·.2))) w := by
 rw [run_equalIn_struct w 9999 t _ _ hF.und hF.held]
 exact FC 9998 _ _ _ 0 xs ys hF.fs (by simp) (by simp) hk (by rw [hl, hF.len])
theorem UN {t yt ty : TypeId} {x y : Operand} {v1 v2 : V} {xs ys : List (IntKind × Int)} {n : Nat} {r : Bool} [hF : Kb P t n] (hx : Af s x = some v1) (hy : Af s y = some v2) (h1 : Wi v1 = some xs) (h2 : Wi v2 = some ys) (hk : xs.map (·.1) = ys.map (·.1)) (hl : xs.length = n) (hr : decide (xs.map (·.2) = ys.map (·.2)) = r) :
  Bq P cx (.binOp .eql t x y yt) ty s (.d (.lit (.bool r))) := fun g a w hS => by
 have e1 := Kz h1 (hS.eval hx)
 have e2 := Kz h2 (hS.eval hy)
 have hg := run_eqGuard_agg (P := P) (w := w) .eql t x y (xs.map Fy).toArray (ys.map Fy).toArray hF.no
 have hs := run_eql_struct (P := P) (w := w) t (xs.map Fy).toArray (ys.map Fy).toArray
 rw [OC (w := w) hk hl, hr] at hs
 exact ⟨.bool r, by simp [execOp, e1, e2, hg, hs], by simp only [vrep, drep]⟩
theorem OP {t yt ty : TypeId} {x y : Operand} {v1 v2 : V} {xs ys : List (IntKind × Int)} {n : Nat} {r : Bool} [hF : Kb P t n] (hx : Af s x = some v1) (hy : Af s y = some v2) (h1 : Wi v1 = some xs) (h2 : Wi v2 = some ys) (hk : xs.map (·.1) = ys.map (·.1)) (hl : xs.length = n) (hr : decide (xs.map (·.2) = ys.map (·.2)) = r) :
  Bq P cx (.binOp .neq t x y yt) ty s (.d (.lit (.bool (!r)))) := fun g a w hS => by
 have e1 := Kz h1 (hS.eval hx)
 have e2 := Kz h2 (hS.eval hy)
 have hg := run_eqGuard_agg (P := P) (w := w) .neq t x y (xs.map Fy).toArray (ys.map Fy).toArray hF.no
 have hs := run_neq_struct (P := P) (w := w) t (xs.map Fy).toArray (ys.map Fy).toArray
 rw [OC (w := w) hk hl, hr] at hs
 exact ⟨.bool (!r), by simp [execOp, e1, e2, hg, hs], by simp only [vrep, drep]⟩
theorem PW {t yt ty : TypeId} {x y : Operand} {v1 v2 : V} {xs ys : List (IntKind × Int)} {n : Nat} [hF : Kb P t n] (hx : Af s x = some v1) (hy : Af s y = some v2) (h1 : Wi v1 = some xs) (h2 : Wi v2 = some ys) (hk : xs.map (·.1) = ys.map (·.1)) (hl : xs.length = n) (hr : decide (xs.map (·.2) = ys.map (·.2)) = true) :
  Bq P cx (.binOp .neq t x y yt) ty s (.d (.lit (.bool false))) := OP hx hy h1 h2 hk hl hr
theorem PX {t yt ty : TypeId} {x y : Operand} {v1 v2 : V} {xs ys : List (IntKind × Int)} {n : Nat} [hF : Kb P t n] (hx : Af s x = some v1) (hy : Af s y = some v2) (h1 : Wi v1 = some xs) (h2 : Wi v2 = some ys) (hk : xs.map (·.1) = ys.map (·.1)) (hl : xs.length = n) (hr : decide (xs.map (·.2) = ys.map (·.2)) = false) :
  Bq P cx (.binOp .neq t x y yt) ty s (.d (.lit (.bool true))) := OP hx hy h1 h2 hk hl hr
end

section
variable {P : Program} {cx : Cx} {tm : List (Nat × V)} {st : List E} {nb : Nat} {s : St} {Q : VE → St → Prop} {ops rest : List Oper}
section
variable {ty t y : TypeId} {x z : Operand} {v : V}
theorem UY (h : Bq P cx (.load t x) ty s v) : Bq P cx (.load t x) ty s v := h
theorem Qd {b : BinOp} (h : Bq P cx (.binOp b t x z y) ty s v) : Bq P cx (.binOp b t x z y) ty s v := h
theorem U0 {i : Nat} (h : Bq P cx (.fieldAddr t x i) ty s v) : Bq P cx (.fieldAddr t x i) ty s v := h
theorem UW {b : UnOp} (h : Bq P cx (.unOp b t x) ty s v) : Bq P cx (.unOp b t x) ty s v := h
theorem Qc (h : Bq P cx (.nilCheck x) ty s v) : Bq P cx (.nilCheck x) ty s v := h
theorem UZ (h : Bq P cx (.indexAddr t x z) ty s v) : Bq P cx (.indexAddr t x z) ty s v := h
theorem NI {c : Call} (h : Bq P cx (.call c) ty s v) : Bq P cx (.call c) ty s v := h
theorem UX {a b c : Option Operand} (h : Bq P cx (.slice t x a b c) ty s v) : Bq P cx (.slice t x a b c) ty s v := h
end
theorem QH (h : VL P cx ops rest s Q) : VL P cx ops rest s Q := h
theorem Zp {t ty e : TypeId} {x y : Operand} {k ver sz by_ : Nat} {l l2 : List (List D)} {nw : Bool} {v2 : V} [hE : EQ P t e sz by_] (hx : Af ⟨tm, st, nb⟩ x = some (.row k ver)) (hr : Az k st = some (true, nw, ver, e, sz, l)) (hy : Af ⟨tm, st, nb⟩ y = some v2) (hsrc : Ic st sz v2 l2)
  (hb : (l.length + l2.length) * by_ ≤ 140737488355328) (h0 : 0 < by_) : Y4 P cx (.call { callee := .builtin .append, args := #[x, y], argTypes := #[t, t] }) ty ⟨tm, st, nb⟩ (.row k (ver + 1)) (.r true nw k (ver + 1) e sz (l ++ l2) :: st) nb := Abu hx hr hy hsrc hb h0
theorem WK {t t2 ty e : TypeId} {x y : Operand} {k ver by_ : Nat} {nw : Bool} {l l2 : List (List D)} {v2 : V} [hE : EQ P t e 1 by_] (hx : Af ⟨tm, st, nb⟩ x = some (.row k ver)) (hr : Az k st = some (true, nw, ver, e, 1, l)) (hy : Af ⟨tm, st, nb⟩ y = some v2) (hsrc : Ic st 1 v2 l2) (hl : l2.length = l.length) :
  Y4 P cx (.call { callee := .builtin .copy, args := #[x, y], argTypes := #[t, t2] }) ty ⟨tm, st, nb⟩ (I .i64 (l2.length : Int)) (.r true nw k ver e 1 l2 :: st) nb := Zo hx hr hy hsrc hl
theorem Mv {t ty e : TypeId} {x y : Operand} {k ver sz i j n : Nat} {ag nw : Bool} {z : List Value} {l : List (List D)} {cs : List D} {v : V} {vs : List V} {d : D} [hT : BE P t ag n z] (hx : Af ⟨tm, st, nb⟩ x = some (.rp k ver sz i j)) (hr : Az k st = some (true, nw, ver, e, sz, l)) (hl : l[i]? = some cs) (hy : Af ⟨tm, st, nb⟩ y = some v) (hd : Fz st v = some d) (hv : Bt (.d d) = some vs) (h1 : (Ca vs && Nat.beq vs.length n) = true) (hj : Nat.ble (j + n) sz = true) :
  Y5 P cx (.store t x y) ty ⟨tm, st, nb⟩ (.r true nw k ver e sz (l.set i (DP cs j (AQ d))) :: st) nb := TA hx hr hl hy hd hv h1 hj
theorem Bi {t ty : TypeId} {x y : Operand} {k off sz : Nat} {ag : Bool} {z : List Value} {v : V} {vs old : List V} [hT : BE P t ag (sz + 1) z] (hx : Af ⟨tm, st, nb⟩ x = some (.ptr k off)) (hy : Af ⟨tm, st, nb⟩ y = some v) (hv : Bt v = some vs) (hl : vs.length = sz + 1) (h1 : Ca vs = true) (hold : AM k off st (sz + 1) = some old) :
  Y5 P cx (.store t x y) ty ⟨tm, st, nb⟩ (.c k off vs :: st) nb := WN hx hy hv hl h1 hold
theorem Gt {op : Op} {ty : TypeId} {pos : String} {af : Array Edge} {gd : Option (Nat × Bool)} {st' : List E} {nb' : Nat} (k : VL P cx ops rest ⟨tm, st', nb'⟩ Q)
  (h : Y5 P cx op ty ⟨tm, st, nb⟩ st' nb' := by
   first
    | ((with_reducible apply Bi) <;> rfl)
    | ((with_reducible apply Mv); rfl; rfl; (first | rfl | assumption); rfl; rfl; rfl; rfl; rfl))
  (hw : Wd ops tm gd := by first | exact trivial | exact A1 rfl rfl (by with_reducible rfl)) (hn : BS op = true := by rfl) : VL P cx ops (⟨none, op, ty, pos, af, gd⟩ :: rest) ⟨tm, st, nb⟩ Q := Zh h hw hn k
theorem Ac2 {d : Option Tmp} {op : Op} {ty : TypeId} {pos : String} {af : Array Edge} {gd : Option (Nat × Bool)} {v : V} (k : Q (.panic v) ⟨tm, st, nb⟩)
  (h : OpP P cx op ty ⟨tm, st, nb⟩ v := by
   first
    | ((with_reducible apply Xv); rfl) | ((with_reducible apply UV); rfl))
  (hw : Wd ops tm gd := by first | exact trivial | exact A1 rfl rfl (by with_reducible rfl)) (hn : BS op = true := by rfl) : VL P cx ops (⟨d, op, ty, pos, af, gd⟩ :: rest) ⟨tm, st, nb⟩ Q := Ac4 h hw hn k
theorem Wu {d : Tmp} {op : Op} {ty : TypeId} {pos : String} {af : Array Edge} {j : Nat} {b : Bool} {t : Nat} {p : Prop} [Decidable p] (k1 : p → VL P cx ops (⟨some d, op, ty, pos, af, some (j, b)⟩ :: rest) ⟨(t, .d (.lit (.bool true))) :: tm, st, nb⟩ Q) (k2 : ¬ p → VL P cx ops (⟨some d, op, ty, pos, af, some (j, b)⟩ :: rest) ⟨(t, .d (.lit (.bool false))) :: tm, st, nb⟩ Q)
  (_h1 : (ops[j]?).bind (·.dst) = some t := by rfl) (h2 : AA t tm = some (.d (.lit (.bool (decide p)))) := by rfl) : VL P cx ops (⟨some d, op, ty, pos, af, some (j, b)⟩ :: rest) ⟨tm, st, nb⟩ Q := Ti h2 k1 k2
theorem S7 {d : Tmp} {op : Op} {ty : TypeId} {pos : String} {af : Array Edge} {j : Nat} {b c : Bool} {t : Nat} (k1 : c = true → VL P cx ops (⟨some d, op, ty, pos, af, some (j, b)⟩ :: rest) ⟨(t, .d (.lit (.bool true))) :: tm, st, nb⟩ Q) (k2 : c = false → VL P cx ops (⟨some d, op, ty, pos, af, some (j, b)⟩ :: rest) ⟨(t, .d (.lit (.bool false))) :: tm, st, nb⟩ Q)
  (_h1 : (ops[j]?).bind (·.dst) = some t := by rfl) (h2 : AA t tm = some (.d (.lit (.bool c))) := by rfl) : VL P cx ops (⟨some d, op, ty, pos, af, some (j, b)⟩ :: rest) ⟨tm, st, nb⟩ Q := QI h2 k1 k2
theorem Zc {d : Tmp} {op : Op} {ty : TypeId} {pos : String} {af : Array Edge} {j : Nat} {b : Bool} {t : Nat} (k : VL P cx ops (⟨some d, op, ty, pos, af, some (j, b)⟩ :: rest) ⟨tm, st, nb⟩ Q)
  (_h1 : (ops[j]?).bind (·.dst) = some t := by rfl) {v : V} (_h2 : AA t tm = some v := by rfl) (_h3 : v = .d (.lit (.bool true)) ∨ v = .d (.lit (.bool false)) := by first | (left; with_reducible rfl) | (right; with_reducible rfl)) : VL P cx ops (⟨some d, op, ty, pos, af, some (j, b)⟩ :: rest) ⟨tm, st, nb⟩ Q := k
theorem Ao {t : Tmp} {x : Operand} {f : FuncId} {xs : Array Operand} {tys : Array TypeId} {ty : TypeId} {pos : String} {af : Array Edge} {gd : Option (Nat × Bool)} {v : V} {vs az : List V} {ds' ds : List D} {d : D}
  (hc : VP P f ds (· = .panic d)) (k : Q (.panic (.d d)) ⟨tm, st, nb⟩) (hx : Af ⟨tm, st, nb⟩ x = some v := by rfl) (hv : AY ⟨tm, st, nb⟩ xs.toList = some vs := by rfl) (hf : GL v vs = some (f, az) := by rfl) (ha : AD st az ds' := by first | exact Jl rfl | ((repeat' (first | exact HD | exact HE | ((apply FM); rfl))); fail_if_success (focus skip))) (hd : El ds' ds := by ((repeat' (first | exact Dj | with_reducible apply CN | with_reducible exact Ex _ | with_reducible exact Gk _ | infer_instance | with_reducible apply Ez | with_reducible apply Ey | with_reducible apply Gj | with_reducible apply Gl | with_reducible apply BN | assumption | apply BN)); fail_if_success (focus skip))) (hw : Wd ops tm gd := by first | exact trivial | exact A1 rfl rfl (by with_reducible rfl)) (ht : Nat.blt t cx.N = true := by rfl) :
  VL P cx ops (⟨some t, .call { callee := .value x, args := xs, argTypes := tys }, ty, pos, af, gd⟩ :: rest) ⟨tm, st, nb⟩ Q := Th hc hx hv hf ha hd hw ht k
theorem S4 {t : Tmp} {x : Operand} {f : FuncId} {xs : Array Operand} {tys : Array TypeId} {ty : TypeId} {pos : String} {af : Array Edge} {gd : Option (Nat × Bool)} {v : V} {vs az : List V} {ds' ds : List D} {d : D}
  (hc : VP P f ds (· = .panic d)) (k : Q (.panic (.d d)) ⟨tm, st, nb⟩) (hx : Af ⟨tm, st, nb⟩ x = some v := by rfl) (hv : AY ⟨tm, st, nb⟩ xs.toList = some vs := by rfl) (hf : GL v vs = some (f, az) := by rfl) (ha : C2 st 64 az = some ds' := by rfl) (hd : El ds' ds := by ((repeat' (first | exact Dj | with_reducible apply CN | with_reducible exact Ex _ | with_reducible exact Gk _ | infer_instance | with_reducible apply Ez | with_reducible apply Ey | with_reducible apply Gj | with_reducible apply Gl | with_reducible apply BN | assumption | apply BN)); fail_if_success (focus skip))) (hfl : FV d := by infer_instance) (hw : Wd ops tm gd := by first | exact trivial | exact A1 rfl rfl (by with_reducible rfl)) (ht : Nat.blt t cx.N = true := by rfl) :
  VL P cx ops (⟨some t, .call { callee := .value x, args := xs, argTypes := tys }, ty, pos, af, gd⟩ :: rest) ⟨tm, st, nb⟩ Q := Nb hc hx hv hf ha hd hfl hw ht (fun _ e => by cases e) (fun _ _ _ e => by cases e) (fun _ e => by cases e; exact k)
theorem SY {c : Operand} {x y : Code} (h : VW P cx (.cond c x y) s Q) : VW P cx (.cond c x y) s Q := h
theorem SV {c : Operand} {x y : Code} (ht : VW P cx x s Q) (hc : Af s c = some (.d (.lit (.bool true))) := by exact FG rfl (by with_reducible rfl)) : VW P cx (.cond c x y) s Q := Kk hc (fun _ => ht) (fun h => by cases h)
theorem SX {c : Operand} {x y : Code} (ht : VW P cx y s Q) (hc : Af s c = some (.d (.lit (.bool false))) := by exact FG rfl (by with_reducible rfl)) : VW P cx (.cond c x y) s Q := Kk hc (fun h => by cases h) (fun _ => ht)
theorem Aba {c : Operand} {x y : Code} {p : Prop} [Decidable p] (ht : p → VW P cx x s Q) (hf : ¬ p → VW P cx y s Q) (hc : Af s c = some (.d (.lit (.bool (decide p)))) := by rfl) : VW P cx (.cond c x y) s Q := SW hc ht hf
theorem Abb {c : Operand} {x y : Code} {b : Bool} (ht : b = true → VW P cx x s Q) (hf : b = false → VW P cx y s Q) (hc : Af s c = some (.d (.lit (.bool b))) := by rfl) : VW P cx (.cond c x y) s Q := Kk hc ht hf
theorem XQ {i j : Nat} (hj : Nat.beq j i = true) (h : Q .normal s) : DT i Q (.exit j) s := by simp only [DT, hj]; exact h
theorem XP {i j : Nat} (hj : Nat.beq j i = false) (h : Q (.exit j) s) : DT i Q (.exit j) s := by simp only [DT, hj]; exact h
theorem AbE {rs : List ResultVar} {post : R → Prop} (h : Fw P rs post .ret s) : Fw P rs post .ret s := h
theorem ZD {rs : List ResultVar} {post : R → Prop} {v : V} (h : Fw P rs post (.panic v) s) : Fw P rs post (.panic v) s := h
theorem Ac9 {rs : List ResultVar} {post : R → Prop} {vs : List V} {d : D} (k : post (.ret d))
  (h : Cr P s rs vs := by repeat' (first | exact Cr.nil | (apply Cr.tmp; rfl) | (apply Cr.cell; infer_instance; rfl; rfl) | (apply Cr.cells; infer_instance; rfl; rfl))) (hd : OI s.st (Dq vs) = some d := by rfl) : Fw P rs post .ret s := ⟨vs, h, .inl ⟨d, hd, k⟩⟩
theorem Ac7 {rs : List ResultVar} {post : R → Prop} {vs : List V} {k ver : Nat} {nw : Bool} {e : TypeId} {sz : Nat} {l : List (List D)} (q : post (.own e sz l))
  (h : Cr P s rs vs := by repeat' (first | exact Cr.nil | (apply Cr.tmp; rfl) | (apply Cr.cell; infer_instance; rfl; rfl) | (apply Cr.cells; infer_instance; rfl; rfl))) (hd : Dq vs = .row k ver := by rfl) (hr : Az k s.st = some (true, nw, ver, e, sz, l) := by rfl) : Fw P rs post .ret s := ⟨vs, h, .inr ⟨k, nw, ver, e, sz, l, hd, hr, q⟩⟩
theorem Ac8 {post : R → Prop} (k : post (.ret (.tup []))) : Fw P [] post .normal s := ⟨[], .nil, .inl ⟨_, rfl, k⟩⟩
theorem AbD {post : R → Prop} (k : post (.ret (.tup []))) : Fw P [] post .ret s := ⟨[], .nil, .inl ⟨_, rfl, k⟩⟩
theorem ZC {rs : List ResultVar} {post : R → Prop} {v : V} {d : D} (hd : OI s.st v = some d) (k : post (.panic d)) : Fw P rs post (.panic v) s := ⟨d, hd, k⟩
theorem Y9 {c : Code} {cc f : Bool} {l : List (List D)} (t : Tmp) (ht : AA t s.tm = some (.d (.sl cc f l))) (k : l.length ≤ 9223372036854775807 → VW P cx c s Q) : VW P cx c s Q := fun n g0 w0 g a w hE hS => by
 have h := hS.tm ht
 simp only [vrep, drep] at h
 obtain ⟨_, cap, _, _, h1, h2, _⟩ := h
 exact k (by simp only [maxLen] at h2; omega) n g0 w0 g a w hE hS
theorem X7 {l : List (List D)} (h : ∀ x ∈ l, El x x) : CO l l := ⟨fun B B' U w u k => by
 induction l generalizing u with
 | nil => simpa only [drepss] using k
 | cons x xs ih =>
  simp only [drepss] at k ⊢
  obtain ⟨c1, c2, e, k1, k2⟩ := k
  exact ⟨c1, c2, e, (h x (by simp)).le _ _ _ _ _ k1, ih (fun y hy => h y (by simp [hy])) _ k2⟩, rfl, fun _ h => h⟩
instance Acm : CO [] [] := X7 fun _ h => by simp at h
instance Aa1 {x : List D} {l : List (List D)} [h : El x x] [hs : CO l l] : CO (x :: l) (x :: l) := ⟨fun B B' U w u k => by
 simp only [drepss] at k ⊢
 obtain ⟨c1, c2, e, k1, k2⟩ := k
 exact ⟨c1, c2, e, h.le _ _ _ _ _ k1, hs.le _ _ _ _ _ k2⟩, rfl, fun _ h => h⟩
end

section
variable {P : Program} {ops : Array Oper} {Q : Exit → Act → World → Prop} {S : World → Prop} {L : Array Bool → Act → World → Prop} {n : Nat}
def un (listed : Array Bool) : Nat → Nat
 | 0 => 0
 | k + 1 => (if listed.getD k true = true then 0 else 1) + un listed k
theorem Ok {l l' : Array Bool} : ∀ k, (∀ i, i < k → l.getD i true = l'.getD i true) → un l k = un l' k
 | 0, _ => rfl
 | k + 1, h => by rw [un, un, h k (by omega), Ok k (fun i hi => h i (by omega))]
theorem PC {l : Array Bool} {i : Nat} (hi : l.getD i true = false) : ∀ k, i < k → un (l.setIfInBounds i true) k + 1 = un l k
 | 0, h => by omega
 | k + 1, h => by
  have hlt : i < l.size := by
   rcases Nat.lt_or_ge i l.size with h' | h'
   ·exact h'
   ·simp [Array.getElem?_eq_none h'] at hi
  by_cases e : i = k
  ·subst e
   have h1 : (l.setIfInBounds i true).getD i true = true := by simp [hlt]
   rw [un, un, h1, hi, Ok (l := l.setIfInBounds i true) (l' := l) i (fun j hj => getD_set_ne true (by omega))]
   simp; omega
  ·rw [un, un, getD_set_ne true e]
   have := PC hi k (by omega)
   omega
theorem Nf {l : Array Bool} : ∀ {k}, 0 < un l k → ∃ i, i < k ∧ l.getD i true = false
 | 0, h => by simp [un] at h
 | k + 1, h => by
  cases e : l.getD k true with
  | false => exact ⟨k, by omega, e⟩
  | true =>
   rw [un, e] at h
   obtain ⟨i, hi, he⟩ := Nf (k := k) (by simpa using h)
   exact ⟨i, by omega, he⟩
theorem Ng (m : Nat) : ∀ k, k ≤ m → un (Array.replicate m false) k = k
 | 0, _ => rfl
 | k + 1, h => by
  rw [un, Ng m k (by omega)]
  simp [show k < m from by omega]; omega
inductive Seg where
 | q (l : List Nat)
 | e (i : Nat)
def Ge (m n : Nat) : Array Bool := ((List.range m).map fun i => decide (i < n)).toArray
theorem Km {l : Array Bool} : ∀ {k}, un l k = 0 → ∀ i, i < k → l.getD i true = true
 | 0, _, i, hi => by omega
 | k + 1, h, i, hi => by
  rw [un] at h
  by_cases e : i = k
  ·subst e
   cases e2 : l.getD i true with
   | true => rfl
   | false => rw [e2] at h; simp at h
  ·exact Km (k := k) (by omega) i (by omega)
theorem Sw {listed : Array Bool} (inv : HeadInv .any ops n listed) (hu : un listed n = 0) : listed = Ge ops.size n := by
 apply Array.ext
 ·simp [Ge, inv.size]
 ·intro i h1 h2
  have hs := inv.size
  rw [show (Ge ops.size n)[i] = decide (i < n) from by simp [Ge]]
  by_cases e : i < n
  ·have := Km hu i e
   simp [h1] at this
   simp [this, e]
  ·have := inv.tail i (by omega) (by omega)
   simp [h1] at this
   simp [this, e]
end
section
variable {P : Program} {ops : Array Oper} {C : World → Prop} {Q : Act → Prop} {rest : List Oper} {a : Act} {dst : Option Tmp} {p : Operand} {lt ty : TypeId} {pos : String} {af : Array Edge} {g : Option (Nat × Bool)} {b o : Nat} {v : Value}
end
inductive Adz where
 | q (l : List Oper)
 | e (o : Oper)
def idx : Nat → List Adz → List Seg
 | _, [] => []
 | k, .q l :: r => .q (List.range' k l.length) :: idx (k + l.length) r
 | k, .e _ :: r => .e k :: idx (k + 1) r
section
variable {P : Program} {Q : Exit → Act → World → Prop} {S : World → Prop}
end

end Go.Proofs.YtbgcjnfhadhjeaaGreat