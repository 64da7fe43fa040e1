/- Walks by data and names, part 10: More operations: parts of slices and of values, rows that are made, copied, written out; loops of so many rounds. Rows that are made, copied, written out; values that are put together. -/
import Derived.Laws.MakeOwn
import Derived.Laws.OwnMore
import Derived.LoopNIn
import Derived.Test.YtbgcjnfhadhjeaaGreatQk9
namespace Go.Proofs.YtbgcjnfhadhjeaaGreat
set_option maxRecDepth 20000
open Go.RowKit
section
variable {P : Program} {cx : Cx} {s : St} {Q : VE → St → Prop} {ops rest : List Oper}
def Mx (K : St → Prop) (Q : VE → St → Prop) : VE → St → Prop
 | .normal, s => K s
 | e, s => Q e s
def RV (P : Program) (cx : Cx) (c : Code) (Q : VE → St → Prop) : Nat → St → Prop
 | 0, _ => False
 | m + 1, s => VW P cx c s (Mx (RV P cx c Q m) Q)
theorem AB (m : Nat) {c : Code} (h : RV P cx c Q m s) : VW P cx (.loop c) s Q := fun n g0 w0 g a w hE hS => by
 refine wpIn_loop_rounds m ?_
 have key : ∀ m s g a w, RV P cx c Q m s → Ei cx.sp cx.m g0 w0 g w → Dg cx g a w s → Code.roundsIn (FW cx.rd) n P c (EY cx g0 w0 Q) m a w := by
  intro m
  induction m with
  | zero => intro s g a w h; exact h.elim
  | succ m ih =>
   intro s g a w h hE hS
   rw [roundsIn_succ]
   refine wpIn_mono (h n g0 w0 g a w hE hS) ?_
   rintro e a' w' ⟨g', s', e', k1, k2, k3, k4⟩
   cases e' with
   | normal => simp only [BV] at k3; subst k3; exact ih s' g' a' w' k4 k1 k2
   | exit id => simp only [BV] at k3; subst k3; exact ⟨g', s', .exit id, k1, k2, rfl, k4⟩
   | goto id => simp only [BV] at k3; subst k3; exact ⟨g', s', .goto id, k1, k2, rfl, k4⟩
   | ret => simp only [BV] at k3; subst k3; exact ⟨g', s', .ret, k1, k2, rfl, k4⟩
   | panic v => obtain ⟨u, rfl, k⟩ := k3; exact ⟨g', s', .panic v, k1, k2, ⟨u, rfl, k⟩, k4⟩
 exact key m s g a w h hE hS
def Sp (s : St) : Option Operand → Option (Option Int)
 | none => some none
 | some x => match Af s x with
  | some (.d (.lit (.int _ n))) => some (some n)
  | _ => none
theorem Ll {g : G} {a : Act} {w : World} (hS : Dg cx g a w s) {o : Option Operand} {r : Option Int} (h : Sp s o = some r) : (o = none ∧ r = none) ∨ ∃ x k n, o = some x ∧ r = some n ∧ a.eval x = .int k n := by
 cases o with
 | none => simp only [Sp, Option.some.injEq] at h; exact .inl ⟨rfl, h.symm⟩
 | some x =>
  simp only [Sp] at h
  split at h
  ·rename_i k n hx
   cases h
   have := hS.eval hx
   simp only [vrep, drep] at this
   exact .inr ⟨x, k, n, rfl, rfl, this⟩
  ·cases h
theorem PI {w : World} {len cap : Nat} {low high : Option Value} {lo hi : Int} (hlo : (low = none ∧ lo = 0) ∨ ∃ k, low = some (.int k lo)) (hhi : (high = none ∧ hi = len) ∨ ∃ k, high = some (.int k hi)) (h1 : 0 ≤ lo) (h2 : lo ≤ hi) (h3 : hi ≤ cap) :
  (Instr.sliceBounds true len cap low high none).run P w = .ok (lo.toNat, hi.toNat, cap) w := by
 have hh : 0 ≤ hi := by omega
 have h4 : lo ≤ hi.toNat := by omega
 rcases hlo with ⟨rfl, rfl⟩ | ⟨k, rfl⟩ <;> rcases hhi with ⟨rfl, rfl⟩ | ⟨k', rfl⟩ <;> simp_all [Instr.sliceBounds, Instr.sliceBound, asIntOf]
theorem JX {w : World} {len cap : Nat} {low high : Option Value} {kh km : IntKind} {lo hi mx : Int} (hlo : (low = none ∧ lo = 0) ∨ ∃ k, low = some (.int k lo)) (hhi : high = some (.int kh hi)) (h1 : 0 ≤ lo) (h2 : lo ≤ hi) (h3 : hi ≤ mx) (h4 : mx ≤ cap) :
  (Instr.sliceBounds true len cap low high (some (.int km mx))).run P w = .ok (lo.toNat, hi.toNat, mx.toNat) w := by
 have hh : 0 ≤ hi := by omega
 have hm : 0 ≤ mx := by omega
 have h5 : hi ≤ mx.toNat := by omega
 have h6 : lo ≤ hi.toNat := by omega
 subst hhi
 rcases hlo with ⟨rfl, rfl⟩ | ⟨k, rfl⟩ <;> simp_all [Instr.sliceBounds, Instr.sliceBound, asIntOf]
theorem M0 {B : Nat} {U : Nat → Prop} {w : World} {c f : Bool} {l : List (List D)} {a : Option Addr} {cap : Nat} (h : drep B U w (.sl c f l) (.slice a l.length cap)) {sz : Nat} (hsz : ∀ x ∈ l, x.length = sz) {lo hi m : Nat} (h1 : lo ≤ hi) (h2 : hi ≤ l.length) (h3 : hi ≤ m) (h4 : m ≤ cap) {c' : Bool} (hc : c' = true → m = hi) :
  drep B U w (.sl c' f ((l.take hi).drop lo)) (.slice (if m = lo then a else a.map (·.add (lo * sz))) (hi - lo) (m - lo)) := by
 simp only [drep] at h ⊢
 obtain ⟨a', cap', cs, e1, e2, e3, e4, e5, e6, e0, e7, e8⟩ := h
 cases e1
 have hlen : ((l.take hi).drop lo).length = hi - lo := by simp; omega
 have hmem : ∀ x ∈ (l.take hi).drop lo, x ∈ l := fun x hx => List.mem_of_mem_take (List.mem_of_mem_drop hx)
 refine ⟨_, m - lo, (cs.take (hi * sz)).drop (lo * sz), by rw [hlen], by rw [hlen]; omega, by omega, fun h => by rw [hlen, hc h], fun h => ?_, ⟨sz, fun x hx => hsz x (hmem x hx)⟩, fun u hu => e0 u (List.mem_of_mem_take (List.mem_of_mem_drop hu)), fun j u hj => ?_, ?_⟩
 ·split at h
  ·omega
  ·cases a with
   | none => have := e5 rfl; omega
   | some _ => cases h
 ·have hcs := Dc hsz e8
  have hj' := hj
  rw [List.getElem?_drop, List.getElem?_take] at hj
  split at hj
  ·rename_i hlt
   obtain ⟨b, o, k1, k2, k3⟩ := e7 _ u hj
   have hne : ¬ m = lo := fun e => by
    have : hi = lo := by omega
    subst this
    omega
   rw [if_neg hne, k1]
   refine ⟨b, o + lo * sz, ?_, k2, by rw [Nat.add_assoc]; exact k3⟩
   simp only [Option.map_some, Option.some.injEq]
   unfold Addr.add
   split
   ·rename_i h0; rw [h0]; rfl
   ·rfl
  ·cases hj
 ·have hp1 := (FH hsz e8 hi).1
  have hsz' : ∀ x ∈ l.take hi, x.length = sz := fun x hx => hsz x (List.mem_of_mem_take hx)
  exact (FH hsz' hp1 lo).2
theorem Pj {B : Nat} {U : Nat → Prop} {w : World} {c f : Bool} {l : List (List D)} {u : Value} (h : drep B U w (.sl c f l) u) : ∃ a cap, u = .slice a l.length cap ∧ l.length ≤ cap ∧ (c = true → cap = l.length) ∧ ∃ sz, ∀ x ∈ l, x.length = sz := by
 simp only [drep] at h
 obtain ⟨a, cap, cs, e1, e2, e3, e4, e5, e6, _⟩ := h
 exact ⟨a, cap, e1, e2, e4, e6⟩
def CP (lo hi : Option Int) (l : List (List D)) : List (List D) :=
 match lo, hi with
 | none, none => l
 | some a, none => l.drop a.toNat
 | none, some b => l.take b.toNat
 | some a, some b => (l.take b.toNat).drop a.toNat
theorem DK (lo hi : Option Int) (l : List (List D)) : CP lo hi l = (l.take (hi.getD l.length).toNat).drop (lo.getD 0).toNat := by
 cases lo <;> cases hi <;> simp [CP]
theorem Nu {t ty e : TypeId} {x : Operand} {low high : Option Operand} {v : V} {c f : Bool} {l : List (List D)} {lo hi : Option Int} {sz by_ : Nat} [hE : EQ P t e sz by_] (hx : Af s x = some v) (hv : slV s.st v = some (c, f, l)) (hlo : Sp s low = some lo) (hhi : Sp s high = some hi)
  (h1 : 0 ≤ lo.getD 0) (h2 : lo.getD 0 ≤ hi.getD l.length) (h3 : hi.getD l.length ≤ l.length) (hz : ∀ x ∈ l, x.length = sz) : Bq P cx (.slice t x low high none) ty s (.d (.sl false f (CP lo hi l))) := fun g a w hS => by
 have hd := Nm hS.st hv (hS.eval hx)
 obtain ⟨ad, cap, hu, hcap, _, _⟩ := Pj hd
 rw [hu] at hd
 have hb := PI (P := P) (w := w) (len := l.length) (cap := cap) (low := low.map a.eval) (high := high.map a.eval) (lo := lo.getD 0) (hi := hi.getD l.length) (by
   rcases Ll hS hlo with ⟨rfl, rfl⟩ | ⟨y, k, n, rfl, rfl, e⟩
   ·exact .inl ⟨rfl, rfl⟩
   ·exact .inr ⟨k, by simp [e]⟩) (by
   rcases Ll hS hhi with ⟨rfl, rfl⟩ | ⟨y, k, n, rfl, rfl, e⟩
   ·exact .inl ⟨rfl, rfl⟩
   ·exact .inr ⟨k, by simp [e]⟩) h1 h2 (by omega)
 have hp := M0 hd hz (lo := (lo.getD 0).toNat) (hi := (hi.getD l.length).toNat) (m := cap) (by omega) (by omega) (by omega) (Nat.le_refl _) (c' := false) (fun h => by cases h)
 refine ⟨_, ?_, by simp only [vrep]; rw [DK]; exact hp⟩
 simp [execOp, Instr.sliceAt, Instr.slice, hu, run_underlying hE.elem.und w, Cv hE.elem, hb]
theorem Le {t ty e : TypeId} {x y z : Operand} {low : Option Operand} {v : V} {c f : Bool} {l : List (List D)} {lo : Option Int} {k1 k2 : IntKind} {hi : Int} {sz by_ : Nat} [hE : EQ P t e sz by_] (hx : Af s x = some v) (hv : slV s.st v = some (c, f, l)) (hlo : Sp s low = some lo) (hhi : Af s y = some (I k1 hi)) (hmx : Af s z = some (I k2 hi))
  (h1 : 0 ≤ lo.getD 0) (h2 : lo.getD 0 ≤ hi) (h3 : hi ≤ l.length) (hz : ∀ x ∈ l, x.length = sz) : Bq P cx (.slice t x low (some y) (some z)) ty s (.d (.sl true f (CP lo (some hi) l))) := fun g a w hS => by
 have hd := Nm hS.st hv (hS.eval hx)
 obtain ⟨ad, cap, hu, hcap, _, _⟩ := Pj hd
 rw [hu] at hd
 have hy := hS.eval hhi
 have hzz := hS.eval hmx
 simp only [vrep, drep] at hy hzz
 have hb := JX (P := P) (w := w) (len := l.length) (cap := cap) (low := low.map a.eval) (high := some (a.eval y)) (kh := k1) (km := k2) (lo := lo.getD 0) (hi := hi) (mx := hi) (by
   rcases Ll hS hlo with ⟨rfl, rfl⟩ | ⟨y, k, n, rfl, rfl, e⟩
   ·exact .inl ⟨rfl, rfl⟩
   ·exact .inr ⟨k, by simp [e]⟩) (by rw [hy]) h1 h2 (by omega) (by omega)
 have hp := M0 hd hz (lo := (lo.getD 0).toNat) (hi := hi.toNat) (m := hi.toNat) (by omega) (by omega) (Nat.le_refl _) (by omega) (c' := true) (fun _ => rfl)
 refine ⟨_, ?_, by simp only [vrep]; rw [DK]; exact hp⟩
 rw [hy] at hb
 simp [execOp, Instr.sliceAt, Instr.slice, hu, run_underlying hE.elem.und w, Cv hE.elem, hy, hzz, hb]
theorem Jz {t ty e e' : TypeId} {x y z : Operand} {k ver sz sz' by_ : Nat} {nw : Bool} {l : List (List D)} {k1 k2 : IntKind} {hi : Int} [hE : EQ P t e sz by_] (hx : Af s x = some (.row k ver)) (hr : Az k s.st = some (true, nw, ver, e', sz', l)) (hhi : Af s y = some (I k1 hi)) (hmx : Af s z = some (I k2 hi))
  (h1 : 0 ≤ hi) (h3 : hi ≤ l.length) : Bq P cx (.slice t x none (some y) (some z)) ty s (.rv k ver hi.toNat) := fun g a w hS => by
 have hu := hS.eval hx
 simp only [vrep] at hu
 obtain ⟨v, xs, r1, r2, r3, r4, r5⟩ := hS.st.row hr
 rw [hu.1] at r1; cases r1
 rcases r5 with ⟨_, r5, _⟩ | ⟨h, _⟩
 ·have hy := hS.eval hhi
  have hzz := hS.eval hmx
  simp only [vrep, drep] at hy hzz
  have key : ∀ cap, l.length ≤ cap → (Instr.sliceBounds true l.length cap none (some (.int k1 hi)) (some (.int k2 hi))).run P w = .ok ((0 : Int).toNat, hi.toNat, hi.toNat) w := fun cap hcap => by
   have hb := JX (P := P) (w := w) (len := l.length) (cap := cap) (low := none) (high := some (a.eval y)) (kh := k1) (km := k2) (lo := 0) (hi := hi) (mx := hi) (.inl ⟨rfl, rfl⟩) (by rw [hy]) (Int.le_refl _) h1 (Int.le_refl _) (by omega)
   rw [hy] at hb
   exact hb
  rcases r5.2 with ⟨hv, hl⟩ | ⟨gb, cap, cur, hv, _, _, hcap, _⟩
  ·refine ⟨.slice none hi.toNat hi.toNat, ?_, by simp only [vrep]; exact ⟨none, _, _, by rw [hu.1, hv], rfl⟩⟩
   have := key 0 (by omega)
   rw [hl] at this
   simp [execOp, Instr.sliceAt, Instr.slice, hv, run_underlying hE.elem.und w, Cv hE.elem, hy, hzz, this]
  ·refine ⟨.slice (some ⟨gb, 0, none⟩) hi.toNat hi.toNat, ?_, by simp only [vrep]; exact ⟨_, _, cap, by rw [hu.1, hv], rfl⟩⟩
   have ha : (⟨gb, 0, none⟩ : Addr).add 0 = ⟨gb, 0, none⟩ := by simp [Addr.add]
   have := key cap hcap
   simp [execOp, Instr.sliceAt, Instr.slice, hv, run_underlying hE.elem.und w, Cv hE.elem, hy, hzz, this, ha]
 ·cases h
theorem JA {w : World} {t : TypeId} {sz : Nat} {z : List Value} [hT : BE P t false sz z] {cs : Array Value} {o : Nat} {u : Value} (h : cs[o]? = some u) : (part t cs o).run P w = .ok u w := by
 obtain ⟨d, h1, h2⟩ := hT.und
 have hagg : (isAgg t).run P w = .ok false w := by
  unfold isAgg
  rw [Sem.run_bind, run_underlying h1 w]
  cases d <;> simp_all [Mo]
 simp [part, Sem.run_bind, hagg, h]
theorem NB {t ty e : TypeId} {x y : Operand} {k0 : IntKind} {i : Int} {n sz : Nat} {z : List Value} {v w0 : V} {vs : List V} [hA : EP P t n e sz] [hT : BE P e false sz z] (hx : Af s x = some v) (hv : Bt v = some vs) (hagg : BT v = false) (hy : Af s y = some (I k0 i)) (h0 : 0 ≤ i) (h1 : i < (n : Int)) (hl : vs[i.toNat * sz]? = some w0) : Bq P cx (.index t x y) ty s w0 := fun g a w hS => by
 have hus := CC hv (hS.eval hx)
 have hy' := hS.eval hy
 simp only [vrep, drep] at hy'
 obtain ⟨hu, ie, hie, hsz⟩ := hA.get
 have hag : ∃ cs, a.eval x = .agg cs := by
  have hx' := hS.eval hx
  unfold Bt at hv
  split at hv
  ·simp only [vrep] at hx'; obtain ⟨cs, h, _⟩ := hx'; exact ⟨_, h⟩
  ·simp only [vrep, drep] at hx'; obtain ⟨cs, h, _⟩ := hx'; exact ⟨_, h⟩
  ·rw [hagg] at hv; cases hv
 obtain ⟨cs, hcs⟩ := hag
 rw [hcs] at hus
 simp only [Value.cells] at hus
 obtain ⟨u, k1, k2⟩ := CH hus hl
 refine ⟨u, ?_, k2⟩
 have hs : (sizeOf e).run P w = .ok sz w := by simp [sizeOf, typeInfo, hie, hsz]
 have hpart := JA (P := P) (w := w) (t := e) (sz := sz) (z := z) (cs := cs) (o := i.toNat * sz) (u := u) (by simpa using k1)
 simp [execOp, Instr.index, hcs, hy', asIntOf, run_underlying hu w, hs, h0, h1, hpart]
theorem NC {sT ty : TypeId} {x : Operand} {f off : Nat} {v w0 : V} {vs : List V} [hF : Bj P sT f off 1 false] (hx : Af s x = some v) (hv : Bt v = some vs) (hagg : BT v = false) (hl : vs[off]? = some w0) : Bq P cx (.field sT x f) ty s w0 := fun g a w hS => by
 have hus := CC hv (hS.eval hx)
 obtain ⟨fs, fl, i, e1, e2, e3, e4, e5, e6⟩ := hF.get
 have hag : ∃ cs, a.eval x = .agg cs := by
  have hx' := hS.eval hx
  unfold Bt at hv
  split at hv
  ·simp only [vrep] at hx'; obtain ⟨cs, h, _⟩ := hx'; exact ⟨_, h⟩
  ·simp only [vrep, drep] at hx'; obtain ⟨cs, h, _⟩ := hx'; exact ⟨_, h⟩
  ·rw [hagg] at hv; cases hv
 obtain ⟨cs, hcs⟩ := hag
 rw [hcs] at hus
 simp only [Value.cells] at hus
 obtain ⟨u, k1, k2⟩ := CH hus hl
 refine ⟨u, ?_, k2⟩
 have hag2 : (isAgg fl.type).run P w = .ok false w := by
  obtain ⟨d, q1, q2⟩ := Option.map_eq_some_iff.1 e6
  unfold isAgg
  rw [Sem.run_bind, run_underlying q1 w]
  cases d <;> simp_all [Mo]
 have hpart : (part fl.type cs off).run P w = .ok u w := by
  have : cs[off]? = some u := by simpa using k1
  simp [part, Sem.run_bind, hag2, this]
 simp [execOp, Instr.field, hcs, asAgg, run_underlying e1 w, e2, e3, hpart]
theorem Lh {sT ty : TypeId} {x : Operand} {f off sz : Nat} {v : V} {vs : List V} [hF : Bj P sT f off sz true] (hx : Af s x = some v) (hv : Bt v = some vs) (hagg : BT v = false) : Bq P cx (.field sT x f) ty s (.agg ((vs.drop off).take sz)) := fun g a w hS => by
 have hus := CC hv (hS.eval hx)
 obtain ⟨fs, fl, i, e1, e2, e3, e4, e5, e6⟩ := hF.get
 have hag : ∃ cs, a.eval x = .agg cs := by
  have hx' := hS.eval hx
  unfold Bt at hv
  split at hv
  ·simp only [vrep] at hx'; obtain ⟨cs, h, _⟩ := hx'; exact ⟨_, h⟩
  ·simp only [vrep, drep] at hx'; obtain ⟨cs, h, _⟩ := hx'; exact ⟨_, h⟩
  ·rw [hagg] at hv; cases hv
 obtain ⟨cs, hcs⟩ := hag
 rw [hcs] at hus
 simp only [Value.cells] at hus
 refine ⟨.agg (cs.extract off (off + sz)), ?_, ?_⟩
 ·have hag2 : (isAgg fl.type).run P w = .ok true w := by
   obtain ⟨d, q1, q2⟩ := Option.map_eq_some_iff.1 e6
   unfold isAgg
   rw [Sem.run_bind, run_underlying q1 w]
   cases d <;> simp_all [Mo]
  have hpart : (part fl.type cs off).run P w = .ok (.agg (cs.extract off (off + sz))) w := by
   simp [part, Sem.run_bind, hag2, sizeOf, typeInfo, e4, e5]
  simp [execOp, Instr.field, hcs, asAgg, run_underlying e1 w, e2, e3, hpart]
 ·simp only [vrep]
  have h1 := (DN (DN hus off).2 sz).1
  refine ⟨(cs.toList.drop off).take sz, ?_, h1⟩
  congr 1
  apply Array.ext'
  simp [List.extract_eq_take_drop]
end

theorem PO (a b : Nat) : List.range (a + b) = List.range a ++ (List.range b).map (a + ·) := by
 induction b with
 | zero => simp
 | succ b ih => rw [← Nat.add_assoc, List.range_succ, ih, List.range_succ]; simp
theorem Iw (z : Array Value) (hz : 0 < z.size) : ∀ n, (madeCells z (n * z.size)).toList = (List.replicate n z.toList).flatten
 | 0 => by simp [madeCells]
 | n + 1 => by
  have ih := Iw z hz n
  simp only [madeCells, Array.toList_map, Array.toList_range] at ih ⊢
  rw [show (n + 1) * z.size = z.size + n * z.size by rw [Nat.add_mul]; omega, PO, List.map_append, List.map_map, List.replicate_succ, List.flatten_cons, ← ih]
  congr 1
  ·apply List.ext_getElem?
   intro j
   by_cases hj : j < z.size
   ·simp [hj, Nat.mod_eq_of_lt hj]
   ·simp [Nat.not_lt.1 hj]
  ·apply List.map_congr_left
   intro j _
   simp [Nat.add_mod_left]
theorem Ev {B : Nat} {U : Nat → Prop} {w : World} {d : List D} {c : List Value} (h : dreps B U w d c) : ∀ n, drepss B U w (List.replicate n d) (List.replicate n c).flatten
 | 0 => by simp [drepss]
 | n + 1 => by simp only [List.replicate_succ, List.flatten_cons, drepss]; exact ⟨c, _, rfl, h, Ev h n⟩
section
variable {P : Program} {cx : Cx} {s : St} {Q : VE → St → Prop} {ops rest : List Oper}
theorem Nr {t ty e : TypeId} {x y : Operand} {k1 k2 : IntKind} {n : Int} {ag : Bool} {sz by_ k : Nat} {z : List Value} {tm : List (Nat × V)} {st : List E} [hE : EQ P t e sz by_] [hT : BE P e ag sz z] (hx : Af ⟨tm, st, 0⟩ x = some (I k1 n)) (hy : Af ⟨tm, st, 0⟩ y = some (I k2 n)) (h0 : 0 ≤ n) (hb : n * (by_ : Int) ≤ 140737488355328) (hp : 0 < by_) (hz : z.all (·.oneCell') = true) :
  Qs P cx (.makeSlice t x y) ty tm st (.row k 0) k (.r true true k 0 e sz (List.replicate n.toNat (z.map .lit))) := fun nb g a w hk hf hS => by
 have hx : Af ⟨tm, st, nb⟩ x = some (I k1 n) := by cases x <;> exact hx
 have hy : Af ⟨tm, st, nb⟩ y = some (I k2 n) := by cases y <;> exact hy
 have hx' := hS.eval hx
 have hy' := hS.eval hy
 simp only [vrep, drep] at hx' hy'
 obtain ⟨i, zv, e1, e2, e3, e4⟩ := hT.size
 obtain ⟨i', z', q1, q2, q3, q4, q5⟩ := hE.elem.info
 rw [e1] at q1; cases q1
 rw [e3] at q2; cases q2
 have hnb : n.toNat * by_ ≤ 140737488355328 := by
  have : ((n.toNat * by_ : Nat) : Int) = n * by_ := by rw [Int.natCast_mul, Int.toNat_of_nonneg h0]
  omega
 have hn1 : n.toNat ≤ 140737488355328 := Nat.le_trans (Nat.le_mul_of_pos_right _ hp) hnb
 have hrun := run_make (P := P) w t e i zv hE.elem.und e1 e3 k1 k2 n n h0 (Int.le_refl _) (by
  rw [q4]
  have : ((n.toNat * by_ : Nat) : Int) = n * by_ := by rw [Int.natCast_mul, Int.toNat_of_nonneg h0]
  rw [Int.mul_comm]; omega) (by omega)
 rw [e2] at hrun
 have hzp : 0 < zv.cells.size := by rw [q5]; exact hE.elem.pos
 have hcells : (madeCells zv.cells (n.toNat * sz)).toList = (List.replicate n.toNat z).flatten := by
  rw [← q5, Iw _ hzp, e4]
 have hzl : z.length = sz := by rw [← e4, ← q5]; simp
 have hfl : ((List.replicate n.toNat z).flatten).length = n.toNat * sz := by simp [hzl]
 have hown : (w.alloc (.cells (madeCells zv.cells (n.toNat * sz)) e)).ownsRow w.heap.size e sz (.slice (some ⟨w.heap.size, 0, none⟩) n.toNat n.toNat) (List.replicate n.toNat (z.map D.lit)).length (List.replicate n.toNat z).flatten := by
  rw [List.length_replicate]
  refine ⟨hfl, .inr ⟨w.heap.size, n.toNat, _, rfl, Nat.le_refl _, heap_alloc_new w _, Nat.le_refl _, by unfold maxLen; omega, size_madeCells _ _, ?_⟩⟩
  rw [hcells, List.take_of_length_le (by rw [hfl]; exact Nat.le_refl _)]
 have hd : dreps cx.B (fun b => g.prot b ∧ some b ≠ (Value.slice (some ⟨w.heap.size, 0, none⟩) n.toNat n.toNat).ownBlock) (w.alloc (.cells (madeCells zv.cells (n.toNat * sz)) e)) (z.map .lit) z := H4
 obtain ⟨m1, m2, m3, m4⟩ := Ea hS.inv hf hk (w' := w.alloc (.cells (madeCells zv.cells (n.toNat * sz)) e)) ⟨rfl, rfl, rfl, by simp, fun k hk => Below.heap_alloc w _ k hk⟩ (e := e) (sz := sz) (Ev hd n.toNat)
  ⟨fun x hx => by rw [List.eq_of_mem_replicate hx]; simp [hzl], fun u hu => by
   obtain ⟨l, hl, hu⟩ := List.mem_flatten.1 hu
   rw [List.eq_of_mem_replicate hl] at hu
   exact List.all_eq_true.1 hz u hu⟩ hown
 exact ⟨_, _, _, by simp [execOp, hx', hy', hrun], m1, m2, m3, m4⟩
theorem Zo {t t2 ty e : TypeId} {x y : Operand} {k ver by_ : Nat} {nw : Bool} {l l2 : List (List D)} {v2 : V} [hE : EQ P t e 1 by_] (hx : Af s x = some (.row k ver)) (hr : Az k s.st = some (true, nw, ver, e, 1, l)) (hy : Af s y = some v2) (hsrc : Ic s.st 1 v2 l2) (hl : l2.length = l.length) :
  Y4 P cx (.call { callee := .builtin .copy, args := #[x, y], argTypes := #[t, t2] }) ty s (I .i64 (l2.length : Int)) (.r true nw k ver e 1 l2 :: s.st) s.nb := fun g a w hS => by
 have hx' := hS.eval hx
 simp only [vrep] at hx'
 obtain ⟨v, xs, r1, r2, r3, r4, r5⟩ := hS.st.row hr
 rw [hx'.1] at r1; cases r1
 obtain ⟨us, ⟨ad, cap, s1, s6, s7, s8, s9⟩, s2, s3, s4, s5⟩ := hsrc.rep hS.st (hS.eval hy)
 rcases r5 with ⟨_, r5, r6⟩ | ⟨h, _⟩
 ·obtain ⟨i, z, q1, q2, q3, q4, q5⟩ := hE.elem.info
  have hinfo : (P.info? e).map (·.size) = some 1 := by rw [q1]; simp [q3]
  have fin : ∀ w', (execOp a.eval (IE (.call { callee := .builtin .copy, args := #[x, y], argTypes := #[t, t2] }) ty)).run P w = .ok (.value (goInt us.length)) w' → w.grownBy w' (a.eval x).ownBlock → w'.ownsRow 0 e 1 (a.eval x) l2.length us →
    ∃ u g' w', (execOp a.eval (IE (.call { callee := .builtin .copy, args := #[x, y], argTypes := #[t, t2] }) ty)).run P w = .ok (.value u) w' ∧ BZ cx.B g w g' w' ∧ AC cx.B g' w' (.r true nw k ver e 1 l2 :: s.st) ∧ CG cx.B s.nb g' w' ∧ vrep cx.B g' w' (I .i64 (l2.length : Int)) u := fun w' hrun hg hown => by
   obtain ⟨m1, m2, m3, _⟩ := He hS.inv hS.st hr hx'.1 r6 hg (u := a.eval x) (AL (Nat.le_refl _) (fun b _ hp => ⟨⟨hp, fun he => hp (.inr (.inr ⟨k, r6.trans he.symm⟩))⟩, hg.block b ‹_› fun he => hp (.inr (.inr ⟨k, r6.trans he.symm⟩))⟩) s2) ⟨s5, s4⟩ hown (fun b hb => .inl hb) (.inl ⟨rfl, rfl⟩)
   refine ⟨_, _, w', hrun, m1, m2, m3, ?_⟩
   simp only [vrep, drep, goInt]
   rw [s3, Nat.mul_one]
  rcases r5.2 with ⟨h5, h6⟩ | ⟨b, cp, cur, h5, _, hh, hn, hc, hs, ht⟩
  ·have h0 : us = [] := List.eq_nil_of_length_eq_zero (by rw [s3, hl, h6])
   subst h0
   have h20 : l2.length = 0 := by rw [hl, h6]
   refine fin w ?_ (KA _ _) (by rw [h5, h20]; exact World.ownsRow_nil w 0 e 1)
   have := run_copy_none (P := P) w t t2 ty e none ad 0 0 l2.length cap hE.elem.und hinfo (by simp)
   simp only [execOp, resolve, invoke, builtin, Sem.run_bind, Sem.run_pure, Result.andThen_ok, List.map_toArray, List.map_cons, List.map_nil, h5, s1, this]
   rfl
  ·have hcs : us.length = Nat.min l2.length l.length := by rw [s3, hl]; simp
   have hfit : 0 + us.length ≤ cur.size := by rw [s3, hl, hs]; simpa using hn
   cases hne : us with
   | nil =>
    have h0 : l2.length = 0 := by rw [hne] at s3; simpa using s3.symm
    have h0' : l.length = 0 := by omega
    subst hne
    refine fin w ?_ (KA _ _) ?_
    ·have := run_copy_none (P := P) w t t2 ty e (some ⟨b, 0, none⟩) ad l.length cp l2.length cap hE.elem.und hinfo (by simp [h0])
     simp only [execOp, resolve, invoke, builtin, Sem.run_bind, Sem.run_pure, Result.andThen_ok, List.map_toArray, List.map_cons, List.map_nil, h5, s1, this]
     rfl
    ·rw [h0]; rw [h0'] at r5; have : xs = [] := List.eq_nil_of_length_eq_zero (by rw [r5.1, Nat.zero_mul])
     rw [this] at r5; exact r5
   | cons u0 us' =>
    obtain ⟨b2, o2, e2, _⟩ := s9 0 u0 (by rw [hne]; rfl)
    subst e2
    have hsrc' : ∀ (j : Nat) v, us[j]? = some v → w.cell? ((⟨b2, o2, none⟩ : Addr).add j) = some v := fun j v hj => by
     obtain ⟨b', o', e', hc'⟩ := s9 j v hj
     cases e'
     have hadd : (⟨b2, o2, none⟩ : Addr).add j = ⟨b2, o2 + j, none⟩ := by unfold Addr.add; split <;> simp_all
     rw [hadd]; exact hc'
    have hrun := run_copy_row (P := P) w t t2 ty e b 0 l.length cp ⟨b2, o2, none⟩ l2.length cap cur e us hE.elem.und hinfo hh hcs hsrc' hfit s4
    have hg' : w.grownBy (w.setRow b (cur.toList.take 0 ++ us ++ cur.toList.drop (0 + us.length)).toArray) (a.eval x).ownBlock := by rw [h5]; exact Cj w b _
    refine fin _ ?_ hg' ?_
    ·simp only [execOp, resolve, invoke, builtin, Sem.run_bind, Sem.run_pure, Result.andThen_ok, List.map_toArray, List.map_cons, List.map_nil, h5, s1, hrun]
    ·refine ⟨by rw [s3], .inr ⟨b, cp, _, by rw [h5, hl], Nat.zero_le _, setRow_heap w b cur _ e (0, 0) hh, by omega, hc, ?_, ?_⟩⟩
     ·simp at hfit ⊢; omega
     ·simp only [List.take_zero, List.nil_append]
      rw [← s3]; exact List.take_left
 ·cases h
end

end Go.Proofs.YtbgcjnfhadhjeaaGreat