/- Walks by data and names, part 40: The program's frames, by V: which may be. The program's frames, by V: Check. Ways that are joined behind a block. -/
import Derived.Test.YtbgcjnfhadhjeaaGreatQk39
import Derived.Test.YtbgcjnfhadhjeaaGreatQk37
import Derived.Test.YtbgcjnfhadhjeaaGreatQk29
import Derived.Test.YtbgcjnfhadhjeaaGreatQk26
import Derived.Test.YtbgcjnfhadhjeaaGreatQk23
namespace Go.Proofs.YtbgcjnfhadhjeaaGreat
set_option maxRecDepth 20000
open Go.RowKit
set_option maxRecDepth 10000
set_option maxHeartbeats 4000000
theorem WY {l : List Ba} {i : Nat} {x y : Ba} (h0 : l[i]? = some y) (h1 : l[i + 1]? = some x) : K2 (l.drop i) = (Ib y x && K2 (l.drop (i + 1))) := by
 obtain ⟨hi, e0⟩ := List.getElem?_eq_some_iff.1 h0
 obtain ⟨hj, e1⟩ := List.getElem?_eq_some_iff.1 h1
 rw [List.drop_eq_getElem_cons hi, List.drop_eq_getElem_cons hj, e0, e1]; rfl
theorem Uc {l : List Ba} : K2 (l.drop (l.length - 1)) = true := by
 cases l with
 | nil => rfl
 | cons x l =>
  have h : ((x :: l).drop ((x :: l).length - 1)).length = 1 := by rw [List.length_drop]; simp
  match (x :: l).drop ((x :: l).length - 1), h with
  | [y], _ => rfl
theorem Ub (l : List Ba) : VP Tryz.prog 46 [.sl false false (l.map GJ)] (· = .ret (.lit (.bool (K2 l)))) := by
 have hlm : (l.map GJ).length = l.length := List.length_map _
 refine Al fun B => ?_
 repeat' (first | refine Ai ?_ | (refine As ?_; first | refine Ae 78 fun _ => ?_ | refine Ae 121 fun _ => ?_) | refine Ah ?_ | refine nc ?_ ?_ | (with_reducible intro _ <;> (try (exfalso; omega))) | refine Aa ?_ | (refine nd ?_ ?_ <;> intro hg <;> first | exact xo hg | rw [hg]))
 refine G6 fun R T hOk => ?_
 refine CI fun M2 => ?_
 repeat' (first | refine Ai ?_ | refine Ah ?_ | refine nc ?_ ?_ | (with_reducible intro _ <;> (try (exfalso; omega))) | refine Aa ?_ | (refine nd ?_ ?_ <;> intro hg <;> first | exact xo hg | rw [hg]))
 refine Bo 4 l GJ (fun (i : Nat) (_ : Unit) => ⟨[(6, I .i64 i), (5, I .i64 (l.map GJ).length), (4, .d (.sl false false (l.map GJ))), (0, .yl 3), (1, .ptr 2 0)], [.y 3 (some R) T [(16, .yl 3), (4, .ptr 1 0), (3, .ptr 0 0)], .c 2 0 [.d (.sl false false (l.map GJ))], .c 1 0 [.d (.lit (.bool false))], .c 0 0 [.fn (.func 79) [] []]], 4⟩) (fun i _ => K2 l = K2 (l.drop (i - 1))) () (AE) rfl (fun i y x hT hi hx hx' hlt hlm hlen hdr => ?_) (fun y hT hlt hlm => ?_)
 ·rcases Nat.eq_zero_or_pos i with hz | hz
  ·subst hz
   repeat' (first | refine Ai ?_ | refine Ah ?_ | refine nc ?_ ?_ | (with_reducible intro _ <;> (try (exfalso; omega))) | refine Aa ?_ | (refine nd ?_ ?_ <;> intro hg <;> first | exact xo hg | rw [hg]))
   refine Bd () hi ?_ (AE)
   exact hT
  ·obtain ⟨z, hz1⟩ : ∃ z, l[i - 1]? = some z := ⟨l[i - 1], List.getElem?_eq_getElem (by omega)⟩
   have hz2 : (l.map GJ)[((i : Int) - 1).toNat]? = some (GJ z) := by rw [show ((i : Int) - 1).toNat = i - 1 by omega]; simp [hz1]
   have hup := WY hz1 (x := x) (by rw [show i - 1 + 1 = i by omega]; exact hx)
   rw [hup, show i - 1 + 1 = i by omega] at hT
   have c := RB z x
   generalize Ib z x = q at *
   cases q
   ·simp only [GJ] at c hx' hz2 ⊢
    repeat' (first | refine Ai ?_ | (refine As ?_; first | refine AT (by assumption) fun _ _ => ?_ | refine cz (c) ?_ | refine Ae 79 fun _ => ?_) | refine Ah ?_ | refine nc ?_ ?_ | (with_reducible intro _ <;> (try (exfalso; omega))) | refine Aa ?_ | (refine nd ?_ ?_ <;> intro hg <;> first | exact xo hg | rw [hg]))
    all_goals first | (rw [hT]; rfl) | trace_state
   ·simp only [GJ] at c hx' hz2 ⊢
    repeat' (first | refine Ai ?_ | (refine As ?_; first | refine AT (by assumption) fun _ _ => ?_ | refine cz (c) ?_ | refine Ae 79 fun _ => ?_) | refine Ah ?_ | refine nc ?_ ?_ | (with_reducible intro _ <;> (try (exfalso; omega))) | refine Aa ?_ | (refine nd ?_ ?_ <;> intro hg <;> first | exact xo hg | rw [hg]))
    all_goals first | (refine Bd () hi ?_ (AE); rw [hT, Bool.true_and, Nat.add_sub_cancel]) | trace_state
 ·repeat' (first | refine Ai ?_ | refine Ah ?_ | refine nc ?_ ?_ | (with_reducible intro _ <;> (try (exfalso; omega))) | refine Aa ?_ | (refine nd ?_ ?_ <;> intro hg <;> first | exact xo hg | rw [hg]))
  all_goals first | (rw [hT, Uc]) | trace_state
theorem Lt (n : Int) : VP Tryz.prog 37 [AK n] (· = .ret (.lit (.bool (Pw n)))) := by
 refine Al fun B => ?_
 repeat' (first | refine Ai ?_ | refine Ah ?_ | refine nc ?_ ?_ | (with_reducible intro _ <;> (try (exfalso; omega))) | refine Aa ?_ | (refine nd ?_ ?_ <;> intro hg <;> first | exact xo hg | rw [hg]))
 all_goals rfl
theorem Og (v : Vc) : VP Tryz.prog 41 [.agg (Gv v)] (· = .ret (.lit (.bool (Ej v)))) := by
 have c := KN v
 refine Al fun B => ?_
 cases h : Ej v
 all_goals
  rw [h] at c
  simp only [Bool.false_eq_true, if_false, if_true] at c
  repeat' (first | refine Ai ?_ | (refine As ?_; first | refine cz (c) ?_) | refine Ah ?_ | refine nc ?_ ?_ | (with_reducible intro _ <;> (try (exfalso; omega))) | refine Aa ?_ | (refine nd ?_ ?_ <;> intro hg <;> first | exact xo hg | rw [hg]))
 all_goals rfl
theorem AaB (f : Fr) (o : A5) (hl : o.px.length ≤ 1000000) : VP Tryz.prog 43 [.agg (oD o), .pt (Cc f)] (· = .ret (.lit (.bool (Dr o && (decide (f.si = 0) || decide (o.id.s = f.si)))))) := by
 have c := EG o hl
 cases h : Dr o
 all_goals
  rw [h] at c
  simp only [Bool.false_eq_true, if_false, if_true] at c
  simp only [oD, C6] at c ⊢
  refine Al fun B => ?_
  repeat' (first | refine Ai ?_ | (refine As ?_; first | refine cz (c) ?_) | refine Ah ?_ | refine nc ?_ ?_ | (with_reducible intro _ <;> (try (exfalso; omega))) | refine Aa ?_ | (refine nd ?_ ?_ <;> intro hg <;> first | exact xo hg | rw [hg]))
 all_goals first | rfl | (rename_i h0; rw [h0]; rfl) | (rename_i h0; simp [h0])

set_option maxRecDepth 20000
set_option maxRecDepth 10000
set_option maxHeartbeats 8000000
theorem YU {f : Fr} (h : f.k = 1) : MS f = (Cg f.si && decide (0 ≤ f.ix) && decide (f.ix ≤ 64)) := by simp [MS, h]
theorem YT {f : Fr} (h : f.k = 2) : MS f = (Cg f.si && decide (1 ≤ f.my) && decide (f.my ≤ 64) && decide (0 ≤ f.ix) && decide (f.ix < f.my) && decide (1 ≤ f.bs.length) && decide (f.bs.length ≤ 256)) := by simp [MS, h]
theorem YS {f : Fr} (h : f.k = 3) : MS f = ((decide (f.si = 0) || Cg f.si) && decide (1 ≤ f.os.length) && decide (f.os.length ≤ 4) && f.os.all (fun o => Dr o && (decide (f.si = 0) || decide (o.id.s = f.si))) && Hk f.os) := by simp [MS, h]
theorem YR {f : Fr} (h : f.k = 4) : MS f = Cg f.si := by simp [MS, h]
theorem YQ {f : Fr} (h : f.k = 5) : MS f = (decide (f.pr = 0) || decide (f.tl < f.pr)) := by simp [MS, h]
theorem SE (f : Fr) (h : ¬ (1 ≤ f.k ∧ f.k ≤ 5)) : VP Tryz.prog 11 [.agg (Cc f)] (· = .ret (An 300)) := by
 have c := In f.k
 have hw : BX f.k = [] := by
  simp only [BX]
  rw [if_neg (by omega), if_neg (by omega), if_neg (by omega), if_neg (by omega), if_neg (by omega)]
 rw [hw] at c
 refine Al fun B => ?_
 repeat' (first | refine Ai ?_ | (refine As ?_; first | refine cz (c) ?_) | refine Ah ?_ | refine nc ?_ ?_ | (with_reducible intro _ <;> (try (exfalso; omega))) | refine Aa ?_ | (refine nd ?_ ?_ <;> intro hg <;> first | exact xo hg | rw [hg]))
 all_goals rfl
theorem VR (f : Fr) (h : f.k = 1) : VP Tryz.prog 11 [.agg (Cc f)] (· = .ret (An (if GK f then 0 else 300))) := by
 have c1 := In f.k
 rw [show BX f.k = BX 1 by rw [h]] at c1
 simp only [BX, Int.reduceEq, if_true, if_false] at c1
 have c2 := LX (ca := []) (QN f) Pw fun x _ => Lt x
 have c3 := Hw f (by omega)
 have c4 := H0 (E6 f) f
 have c5 := LW (ca := []) [f.v, f.w] Ej fun x _ => Og x
 have hbl := Av f.bs
 obtain ⟨r, hr⟩ : ∃ r, GK f = r := ⟨_, rfl⟩
 rw [hr]
 rw [Jd (by omega), YU h] at hr
 simp only [QN, List.map_cons, List.map_nil, PD, Gv] at c2 c5 hr
 generalize [(f.ep : Int), f.sn, f.fl, f.fq, f.pr, f.tl].all Pw = b1 at *
 generalize hb2 : decide (E6 f = f) = b2 at *
 generalize [f.v, f.w].all Ej = b3 at *
 generalize E6 f = g at *
 clear hb2
 subst hr
 refine Al fun B => ?_
 cases b1 <;> cases b2 <;> cases b3
 all_goals
  repeat' (first | refine C7 ?_ | refine Ha ?_ | refine Ai ?_ | (refine As ?_; first | refine cz (c1) ?_ | refine cz (c2) ?_ | refine cz (c3) ?_ | refine cz (c4) ?_ | refine cz (c5) ?_) | refine Ah ?_ | refine nc ?_ ?_ | (with_reducible intro _ <;> (try (exfalso; omega))) | refine Aa ?_ | (refine nd ?_ ?_ <;> intro hg <;> first | exact xo hg | rw [hg]))
 all_goals first
  | rfl
  | (rw [if_pos (by simp only [Cg, Bool.true_and, Bool.and_eq_true, decide_eq_true_eq]; omega)])
  | (rw [if_neg (by simp only [Cg, Bool.true_and, Bool.and_eq_true, decide_eq_true_eq]; omega)])
  | trace_state
theorem VQ (f : Fr) (h : f.k = 2) : VP Tryz.prog 11 [.agg (Cc f)] (· = .ret (An (if GK f then 0 else 300))) := by
 have c1 := In f.k
 rw [show BX f.k = BX 2 by rw [h]] at c1
 simp only [BX, Int.reduceEq, if_true, if_false] at c1
 have c2 := LX (ca := []) (QN f) Pw fun x _ => Lt x
 have c3 := Hw f (by omega)
 have c4 := H0 (E6 f) f
 have c5 := LW (ca := []) [f.v, f.w] Ej fun x _ => Og x
 have hbl := Av f.bs
 obtain ⟨r, hr⟩ : ∃ r, GK f = r := ⟨_, rfl⟩
 rw [hr]
 rw [Jd (by omega), YT h] at hr
 simp only [QN, List.map_cons, List.map_nil, PD, Gv] at c2 c5 hr
 generalize [(f.ep : Int), f.sn, f.fl, f.fq, f.pr, f.tl].all Pw = b1 at *
 generalize hb2 : decide (E6 f = f) = b2 at *
 generalize [f.v, f.w].all Ej = b3 at *
 generalize E6 f = g at *
 clear hb2
 subst hr
 refine Al fun B => ?_
 cases b1 <;> cases b2 <;> cases b3
 all_goals
  repeat' (first | refine C7 ?_ | refine Ha ?_ | refine Ai ?_ | (refine As ?_; first | refine cz (c1) ?_ | refine cz (c2) ?_ | refine cz (c3) ?_ | refine cz (c4) ?_ | refine cz (c5) ?_) | refine Ah ?_ | refine nc ?_ ?_ | (with_reducible intro _ <;> (try (exfalso; omega))) | refine Aa ?_ | (refine nd ?_ ?_ <;> intro hg <;> first | exact xo hg | rw [hg]))
 all_goals first
  | rfl
  | (rw [if_pos (by simp only [Cg, Bool.true_and, Bool.and_eq_true, decide_eq_true_eq]; omega)])
  | (rw [if_neg (by simp only [Cg, Bool.true_and, Bool.and_eq_true, decide_eq_true_eq]; omega)])
  | trace_state
theorem VN (f : Fr) (h : f.k = 4) : VP Tryz.prog 11 [.agg (Cc f)] (· = .ret (An (if GK f then 0 else 300))) := by
 have c1 := In f.k
 rw [show BX f.k = BX 4 by rw [h]] at c1
 simp only [BX, Int.reduceEq, if_true, if_false] at c1
 have c2 := LX (ca := []) (QN f) Pw fun x _ => Lt x
 have c3 := Hw f (by omega)
 have c4 := H0 (E6 f) f
 have c5 := LW (ca := []) [f.v, f.w] Ej fun x _ => Og x
 have hbl := Av f.bs
 obtain ⟨r, hr⟩ : ∃ r, GK f = r := ⟨_, rfl⟩
 rw [hr]
 rw [Jd (by omega), YR h] at hr
 simp only [QN, List.map_cons, List.map_nil, PD, Gv] at c2 c5 hr
 generalize [(f.ep : Int), f.sn, f.fl, f.fq, f.pr, f.tl].all Pw = b1 at *
 generalize hb2 : decide (E6 f = f) = b2 at *
 generalize [f.v, f.w].all Ej = b3 at *
 generalize E6 f = g at *
 clear hb2
 subst hr
 refine Al fun B => ?_
 cases b1 <;> cases b2 <;> cases b3
 all_goals
  repeat' (first | refine C7 ?_ | refine Ha ?_ | refine Ai ?_ | (refine As ?_; first | refine cz (c1) ?_ | refine cz (c2) ?_ | refine cz (c3) ?_ | refine cz (c4) ?_ | refine cz (c5) ?_) | refine Ah ?_ | refine nc ?_ ?_ | (with_reducible intro _ <;> (try (exfalso; omega))) | refine Aa ?_ | (refine nd ?_ ?_ <;> intro hg <;> first | exact xo hg | rw [hg]))
 all_goals first
  | rfl
  | (rw [if_pos (by simp only [Cg, Bool.true_and, Bool.and_eq_true, decide_eq_true_eq]; omega)])
  | (rw [if_neg (by simp only [Cg, Bool.true_and, Bool.and_eq_true, decide_eq_true_eq]; omega)])
  | trace_state
theorem VK (f : Fr) (h : f.k = 5) : VP Tryz.prog 11 [.agg (Cc f)] (· = .ret (An (if GK f then 0 else 300))) := by
 have c1 := In f.k
 rw [show BX f.k = BX 5 by rw [h]] at c1
 simp only [BX, Int.reduceEq, if_true, if_false] at c1
 have c2 := LX (ca := []) (QN f) Pw fun x _ => Lt x
 have c3 := Hw f (by omega)
 have c4 := H0 (E6 f) f
 have c5 := LW (ca := []) [f.v, f.w] Ej fun x _ => Og x
 have hbl := Av f.bs
 obtain ⟨r, hr⟩ : ∃ r, GK f = r := ⟨_, rfl⟩
 rw [hr]
 rw [Jd (by omega), YQ h] at hr
 simp only [QN, List.map_cons, List.map_nil, PD, Gv] at c2 c5 hr
 generalize [(f.ep : Int), f.sn, f.fl, f.fq, f.pr, f.tl].all Pw = b1 at *
 generalize hb2 : decide (E6 f = f) = b2 at *
 generalize [f.v, f.w].all Ej = b3 at *
 generalize E6 f = g at *
 clear hb2
 subst hr
 refine Al fun B => ?_
 cases b1 <;> cases b2 <;> cases b3
 all_goals
  repeat' (first | refine C7 ?_ | refine Ha ?_ | refine Ai ?_ | (refine As ?_; first | refine cz (c1) ?_ | refine cz (c2) ?_ | refine cz (c3) ?_ | refine cz (c4) ?_ | refine cz (c5) ?_) | refine Ah ?_ | refine nc ?_ ?_ | (with_reducible intro _ <;> (try (exfalso; omega))) | refine Aa ?_ | (refine nd ?_ ?_ <;> intro hg <;> first | exact xo hg | rw [hg]))
 all_goals first
  | rfl
  | (rw [if_pos (by simp only [Bool.true_and, Bool.or_eq_true, decide_eq_true_eq]; omega)])
  | (rw [if_neg (by simp only [Bool.true_and, Bool.or_eq_true, decide_eq_true_eq]; omega)])
  | trace_state

set_option maxRecDepth 20000
def LO (f : Func) : Code := f.body.getD .skip
def Ox : Nat → Code → Code
 | 0, c => c
 | n + 1, .seq _ y => Ox n y
 | _, c => c
section
variable {P : Program} {cx : Cx} {s : St} {Q : VE → St → Prop}
theorem Qz {α : Type} (I : α → St) (T : α → Prop) {c y : Code} {id : Nat} (h : VW P cx c s (DT id (Qq cx I T Q))) (k : ∀ z, T z → VW P cx y (I z) Q) : VW P cx c s (DT id (KR P cx y Q)) := by
 have key : ∀ e s', Qq cx I T Q e s' → KR P cx y Q e s' := fun e s' hq => by
  cases e with
  | normal => obtain ⟨z, h1, h2⟩ := hq; exact SS h2 (k z h1)
  | exit id => exact hq
  | goto id => exact hq
  | ret => exact hq
  | panic v => exact hq
 refine h.mono fun e s' hq => ?_
 cases e with
 | exit i =>
  simp only [DT] at hq ⊢
  split at hq
  ·exact key _ _ hq
  ·exact key _ _ hq
 | normal => exact key .normal _ hq
 | goto id => exact key (.goto id) _ hq
 | ret => exact key .ret _ hq
 | panic v => exact key (.panic v) _ hq
end

set_option maxRecDepth 10000
theorem M3 (s : Int) : ∀ (l : List A5) (y : A5), IC s (some y) l = (l.all (fun o => Dr o && (decide (s = 0) || decide (o.id.s = s))) && Hk (y :: l))
 | [], y => by simp [IC, Hk]
 | x :: l, y => by
  simp only [IC, M3 s l x, List.all_cons, Hk]
  cases Dr x <;> cases Ib y.id x.id <;> simp [Bool.and_assoc]
theorem Gn (s : Int) : ∀ (l : List A5), IC s none l = (l.all (fun o => Dr o && (decide (s = 0) || decide (o.id.s = s))) && Hk l)
 | [] => rfl
 | x :: l => by simp only [IC, M3 s l x, List.all_cons, Bool.and_assoc]
abbrev n1D (n : Int) : List D := [AK n]
theorem Ade (f : Fr) (h : f.k = 1) (hl : ∀ o ∈ f.os, o.px.length ≤ 1000000) (B : Nat) : VW Tryz.prog ⟨141, none, B, 0, some B, []⟩ (Ox 2 (LO Tryz.f10)) ⟨[(1, .ptr 0 0)], [.c 0 0 ((Cc f).map V.d)], 1⟩ (Fw Tryz.prog [.tmp 2] (· = .ret (.lit (.bool (decide (E6 f = f) && Ej f.v && Ej f.w && MS f))))) := by
 have c1 := Fi f
 have c2 := Ep (E6 f) f
 have c3 := CK f.v
 have c4 := CK f.w
 have c5 := HO f.si
 have c6 := Hj f.si f.os hl
 rw [Gn] at c6
 have hbl := Av f.bs
 rw [YU h]
 generalize decide (E6 f = f) = sm at *
 generalize E6 f = g at *
 generalize Ej f.v = v1 at *
 generalize Ej f.w = v2 at *
 generalize Cg f.si = s1 at *
 generalize f.os.all (fun o => Dr o && (decide (f.si = 0) || decide (o.id.s = f.si))) = a1 at *
 generalize Hk f.os = a2 at *
 refine AS ?_
 repeat' (first | refine Ai ?_ | (refine As ?_; first | refine cz (c1) ?_ | refine cz (c2) ?_ | refine cz (c3) ?_ | refine cz (c4) ?_ | refine cz (c5) ?_ | refine cz (c6) ?_) | refine Ah ?_ | refine nc ?_ ?_ | (with_reducible intro _ <;> (try (exfalso; omega))) | refine Aa ?_ | (refine nd ?_ ?_ <;> intro hg <;> first | exact xo hg | rw [hg]))
 all_goals clear c1 c2 c3 c4 c5 c6
 all_goals first
  | rfl
  | (cases sm <;> cases v1 <;> cases v2 <;> cases s1 <;> first | (simp_all; done) | (simp_all; omega))
  | (cases sm <;> cases v1 <;> cases v2 <;> cases s1 <;> cases a1 <;> cases a2 <;> first | (simp_all; done) | (simp_all; omega))
  | trace_state
theorem Add (f : Fr) (h : f.k = 2) (hl : ∀ o ∈ f.os, o.px.length ≤ 1000000) (B : Nat) : VW Tryz.prog ⟨141, none, B, 0, some B, []⟩ (Ox 2 (LO Tryz.f10)) ⟨[(1, .ptr 0 0)], [.c 0 0 ((Cc f).map V.d)], 1⟩ (Fw Tryz.prog [.tmp 2] (· = .ret (.lit (.bool (decide (E6 f = f) && Ej f.v && Ej f.w && MS f))))) := by
 have c1 := Fi f
 have c2 := Ep (E6 f) f
 have c3 := CK f.v
 have c4 := CK f.w
 have c5 := HO f.si
 have c6 := Hj f.si f.os hl
 rw [Gn] at c6
 have hbl := Av f.bs
 rw [YT h, show decide (1 ≤ f.bs.length) = decide ((1 : Int) ≤ ((AG f.bs).length : Int)) from decide_eq_decide.2 (by omega), show decide (f.bs.length ≤ 256) = decide (((AG f.bs).length : Int) ≤ 256) from decide_eq_decide.2 (by omega)]
 generalize decide (E6 f = f) = sm at *
 generalize E6 f = g at *
 generalize Ej f.v = v1 at *
 generalize Ej f.w = v2 at *
 generalize Cg f.si = s1 at *
 generalize f.os.all (fun o => Dr o && (decide (f.si = 0) || decide (o.id.s = f.si))) = a1 at *
 generalize Hk f.os = a2 at *
 refine AS ?_
 repeat' (first | refine Ai ?_ | (refine As ?_; first | refine cz (c1) ?_ | refine cz (c2) ?_ | refine cz (c3) ?_ | refine cz (c4) ?_ | refine cz (c5) ?_ | refine cz (c6) ?_) | refine Ah ?_ | refine nc ?_ ?_ | (with_reducible intro _ <;> (try (exfalso; omega))) | refine Aa ?_ | (refine nd ?_ ?_ <;> intro hg <;> first | exact xo hg | rw [hg]))
 all_goals clear c1 c2 c3 c4 c5 c6
 all_goals first
  | rfl
  | (cases sm <;> cases v1 <;> cases v2 <;> cases s1 <;> first | (simp_all; done) | (simp_all; omega))
  | (cases sm <;> cases v1 <;> cases v2 <;> cases s1 <;> cases a1 <;> cases a2 <;> first | (simp_all; done) | (simp_all; omega))
  | trace_state
theorem Adc (f : Fr) (h : f.k = 3) (hl : ∀ o ∈ f.os, o.px.length ≤ 1000000) (B : Nat) : VW Tryz.prog ⟨141, none, B, 0, some B, []⟩ (Ox 2 (LO Tryz.f10)) ⟨[(1, .ptr 0 0)], [.c 0 0 ((Cc f).map V.d)], 1⟩ (Fw Tryz.prog [.tmp 2] (· = .ret (.lit (.bool (decide (E6 f = f) && Ej f.v && Ej f.w && MS f))))) := by
 have c1 := Fi f
 have c2 := Ep (E6 f) f
 have c3 := CK f.v
 have c4 := CK f.w
 have c5 := HO f.si
 have c6 := Hj f.si f.os hl
 rw [Gn] at c6
 have hbl := Av f.bs
 rw [YS h]
 generalize decide (E6 f = f) = sm at *
 generalize E6 f = g at *
 generalize Ej f.v = v1 at *
 generalize Ej f.w = v2 at *
 generalize Cg f.si = s1 at *
 generalize f.os.all (fun o => Dr o && (decide (f.si = 0) || decide (o.id.s = f.si))) = a1 at *
 generalize Hk f.os = a2 at *
 refine AS ?_
 repeat' (first | refine Ai ?_ | (refine As ?_; first | refine cz (c1) ?_ | refine cz (c2) ?_ | refine cz (c3) ?_ | refine cz (c4) ?_ | refine cz (c5) ?_ | refine cz (c6) ?_) | refine Ah ?_ | refine nc ?_ ?_ | (with_reducible intro _ <;> (try (exfalso; omega))) | refine Aa ?_ | (refine nd ?_ ?_ <;> intro hg <;> first | exact xo hg | rw [hg]))
 all_goals clear c1 c2 c3 c4 c5 c6
 all_goals first
  | rfl
  | (cases sm <;> cases v1 <;> cases v2 <;> cases s1 <;> first | (simp_all; done) | (simp_all; omega))
  | (cases sm <;> cases v1 <;> cases v2 <;> cases s1 <;> cases a1 <;> cases a2 <;> first | (simp_all; done) | (simp_all; omega))
  | trace_state
theorem Adb (f : Fr) (h : f.k = 4) (hl : ∀ o ∈ f.os, o.px.length ≤ 1000000) (B : Nat) : VW Tryz.prog ⟨141, none, B, 0, some B, []⟩ (Ox 2 (LO Tryz.f10)) ⟨[(1, .ptr 0 0)], [.c 0 0 ((Cc f).map V.d)], 1⟩ (Fw Tryz.prog [.tmp 2] (· = .ret (.lit (.bool (decide (E6 f = f) && Ej f.v && Ej f.w && MS f))))) := by
 have c1 := Fi f
 have c2 := Ep (E6 f) f
 have c3 := CK f.v
 have c4 := CK f.w
 have c5 := HO f.si
 have c6 := Hj f.si f.os hl
 rw [Gn] at c6
 have hbl := Av f.bs
 rw [YR h]
 generalize decide (E6 f = f) = sm at *
 generalize E6 f = g at *
 generalize Ej f.v = v1 at *
 generalize Ej f.w = v2 at *
 generalize Cg f.si = s1 at *
 generalize f.os.all (fun o => Dr o && (decide (f.si = 0) || decide (o.id.s = f.si))) = a1 at *
 generalize Hk f.os = a2 at *
 refine AS ?_
 repeat' (first | refine Ai ?_ | (refine As ?_; first | refine cz (c1) ?_ | refine cz (c2) ?_ | refine cz (c3) ?_ | refine cz (c4) ?_ | refine cz (c5) ?_ | refine cz (c6) ?_) | refine Ah ?_ | refine nc ?_ ?_ | (with_reducible intro _ <;> (try (exfalso; omega))) | refine Aa ?_ | (refine nd ?_ ?_ <;> intro hg <;> first | exact xo hg | rw [hg]))
 all_goals clear c1 c2 c3 c4 c5 c6
 all_goals first
  | rfl
  | (cases sm <;> cases v1 <;> cases v2 <;> cases s1 <;> first | (simp_all; done) | (simp_all; omega))
  | (cases sm <;> cases v1 <;> cases v2 <;> cases s1 <;> cases a1 <;> cases a2 <;> first | (simp_all; done) | (simp_all; omega))
  | trace_state
theorem Ada (f : Fr) (h : f.k = 5) (hl : ∀ o ∈ f.os, o.px.length ≤ 1000000) (B : Nat) : VW Tryz.prog ⟨141, none, B, 0, some B, []⟩ (Ox 2 (LO Tryz.f10)) ⟨[(1, .ptr 0 0)], [.c 0 0 ((Cc f).map V.d)], 1⟩ (Fw Tryz.prog [.tmp 2] (· = .ret (.lit (.bool (decide (E6 f = f) && Ej f.v && Ej f.w && MS f))))) := by
 have c1 := Fi f
 have c2 := Ep (E6 f) f
 have c3 := CK f.v
 have c4 := CK f.w
 have c5 := HO f.si
 have c6 := Hj f.si f.os hl
 rw [Gn] at c6
 have hbl := Av f.bs
 rw [YQ h, show decide (f.pr = 0) = decide ((f.pr : Int) = 0) from decide_eq_decide.2 (by omega), show decide (f.tl < f.pr) = decide ((f.tl : Int) < (f.pr : Int)) from decide_eq_decide.2 (by omega)]
 generalize decide (E6 f = f) = sm at *
 generalize E6 f = g at *
 generalize Ej f.v = v1 at *
 generalize Ej f.w = v2 at *
 generalize Cg f.si = s1 at *
 generalize f.os.all (fun o => Dr o && (decide (f.si = 0) || decide (o.id.s = f.si))) = a1 at *
 generalize Hk f.os = a2 at *
 refine AS ?_
 repeat' (first | refine Ai ?_ | (refine As ?_; first | refine cz (c1) ?_ | refine cz (c2) ?_ | refine cz (c3) ?_ | refine cz (c4) ?_ | refine cz (c5) ?_ | refine cz (c6) ?_) | refine Ah ?_ | refine nc ?_ ?_ | (with_reducible intro _ <;> (try (exfalso; omega))) | refine Aa ?_ | (refine nd ?_ ?_ <;> intro hg <;> first | exact xo hg | rw [hg]))
 all_goals clear c1 c2 c3 c4 c5 c6
 all_goals first
  | rfl
  | (cases sm <;> cases v1 <;> cases v2 <;> cases s1 <;> first | (simp_all; done) | (simp_all; omega))
  | (cases sm <;> cases v1 <;> cases v2 <;> cases s1 <;> cases a1 <;> cases a2 <;> first | (simp_all; done) | (simp_all; omega))
  | trace_state
theorem AbF (f : Fr) (h : ¬ (1 ≤ f.k ∧ f.k ≤ 5)) (B : Nat) : VW Tryz.prog ⟨141, none, B, 0, some B, []⟩ (Ox 2 (LO Tryz.f10)) ⟨[(1, .ptr 0 0)], [.c 0 0 ((Cc f).map V.d)], 1⟩ (Fw Tryz.prog [.tmp 2] (· = .ret (.lit (.bool false)))) := by
 refine AS ?_
 repeat' (first | refine Ai ?_ | refine Ah ?_ | refine nc ?_ ?_ | (with_reducible intro _ <;> (try (exfalso; omega))) | refine Aa ?_ | (refine nd ?_ ?_ <;> intro hg <;> first | exact xo hg | rw [hg]))
 all_goals first | rfl | (exfalso; simp only [decide_eq_false_iff_not] at *; omega) | trace_state
theorem PJ (f : Fr) (hl : ∀ o ∈ f.os, o.px.length ≤ 1000000) : VP Tryz.prog 10 [.agg (Cc f)] (· = .ret (.lit (.bool (GK f)))) := by
 have ht := QO f
 unfold GK
 obtain ⟨tb, htb⟩ : ∃ tb, Zt f = tb := ⟨_, rfl⟩
 rw [htb] at ht ⊢
 clear htb
 simp only [QN] at ht
 refine Al fun B => ?_
 refine Io (fun _ : Unit => ⟨[(1, .ptr 0 0)], [.c 0 0 ((Cc f).map V.d)], 1⟩) (fun _ => True) ?_ fun _ _ => ?_
 ·repeat' (first | refine Ai ?_ | refine Ah ?_ | refine nc ?_ ?_ | (with_reducible intro _ <;> (try (exfalso; omega))) | refine Aa ?_ | (refine nd ?_ ?_ <;> intro hg <;> first | exact xo hg | rw [hg]))
  exact Fm () trivial (AE)
 refine Io (fun _ : Unit => ⟨[(1, .ptr 0 0)], [.c 0 0 ((Cc f).map V.d)], 1⟩) (fun _ => tb = true) ?_ fun _ hT => ?_
 ·repeat' (first | refine C7 ?_ | refine Ai ?_ | refine Ah ?_ | refine nc ?_ ?_ | (with_reducible intro _ <;> (try (exfalso; omega))) | refine Aa ?_ | (refine nd ?_ ?_ <;> intro hg <;> first | exact xo hg | rw [hg]))
  refine Bo 17 [(f.ep : Int), f.sn, f.fl, f.fq, f.pr, f.tl] n1D (fun (i : Nat) (_ : Unit) => ⟨[(19, I .i64 i), (18, I .i64 6), (17, .d (.sl false true ([(f.ep : Int), f.sn, f.fl, f.fq, f.pr, f.tl].map n1D))), (1, .ptr 0 0)], [.c 0 0 ((Cc f).map V.d)], 1⟩) (fun i _ => tb = ([(f.ep : Int), f.sn, f.fl, f.fq, f.pr, f.tl].drop i).all Pw) () (AE) ht (fun i y x hT hi hx hx' hlt hlm hlen hdr => ?_) (fun y hT hlt hlm => ?_)
  ·rw [hdr] at hT
   have hi6 : (i : Int) < 6 := by have : i < 6 := hi; omega
   clear ht
   simp only [List.all_cons, Pw] at hT
   repeat' (first | refine Ai ?_ | refine Ah ?_ | refine nc ?_ ?_ | (with_reducible intro _ <;> (try (exfalso; omega))) | refine Aa ?_ | (refine nd ?_ ?_ <;> intro hg <;> first | exact xo hg | rw [hg]))
   ·rw [hT, decide_eq_false (by omega)]; simp
   ·refine Bd () hi ?_ (AE)
    rw [hT, decide_eq_true (by omega), Bool.true_and]
  ·rw [List.drop_of_length_le (Nat.le_refl _)] at hT
   clear ht hlt hlm
   have e6 : (([(f.ep : Int), f.sn, f.fl, f.fq, f.pr, f.tl].length : Nat) : Int) = 6 := rfl
   repeat' (first | refine Ai ?_ | refine Ah ?_ | refine nc ?_ ?_ | (with_reducible intro _ <;> (try (exfalso; omega))) | refine Aa ?_ | (refine nd ?_ ?_ <;> intro hg <;> first | exact xo hg | rw [hg]))
   exact Fm () hT (AE)
 subst hT
 simp only [Bool.true_and]
 rcases Kx f.k with hk | hk | hk | hk | hk | ⟨h1, h2, h3, h4, h5⟩
 ·rw [show (decide (1 ≤ f.k) && decide (f.k ≤ 5)) = true by rw [hk]; rfl, Bool.true_and]; exact Ade f hk hl B
 ·rw [show (decide (1 ≤ f.k) && decide (f.k ≤ 5)) = true by rw [hk]; rfl, Bool.true_and]; exact Add f hk hl B
 ·rw [show (decide (1 ≤ f.k) && decide (f.k ≤ 5)) = true by rw [hk]; rfl, Bool.true_and]; exact Adc f hk hl B
 ·rw [show (decide (1 ≤ f.k) && decide (f.k ≤ 5)) = true by rw [hk]; rfl, Bool.true_and]; exact Adb f hk hl B
 ·rw [show (decide (1 ≤ f.k) && decide (f.k ≤ 5)) = true by rw [hk]; rfl, Bool.true_and]; exact Ada f hk hl B
 ·rw [show (decide (1 ≤ f.k) && decide (f.k ≤ 5)) = false by rw [Bool.and_eq_false_iff, decide_eq_false_iff_not, decide_eq_false_iff_not]; omega]
  simp only [Bool.false_and]
  exact AbF f (by omega) B

end Go.Proofs.YtbgcjnfhadhjeaaGreat