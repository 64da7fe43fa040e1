/- What FrameMayProof asks for, part a: The document's frames, by V: a row of operations, may it be, its bytes. The document's frames, by V: may it be. The document's frames, by V: bytes of a field. -/
import Derived.Test.YtbgcjnfhadhjeaaGreatPk36
import Derived.Test.YtbgcjnfhadhjeaaGreatPk35
import Derived.Test.YtbgcjnfhadhjeaaGreatPk46
import Derived.Test.YtbgcjnfhadhjeaaGreatPk53
import Derived.Test.YtbgcjnfhadhjeaaGreatPk49
namespace Go.Proofs.YtbgcjnfhadhjeaaGreat
set_option maxRecDepth 20000
open Go.RowKit
set_option maxRecDepth 10000
set_option maxHeartbeats 4000000
theorem J1 {B : Nat} {p : Nat → Prop} {w : World} : ∀ {l : List D} {us : List Value} (n : Nat), dreps B p w l us → dreps B p w (l.take n) (us.take n)
 | _, _, 0, _ => by simp only [List.take_zero, dreps]
 | [], [], _ + 1, _ => by simp only [List.take_nil, dreps]
 | x :: l, u :: us, n + 1, h => by
  simp only [dreps, List.take_succ_cons] at h ⊢
  obtain ⟨y, ys, e, h1, h2⟩ := h
  cases e
  exact ⟨_, _, rfl, h1, J1 n h2⟩
 | [], _ :: _, _ + 1, h => by simp [dreps] at h
 | _ :: _, [], _ + 1, h => by simp [dreps] at h
section
variable {P : Program} {cx : Cx} {s : St}
theorem UK {t ty : TypeId} {x : Operand} {sz : Nat} {z : List Value} {l m : List D} [hT : Br P t true sz z] (hx : Af s x = some (.ep l)) (hl : l.take sz = m) (hm : m.length = sz) : Bn P cx (.load t x) ty s (.d (.agg m)) := fun g a w hS => by
 have h1 := hS.eval hx
 simp only [vrep] at h1
 obtain ⟨b, o, cs, h1, h2, h3⟩ := h1
 have h4 := J1 sz h3
 rw [hl] at h4
 refine ⟨.agg (cs.take sz).toArray, ?_, by simp only [vrep, drep]; exact ⟨_, rfl, h4⟩⟩
 have := CD (P := P) (t := t) (sz := sz) (z := z) (w := w) (b := b) (o := o) (us := cs.take sz) (by rw [BB h4, hm]) (fun j u hj => by
  obtain ⟨b', o', e, _, hc⟩ := h2 j u (by rw [List.getElem?_take] at hj; split at hj <;> simp_all)
  cases e; exact hc)
 simp [execOp, h1, Instr.loadAt, Instr.sureAddr, this]
end
def Iv (s : Int) : Option Bb → List Bb → Bool
 | _, [] => true
 | none, x :: l => Da x && (decide (s = 0) || decide (x.id.s = s)) && Iv s (some x) l
 | some y, x :: l => Da x && HZ y.id x.id && (decide (s = 0) || decide (x.id.s = s)) && Iv s (some x) l
theorem G6 (s : Int) (l : List Bb) (hl : ∀ o ∈ l, o.px.length ≤ 1000000) : VP Tryz.prog 36 [Ar s, Ej l] (· = .ret (.lit (.bool (Iv s none l && decide (1 ≤ l.length) && decide (l.length ≤ 4))))) := by
 refine Am fun B => ?_
 have hm := DW l
 repeat' (first | refine Al ?_ | refine Ak ?_ | refine nc ?_ ?_ | (with_reducible intro _ <;> (try (exfalso; omega))) | refine Ad ?_ | (refine nd ?_ ?_ <;> intro hg <;> first | exact xo hg | rw [hg]))
 refine Bi 7 l oD (fun (i : Nat) (_ : Unit) => ⟨[(9, I .i64 i), (8, I .i64 (l.map oD).length), (7, .d (Ej l)), (4, .d (.lit (.bool false))), (0, .d (Ar s)), (1, .d (Ej l))], [], 0⟩) (fun i _ => Iv s none l = Iv s (if i = 0 then none else l[i - 1]?) (l.drop i)) () (AI) rfl (fun i y x hT hi hx hx' hlt hlm hlen hdr => ?_) (fun y hT hlt hlm => ?_)
 ·have c1 := PU x (hl x (List.mem_of_getElem? hx))
  rw [hdr] at hT
  rcases Nat.eq_zero_or_pos i with hz | hz
  ·rw [if_pos hz] at hT
   clear hdr hlen hlm hm hl
   simp only [oD, De] at c1 hx' ⊢
   repeat' (first | refine Al ?_ | (refine Ay ?_; first | refine cz (c1) ?_) | refine Ak ?_ | refine nc ?_ ?_ | (with_reducible intro _ <;> (try (exfalso; omega))) | refine Ad ?_ | (refine nd ?_ ?_ <;> intro hg <;> first | exact xo hg | rw [hg]))
   all_goals first
    | (refine Be () hi ?_ (AI); rw [hT, if_neg (by omega), Nat.add_sub_cancel, hx]; clear hT hx'; simp only [Iv]; simp_all; done)
    | (rw [hT]; clear hT hx'; simp only [Iv]; simp_all; done)
    | trace_state
  ·obtain ⟨z, hz1⟩ : ∃ z, l[i - 1]? = some z := ⟨l[i - 1], List.getElem?_eq_getElem (by omega)⟩
   rw [if_neg (by omega), hz1] at hT
   have hz2 : (l.map oD)[((i : Int) - 1).toNat]? = some (oD z) := by rw [show ((i : Int) - 1).toNat = i - 1 by omega]; simp [hz1]
   have c2 := Rn z.id x.id
   simp only [oD, De, F9] at c1 c2 hx' hz2 ⊢
   repeat' (first | refine Al ?_ | (refine Ay ?_; first | refine cz (c1) ?_ | refine cz (c2) ?_) | refine Ak ?_ | refine nc ?_ ?_ | (with_reducible intro _ <;> (try (exfalso; omega))) | refine Ad ?_ | (refine nd ?_ ?_ <;> intro hg <;> first | exact xo hg | rw [hg]) | refine WK ?_ (h := fun _ => UK (m := F9 z.id) rfl rfl rfl))
   all_goals first
    | (refine Be () hi ?_ (AI); rw [hT, if_neg (by omega), Nat.add_sub_cancel, hx]; clear hT hx'; simp only [Iv]; simp_all; done)
    | (rw [hT]; clear hT hx'; simp only [Iv]; simp_all; done)
    | trace_state
 ·rw [List.drop_of_length_le (Nat.le_refl _)] at hT
  repeat' (first | refine Al ?_ | refine Ak ?_ | refine nc ?_ ?_ | (with_reducible intro _ <;> (try (exfalso; omega))) | refine Ad ?_ | (refine nd ?_ ?_ <;> intro hg <;> first | exact xo hg | rw [hg]))
  all_goals (rw [hT]; clear hT; refine congrArg (fun t => R.ret (.lit (.bool t))) ?_; rw [Bool.eq_iff_iff]; simp [Iv]; omega)

set_option maxRecDepth 20000
set_option maxRecDepth 10000
set_option maxHeartbeats 8000000
theorem M9 (s : Int) : ∀ (l : List Bb) (y : Bb), Iv s (some y) l = (l.all (fun o => Da o && (decide (s = 0) || decide (o.id.s = s))) && G7 (y :: l))
 | [], y => by simp [Iv, G7]
 | x :: l, y => by
  simp only [Iv, M9 s l x, List.all_cons, G7]
  cases Da x <;> cases HZ y.id x.id <;> simp [Bool.and_assoc]
theorem Gh (s : Int) : ∀ (l : List Bb), Iv s none l = (l.all (fun o => Da o && (decide (s = 0) || decide (o.id.s = s))) && G7 l)
 | [] => rfl
 | x :: l => by simp only [Iv, M9 s l x, List.all_cons, Bool.and_assoc]
abbrev n1D (n : Int) : List D := [AW n]
theorem AcY (f : Fr) (h : f.k = 1) (hl : ∀ o ∈ f.os, o.px.length ≤ 1000000) (B : Nat) : VW Tryz.prog ⟨141, none, B, 0, some B, []⟩ (Mk 2 (Ja Tryz.f10)) ⟨[(1, .ptr 0 0)], [.c 0 0 ((Bx f).map V.d)], 1⟩ (Ff Tryz.prog [.tmp 2] (· = .ret (.lit (.bool (decide (Eo f = f) && D9 f.v && D9 f.w && Mv f))))) := by
 have c1 := Fe f
 have c2 := Ef (Eo f) f
 have c3 := CK f.v
 have c4 := CK f.w
 have c5 := HD f.si
 have c6 := G6 f.si f.os hl
 rw [Gh] at c6
 have hbl := AA f.bs
 rw [YM h]
 generalize decide (Eo f = f) = sm at *
 generalize Eo f = g at *
 generalize D9 f.v = v1 at *
 generalize D9 f.w = v2 at *
 generalize BQ f.si = s1 at *
 generalize f.os.all (fun o => Da o && (decide (f.si = 0) || decide (o.id.s = f.si))) = a1 at *
 generalize G7 f.os = a2 at *
 refine AC ?_
 repeat' (first | refine Al ?_ | (refine Ay ?_; first | refine cz (c1) ?_ | refine cz (c2) ?_ | refine cz (c3) ?_ | refine cz (c4) ?_ | refine cz (c5) ?_ | refine cz (c6) ?_) | refine Ak ?_ | refine nc ?_ ?_ | (with_reducible intro _ <;> (try (exfalso; omega))) | refine Ad ?_ | (refine nd ?_ ?_ <;> intro hg <;> first | exact xo hg | rw [hg]))
 all_goals clear c1 c2 c3 c4 c5 c6
 all_goals first
  | rfl
  | (cases sm <;> cases v1 <;> cases v2 <;> cases s1 <;> first | (simp_all; done) | (simp_all; omega))
  | (cases sm <;> cases v1 <;> cases v2 <;> cases s1 <;> cases a1 <;> cases a2 <;> first | (simp_all; done) | (simp_all; omega))
  | trace_state
theorem AcX (f : Fr) (h : f.k = 2) (hl : ∀ o ∈ f.os, o.px.length ≤ 1000000) (B : Nat) : VW Tryz.prog ⟨141, none, B, 0, some B, []⟩ (Mk 2 (Ja Tryz.f10)) ⟨[(1, .ptr 0 0)], [.c 0 0 ((Bx f).map V.d)], 1⟩ (Ff Tryz.prog [.tmp 2] (· = .ret (.lit (.bool (decide (Eo f = f) && D9 f.v && D9 f.w && Mv f))))) := by
 have c1 := Fe f
 have c2 := Ef (Eo f) f
 have c3 := CK f.v
 have c4 := CK f.w
 have c5 := HD f.si
 have c6 := G6 f.si f.os hl
 rw [Gh] at c6
 have hbl := AA f.bs
 rw [YL h, show decide (1 ≤ f.bs.length) = decide ((1 : Int) ≤ ((AH f.bs).length : Int)) from decide_eq_decide.2 (by omega), show decide (f.bs.length ≤ 256) = decide (((AH f.bs).length : Int) ≤ 256) from decide_eq_decide.2 (by omega)]
 generalize decide (Eo f = f) = sm at *
 generalize Eo f = g at *
 generalize D9 f.v = v1 at *
 generalize D9 f.w = v2 at *
 generalize BQ f.si = s1 at *
 generalize f.os.all (fun o => Da o && (decide (f.si = 0) || decide (o.id.s = f.si))) = a1 at *
 generalize G7 f.os = a2 at *
 refine AC ?_
 repeat' (first | refine Al ?_ | (refine Ay ?_; first | refine cz (c1) ?_ | refine cz (c2) ?_ | refine cz (c3) ?_ | refine cz (c4) ?_ | refine cz (c5) ?_ | refine cz (c6) ?_) | refine Ak ?_ | refine nc ?_ ?_ | (with_reducible intro _ <;> (try (exfalso; omega))) | refine Ad ?_ | (refine nd ?_ ?_ <;> intro hg <;> first | exact xo hg | rw [hg]))
 all_goals clear c1 c2 c3 c4 c5 c6
 all_goals first
  | rfl
  | (cases sm <;> cases v1 <;> cases v2 <;> cases s1 <;> first | (simp_all; done) | (simp_all; omega))
  | (cases sm <;> cases v1 <;> cases v2 <;> cases s1 <;> cases a1 <;> cases a2 <;> first | (simp_all; done) | (simp_all; omega))
  | trace_state
theorem AcW (f : Fr) (h : f.k = 3) (hl : ∀ o ∈ f.os, o.px.length ≤ 1000000) (B : Nat) : VW Tryz.prog ⟨141, none, B, 0, some B, []⟩ (Mk 2 (Ja Tryz.f10)) ⟨[(1, .ptr 0 0)], [.c 0 0 ((Bx f).map V.d)], 1⟩ (Ff Tryz.prog [.tmp 2] (· = .ret (.lit (.bool (decide (Eo f = f) && D9 f.v && D9 f.w && Mv f))))) := by
 have c1 := Fe f
 have c2 := Ef (Eo f) f
 have c3 := CK f.v
 have c4 := CK f.w
 have c5 := HD f.si
 have c6 := G6 f.si f.os hl
 rw [Gh] at c6
 have hbl := AA f.bs
 rw [YK h]
 generalize decide (Eo f = f) = sm at *
 generalize Eo f = g at *
 generalize D9 f.v = v1 at *
 generalize D9 f.w = v2 at *
 generalize BQ f.si = s1 at *
 generalize f.os.all (fun o => Da o && (decide (f.si = 0) || decide (o.id.s = f.si))) = a1 at *
 generalize G7 f.os = a2 at *
 refine AC ?_
 repeat' (first | refine Al ?_ | (refine Ay ?_; first | refine cz (c1) ?_ | refine cz (c2) ?_ | refine cz (c3) ?_ | refine cz (c4) ?_ | refine cz (c5) ?_ | refine cz (c6) ?_) | refine Ak ?_ | refine nc ?_ ?_ | (with_reducible intro _ <;> (try (exfalso; omega))) | refine Ad ?_ | (refine nd ?_ ?_ <;> intro hg <;> first | exact xo hg | rw [hg]))
 all_goals clear c1 c2 c3 c4 c5 c6
 all_goals first
  | rfl
  | (cases sm <;> cases v1 <;> cases v2 <;> cases s1 <;> first | (simp_all; done) | (simp_all; omega))
  | (cases sm <;> cases v1 <;> cases v2 <;> cases s1 <;> cases a1 <;> cases a2 <;> first | (simp_all; done) | (simp_all; omega))
  | trace_state
theorem AcV (f : Fr) (h : f.k = 4) (hl : ∀ o ∈ f.os, o.px.length ≤ 1000000) (B : Nat) : VW Tryz.prog ⟨141, none, B, 0, some B, []⟩ (Mk 2 (Ja Tryz.f10)) ⟨[(1, .ptr 0 0)], [.c 0 0 ((Bx f).map V.d)], 1⟩ (Ff Tryz.prog [.tmp 2] (· = .ret (.lit (.bool (decide (Eo f = f) && D9 f.v && D9 f.w && Mv f))))) := by
 have c1 := Fe f
 have c2 := Ef (Eo f) f
 have c3 := CK f.v
 have c4 := CK f.w
 have c5 := HD f.si
 have c6 := G6 f.si f.os hl
 rw [Gh] at c6
 have hbl := AA f.bs
 rw [YJ h]
 generalize decide (Eo f = f) = sm at *
 generalize Eo f = g at *
 generalize D9 f.v = v1 at *
 generalize D9 f.w = v2 at *
 generalize BQ f.si = s1 at *
 generalize f.os.all (fun o => Da o && (decide (f.si = 0) || decide (o.id.s = f.si))) = a1 at *
 generalize G7 f.os = a2 at *
 refine AC ?_
 repeat' (first | refine Al ?_ | (refine Ay ?_; first | refine cz (c1) ?_ | refine cz (c2) ?_ | refine cz (c3) ?_ | refine cz (c4) ?_ | refine cz (c5) ?_ | refine cz (c6) ?_) | refine Ak ?_ | refine nc ?_ ?_ | (with_reducible intro _ <;> (try (exfalso; omega))) | refine Ad ?_ | (refine nd ?_ ?_ <;> intro hg <;> first | exact xo hg | rw [hg]))
 all_goals clear c1 c2 c3 c4 c5 c6
 all_goals first
  | rfl
  | (cases sm <;> cases v1 <;> cases v2 <;> cases s1 <;> first | (simp_all; done) | (simp_all; omega))
  | (cases sm <;> cases v1 <;> cases v2 <;> cases s1 <;> cases a1 <;> cases a2 <;> first | (simp_all; done) | (simp_all; omega))
  | trace_state
theorem AcU (f : Fr) (h : f.k = 5) (hl : ∀ o ∈ f.os, o.px.length ≤ 1000000) (B : Nat) : VW Tryz.prog ⟨141, none, B, 0, some B, []⟩ (Mk 2 (Ja Tryz.f10)) ⟨[(1, .ptr 0 0)], [.c 0 0 ((Bx f).map V.d)], 1⟩ (Ff Tryz.prog [.tmp 2] (· = .ret (.lit (.bool (decide (Eo f = f) && D9 f.v && D9 f.w && Mv f))))) := by
 have c1 := Fe f
 have c2 := Ef (Eo f) f
 have c3 := CK f.v
 have c4 := CK f.w
 have c5 := HD f.si
 have c6 := G6 f.si f.os hl
 rw [Gh] at c6
 have hbl := AA f.bs
 rw [YI h, show decide (f.pr = 0) = decide ((f.pr : Int) = 0) from decide_eq_decide.2 (by omega), show decide (f.tl < f.pr) = decide ((f.tl : Int) < (f.pr : Int)) from decide_eq_decide.2 (by omega)]
 generalize decide (Eo f = f) = sm at *
 generalize Eo f = g at *
 generalize D9 f.v = v1 at *
 generalize D9 f.w = v2 at *
 generalize BQ f.si = s1 at *
 generalize f.os.all (fun o => Da o && (decide (f.si = 0) || decide (o.id.s = f.si))) = a1 at *
 generalize G7 f.os = a2 at *
 refine AC ?_
 repeat' (first | refine Al ?_ | (refine Ay ?_; first | refine cz (c1) ?_ | refine cz (c2) ?_ | refine cz (c3) ?_ | refine cz (c4) ?_ | refine cz (c5) ?_ | refine cz (c6) ?_) | refine Ak ?_ | refine nc ?_ ?_ | (with_reducible intro _ <;> (try (exfalso; omega))) | refine Ad ?_ | (refine nd ?_ ?_ <;> intro hg <;> first | exact xo hg | rw [hg]))
 all_goals clear c1 c2 c3 c4 c5 c6
 all_goals first
  | rfl
  | (cases sm <;> cases v1 <;> cases v2 <;> cases s1 <;> first | (simp_all; done) | (simp_all; omega))
  | (cases sm <;> cases v1 <;> cases v2 <;> cases s1 <;> cases a1 <;> cases a2 <;> first | (simp_all; done) | (simp_all; omega))
  | trace_state
theorem Abp (f : Fr) (h : ¬ (1 ≤ f.k ∧ f.k ≤ 5)) (B : Nat) : VW Tryz.prog ⟨141, none, B, 0, some B, []⟩ (Mk 2 (Ja Tryz.f10)) ⟨[(1, .ptr 0 0)], [.c 0 0 ((Bx f).map V.d)], 1⟩ (Ff Tryz.prog [.tmp 2] (· = .ret (.lit (.bool false)))) := by
 refine AC ?_
 repeat' (first | refine Al ?_ | refine Ak ?_ | refine nc ?_ ?_ | (with_reducible intro _ <;> (try (exfalso; omega))) | refine Ad ?_ | (refine nd ?_ ?_ <;> intro hg <;> first | exact xo hg | rw [hg]))
 all_goals first | rfl | (exfalso; simp only [decide_eq_false_iff_not] at *; omega) | trace_state
theorem PT (f : Fr) (hl : ∀ o ∈ f.os, o.px.length ≤ 1000000) : VP Tryz.prog 10 [.agg (Bx f)] (· = .ret (.lit (.bool (Eb f)))) := by
 have ht := Q9 f
 unfold Eb
 obtain ⟨tb, htb⟩ : ∃ tb, WW f = tb := ⟨_, rfl⟩
 rw [htb] at ht ⊢
 clear htb
 simp only [Q8] at ht
 refine Am fun B => ?_
 refine Ec (fun _ : Unit => ⟨[(1, .ptr 0 0)], [.c 0 0 ((Bx f).map V.d)], 1⟩) (fun _ => True) ?_ fun _ _ => ?_
 ·repeat' (first | refine Al ?_ | refine Ak ?_ | refine nc ?_ ?_ | (with_reducible intro _ <;> (try (exfalso; omega))) | refine Ad ?_ | (refine nd ?_ ?_ <;> intro hg <;> first | exact xo hg | rw [hg]))
  exact DG () trivial (AI)
 refine Ec (fun _ : Unit => ⟨[(1, .ptr 0 0)], [.c 0 0 ((Bx f).map V.d)], 1⟩) (fun _ => tb = true) ?_ fun _ hT => ?_
 ·repeat' (first | refine CW ?_ | refine Al ?_ | refine Ak ?_ | refine nc ?_ ?_ | (with_reducible intro _ <;> (try (exfalso; omega))) | refine Ad ?_ | (refine nd ?_ ?_ <;> intro hg <;> first | exact xo hg | rw [hg]))
  refine Bi 17 [(f.ep : Int), f.sn, f.fl, f.fq, f.pr, f.tl] n1D (fun (i : Nat) (_ : Unit) => ⟨[(19, I .i64 i), (18, I .i64 6), (17, .d (.sl false true ([(f.ep : Int), f.sn, f.fl, f.fq, f.pr, f.tl].map n1D))), (1, .ptr 0 0)], [.c 0 0 ((Bx f).map V.d)], 1⟩) (fun i _ => tb = ([(f.ep : Int), f.sn, f.fl, f.fq, f.pr, f.tl].drop i).all PG) () (AI) ht (fun i y x hT hi hx hx' hlt hlm hlen hdr => ?_) (fun y hT hlt hlm => ?_)
  ·rw [hdr] at hT
   have hi6 : (i : Int) < 6 := by have : i < 6 := hi; omega
   clear ht
   simp only [List.all_cons, PG] at hT
   repeat' (first | refine Al ?_ | refine Ak ?_ | refine nc ?_ ?_ | (with_reducible intro _ <;> (try (exfalso; omega))) | refine Ad ?_ | (refine nd ?_ ?_ <;> intro hg <;> first | exact xo hg | rw [hg]))
   ·rw [hT, decide_eq_false (by omega)]; simp
   ·refine Be () hi ?_ (AI)
    rw [hT, decide_eq_true (by omega), Bool.true_and]
  ·rw [List.drop_of_length_le (Nat.le_refl _)] at hT
   clear ht hlt hlm
   have e6 : (([(f.ep : Int), f.sn, f.fl, f.fq, f.pr, f.tl].length : Nat) : Int) = 6 := rfl
   repeat' (first | refine Al ?_ | refine Ak ?_ | refine nc ?_ ?_ | (with_reducible intro _ <;> (try (exfalso; omega))) | refine Ad ?_ | (refine nd ?_ ?_ <;> intro hg <;> first | exact xo hg | rw [hg]))
   exact DG () hT (AI)
 subst hT
 simp only [Bool.true_and]
 rcases IV f.k with hk | hk | hk | hk | hk | ⟨h1, h2, h3, h4, h5⟩
 ·rw [show (decide (1 ≤ f.k) && decide (f.k ≤ 5)) = true by rw [hk]; rfl, Bool.true_and]; exact AcY f hk hl B
 ·rw [show (decide (1 ≤ f.k) && decide (f.k ≤ 5)) = true by rw [hk]; rfl, Bool.true_and]; exact AcX f hk hl B
 ·rw [show (decide (1 ≤ f.k) && decide (f.k ≤ 5)) = true by rw [hk]; rfl, Bool.true_and]; exact AcW f hk hl B
 ·rw [show (decide (1 ≤ f.k) && decide (f.k ≤ 5)) = true by rw [hk]; rfl, Bool.true_and]; exact AcV f hk hl B
 ·rw [show (decide (1 ≤ f.k) && decide (f.k ≤ 5)) = true by rw [hk]; rfl, Bool.true_and]; exact AcU f hk hl B
 ·rw [show (decide (1 ≤ f.k) && decide (f.k ≤ 5)) = false by rw [Bool.and_eq_false_iff, decide_eq_false_iff_not, decide_eq_false_iff_not]; omega]
  simp only [Bool.false_and]
  exact Abp f (by omega) B

set_option maxRecDepth 20000
set_option maxRecDepth 10000
set_option maxHeartbeats 4000000
theorem W6 (b : List UInt8) (hb : b.length ≤ 1000000) : VP Tryz.prog 90 [CV b] (· = .ret (.sl false true (AH (Av 2 b.length ++ b)))) := by
 have c1 := Ep 2 b.length (by decide) (by omega)
 have c2 := MR (Av 2 b.length) b (by rw [As]; omega)
 have hbl := AA b
 simp only [Int.cast_ofNat_Int] at c1
 rw [← hbl] at c1 c2 ⊢
 refine VP.le ?_
 refine Am fun B => ?_
 repeat' (first | refine Al ?_ | (refine Ay ?_; first | refine cz (c1) ?_ | refine cz (c2) ?_) | refine Ak ?_ | refine nc ?_ ?_ | (with_reducible intro _ <;> (try (exfalso; omega))) | refine Ad ?_ | (refine nd ?_ ?_ <;> intro hg <;> first | exact xo hg | rw [hg]))
 all_goals first | exact AP _ | (simp only [HN]; infer_instance) | trace_state
theorem Vf {k : Int} (h1 : 0 ≤ k) (h2 : k < 256) : AH (Av 1 k.toNat) = [[.lit (.int .u8 k)]] := by
 obtain ⟨e1, e2⟩ := kU h1 h2
 rw [e1]; simp only [AH, List.map_cons, List.map_nil, vb, e2]
theorem Uh (f : Fr) (n : Fl) (h : BX f n) : VP Tryz.prog 52 [.agg (Bx f), Iz n] (· = .ret (.sl false true (AH (A0 f n)))) := by
 refine VP.le ?_
 cases n
 case ep | sn | fl | fq | pr | tl =>
  all_goals
   simp only [BX] at h
   have c := fun (n : Nat) (hn : n ≤ 4611686018427387904) => Ep 8 n (by decide) (by omega)
   simp only [Int.cast_ofNat_Int] at c
   have c1 := c _ h
   simp only [Iz, Fl.nm, A0, Bx, Cj, Db]
   refine Am fun B => ?_
   repeat' (first | refine Al ?_ | (refine Ay ?_; first | refine cz (c1) ?_) | refine Ak ?_ | refine nc ?_ ?_ | (with_reducible intro _ <;> (try (exfalso; omega))) | refine Ad ?_ | (refine nd ?_ ?_ <;> intro hg <;> first | exact xo hg | rw [hg]))
   all_goals exact AP _
 case si | ix | my =>
  all_goals
   simp only [BX] at h
   simp only [Iz, Fl.nm, A0, Bx, Cj, Db, Vf h.1 h.2]
   refine Am fun B => ?_
   repeat' (first | refine Al ?_ | refine Ak ?_ | refine nc ?_ ?_ | (with_reducible intro _ <;> (try (exfalso; omega))) | refine Ad ?_ | (refine nd ?_ ?_ <;> intro hg <;> first | exact xo hg | rw [hg]))
   all_goals exact AP _
 case bs =>
  simp only [BX] at h
  have c1 := W6 f.bs (by omega)
  simp only [Iz, Fl.nm, A0, Bx, Cj, Db]
  refine Am fun B => ?_
  repeat' (first | refine Al ?_ | (refine Ay ?_; first | refine cz (c1) ?_) | refine Ak ?_ | refine nc ?_ ?_ | (with_reducible intro _ <;> (try (exfalso; omega))) | refine Ad ?_ | (refine nd ?_ ?_ <;> intro hg <;> first | exact xo hg | rw [hg]))
  all_goals exact AP _
 case os =>
  simp only [BX] at h
  have c1 := Zv f.os h.1 h.2
  simp only [Iz, Fl.nm, A0, Bx, Cj, Db]
  refine Am fun B => ?_
  repeat' (first | refine Al ?_ | (refine Ay ?_; first | refine cz (c1) ?_) | refine Ak ?_ | refine nc ?_ ?_ | (with_reducible intro _ <;> (try (exfalso; omega))) | refine Ad ?_ | (refine nd ?_ ?_ <;> intro hg <;> first | exact xo hg | rw [hg]))
  all_goals exact AP _
 case v =>
  simp only [BX] at h
  have hv := (HA _).1 h
  have c1 := KO f.v ⟨by omega, by omega, by omega, by omega, by omega, by omega, by omega, by omega, by omega⟩
  simp only [Iz, Fl.nm, A0, Bx, Cj, Db]
  refine Am fun B => ?_
  repeat' (first | refine Al ?_ | (refine Ay ?_; first | refine cz (c1) ?_) | refine Ak ?_ | refine nc ?_ ?_ | (with_reducible intro _ <;> (try (exfalso; omega))) | refine Ad ?_ | (refine nd ?_ ?_ <;> intro hg <;> first | exact xo hg | rw [hg]))
  all_goals exact AP _
 case w =>
  simp only [BX] at h
  have hv := (HA _).1 h
  have c1 := KO f.w ⟨by omega, by omega, by omega, by omega, by omega, by omega, by omega, by omega, by omega⟩
  simp only [Iz, Fl.nm, A0, Bx, Cj, Db]
  refine Am fun B => ?_
  repeat' (first | refine Al ?_ | (refine Ay ?_; first | refine cz (c1) ?_) | refine Ak ?_ | refine nc ?_ ?_ | (with_reducible intro _ <;> (try (exfalso; omega))) | refine Ad ?_ | (refine nd ?_ ?_ <;> intro hg <;> first | exact xo hg | rw [hg]))
  all_goals exact AP _

set_option maxRecDepth 20000
set_option maxRecDepth 10000
theorem Aaj (f : Fr) {ns : List Fl} {i : Nat} {n : Fl} (h : ns[i]? = some n) : BM f (ns.take (i + 1)) = BM f (ns.take i) ++ A0 f n := by
 rw [List.take_add_one, h]; simp [BM]
theorem P0 (f : Fr) (h : Eb f = true) : VP Tryz.prog 15 [.agg (Bx f)] (· = .ret (.sl false true (AH (AS (A5 f))))) := by
 have hin := VO h
 have cs := W5 (A5 f) (by omega)
 have ok := LC h
 have cn := K3 f.k
 obtain ⟨⟨_, ⟨h2, h2'⟩, _, _, _⟩, _⟩ := GA h
 obtain ⟨u1, u2⟩ := kU (k := f.k) (by omega) (by omega)
 have q0 : AH (Av 1 f.k.toNat) = [[.lit (.int .u8 f.k)]] := Vf (by omega) (by omega)
 have e0 : A5 f = Av 1 f.k.toNat ++ BM f (AV f.k) := rfl
 have hlim : ∀ i, (BM f ((AV f.k).take i)).length ≤ 1200 := fun i => by
  have : (BM f (AV f.k)).length ≤ 1200 := by rw [e0, List.length_append] at hin; omega
  have e : BM f (AV f.k) = BM f ((AV f.k).take i) ++ BM f ((AV f.k).drop i) := by simp only [BM]; rw [← List.flatMap_append, List.take_append_drop]
  rw [e, List.length_append] at this; omega
 rw [e0] at cs ⊢
 generalize hns : AV f.k = ns at *
 have hnl := LF ns
 refine VP.le ?_
 refine Am fun B => ?_
 repeat' (first | refine Al ?_ | (refine Ay ?_; first | refine cz (cn) ?_) | refine Ak ?_ | refine nc ?_ ?_ | (with_reducible intro _ <;> (try (exfalso; omega))) | refine Ad ?_ | (refine nd ?_ ?_ <;> intro hg <;> first | exact xo hg | rw [hg]))
 refine Bi 12 ns (fun n => [Iz n]) (fun (i : Nat) (_ : Unit) => ⟨[(14, I .i64 i), (13, I .i64 (EN ns).length), (12, .d (.sl false true (EN ns))), (3, .row 1 0), (1, .ptr 0 0)], [.r true true 1 0 5 1 ([[.lit (.int .u8 f.k)]] ++ AH (BM f (ns.take i))), .c 0 0 ((Bx f).map V.d)], 2⟩) (fun i _ => True) () (by rw [List.take_zero, show BM f [] = [] from rfl, show AH [] = [] from rfl, List.append_nil]; exact (CO [(1, _, _)])) trivial (fun i y x hT hi hx hx' hlt hlm hlen hdr => ?_) (fun y hT hlt hlm => ?_)
 ·have c := Uh f x (ok x (List.mem_of_getElem? hx))
  have hup := Aaj f hx
  have hl0 := hlim i
  have hl1 := hlim (i + 1)
  rw [hup, List.length_append] at hl1
  have hb0 := AA (BM f (ns.take i))
  have hb1 := AA (A0 f x)
  generalize A0 f x = u at *
  generalize BM f (ns.take i) = v at *
  clear cs cn ok q0 e0 hlim hin hns hdr
  repeat' (first | refine Al ?_ | (refine Ay ?_; first | refine cz (c) ?_) | refine Ak ?_ | refine nc ?_ ?_ | (with_reducible intro _ <;> (try (exfalso; omega))) | refine Ad ?_ | (refine nd ?_ ?_ <;> intro hg <;> first | exact xo hg | rw [hg]))
  refine Be () hi trivial ?_
  rw [hup, Dz, ← List.append_assoc]
  exact (CO [(1, _, _)])
 ·rw [List.take_of_length_le (Nat.le_refl _), ← q0, ← Dz]
  repeat' (first | refine Al ?_ | (refine Ay ?_; first | refine cz (cs) ?_) | refine Ak ?_ | refine nc ?_ ?_ | (with_reducible intro _ <;> (try (exfalso; omega))) | refine Ad ?_ | (refine nd ?_ ?_ <;> intro hg <;> first | exact xo hg | rw [hg]))
  all_goals first | exact AP _ | trace_state

end Go.Proofs.YtbgcjnfhadhjeaaGreat