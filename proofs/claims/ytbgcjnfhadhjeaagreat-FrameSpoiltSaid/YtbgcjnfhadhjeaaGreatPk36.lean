/- Walks by data and names, part 36: frame.all: of numbers, of vectors, of operations, by V. Arrays of numbers: not the same. The document's frames, by V: the same, plain, right. -/
import Derived.Test.YtbgcjnfhadhjeaaGreatPk35
import Derived.Test.YtbgcjnfhadhjeaaGreatPk28
import Derived.Test.YtbgcjnfhadhjeaaGreatPk27
import Derived.Test.YtbgcjnfhadhjeaaGreatPk23
namespace Go.Proofs.YtbgcjnfhadhjeaaGreat
set_option maxRecDepth 20000
open Go.RowKit
set_option maxRecDepth 10000
set_option maxHeartbeats 4000000
def Di {α : Type} (p : α → Bool) : Nat → List α → Int
 | _, [] => -1
 | i, x :: l => if p x then i else Di p (i + 1) l
theorem IY {α : Type} (p : α → Bool) : ∀ (l : List α) (i : Nat), decide (¬ 0 ≤ Di (fun x => !p x) i l) = l.all p
 | [], i => by simp [Di]
 | x :: l, i => by
  have ih := IY p l (i + 1)
  cases h : p x
  ·simp [Di, h]
  ·simp only [Di, List.all_cons, h, Bool.true_and, Bool.not_true, Bool.false_eq_true, if_false]; exact ih
abbrev PN (n : Int) : List D := [AW n]
theorem Aae {f : FuncId} {ca : List D} (l : List Int) (p : Int → Bool) (hcall : ∀ x ∈ l, VP Tryz.prog f (AW x :: ca) (· = .ret (.lit (.bool (p x))))) [Er ca ca] :
  VP Tryz.prog 109 [.sl false false (l.map PN), .fn f [] ca] (· = .ret (Ar (Di p 0 l))) := by
 refine Am fun B => ?_
 repeat' (first | refine Al ?_ | refine Ak ?_ | refine nc ?_ ?_ | (with_reducible intro _ <;> (try (exfalso; omega))) | refine Ad ?_ | (refine nd ?_ ?_ <;> intro hg <;> first | exact xo hg | rw [hg]))
 refine Bi 0 l PN (fun (i : Nat) (_ : Unit) => ⟨[(8, I .i64 i), (7, I .i64 (l.map PN).length), (0, .d (.sl false false (l.map PN))), (1, .d (.fn f [] ca))], [], 0⟩) (fun i _ => Di p 0 l = Di p i (l.drop i)) () (AI) rfl (fun i y x hT hi hx hx' hlt hlm hlen hdr => ?_) (fun y hT hlt hlm => ?_)
 ·rw [hdr] at hT
  have c := hcall x (List.mem_of_getElem? hx)
  repeat' (first | refine Al ?_ | (refine Ay ?_; first | refine cz (c) ?_) | refine Ak ?_ | refine nc ?_ ?_ | (with_reducible intro _ <;> (try (exfalso; omega))) | refine Ad ?_ | (refine nd ?_ ?_ <;> intro hg <;> first | exact xo hg | rw [hg]))
  ·rw [hT]; simp_all [Di]
  ·refine Be () hi ?_ (AI); rw [hT]; simp_all [Di]
 ·repeat' (first | refine Al ?_ | refine Ak ?_ | refine nc ?_ ?_ | (with_reducible intro _ <;> (try (exfalso; omega))) | refine Ad ?_ | (refine nd ?_ ?_ <;> intro hg <;> first | exact xo hg | rw [hg]))
  rw [hT, List.drop_of_length_le (Nat.le_refl _)]; rfl
theorem X4 {f : FuncId} {ca : List D} (l : List Int) (p : Int → Bool) (hcall : ∀ x ∈ l, VP Tryz.prog f (AW x :: ca) (· = .ret (.lit (.bool (p x))))) [Er ca ca] :
  VP Tryz.prog 68 [.sl false false (l.map PN), .fn f [] ca] (· = .ret (.lit (.bool (decide (0 ≤ Di p 0 l))))) := by
 haveI : CC (l.map PN) (l.map PN) := BS l _ _ (fun _ => inferInstance) (fun _ => rfl)
 have c := Aae l p hcall
 refine Am fun B => ?_
 repeat' (first | refine Al ?_ | (refine Ay ?_; first | refine cz (c) ?_) | refine Ak ?_ | refine nc ?_ ?_ | (with_reducible intro _ <;> (try (exfalso; omega))) | refine Ad ?_ | (refine nd ?_ ?_ <;> intro hg <;> first | exact xo hg | rw [hg]))
 all_goals rfl
theorem Yi {f : FuncId} {ca : List D} (x : Int) {b : Bool} (hcall : VP Tryz.prog f (AW x :: ca) (· = .ret (.lit (.bool b)))) [Er ca ca] :
  VP Tryz.prog 69 [AW x, .pt [.fn f [] ca]] (· = .ret (.lit (.bool (!b)))) := by
 refine Am fun B => ?_
 repeat' (first | refine Al ?_ | (refine Ay ?_; first | refine cz (hcall) ?_) | refine Ak ?_ | refine nc ?_ ?_ | (with_reducible intro _ <;> (try (exfalso; omega))) | refine Ad ?_ | (refine nd ?_ ?_ <;> intro hg <;> first | exact xo hg | rw [hg]))
 all_goals rfl
theorem L0 {f : FuncId} {ca : List D} (l : List Int) (p : Int → Bool) (hcall : ∀ x ∈ l, VP Tryz.prog f (AW x :: ca) (· = .ret (.lit (.bool (p x))))) [Er ca ca] :
  VP Tryz.prog 38 [.sl false false (l.map PN), .fn f [] ca] (· = .ret (.lit (.bool (l.all p)))) := by
 haveI : CC (l.map PN) (l.map PN) := BS l _ _ (fun _ => inferInstance) (fun _ => rfl)
 have c := X4 (ca := [.pt [.fn f [] ca]]) l (fun x => !p x) fun x hx => Yi x (hcall x hx)
 rw [← IY p l 0]
 generalize Di (fun x => !p x) 0 l = q at *
 refine Am fun B => ?_
 repeat' (first | refine Al ?_ | (refine Ay ?_; first | refine cz (c) ?_) | refine Ak ?_ | refine nc ?_ ?_ | (with_reducible intro _ <;> (try (exfalso; omega))) | refine Ad ?_ | (refine nd ?_ ?_ <;> intro hg <;> first | exact xo hg | rw [hg]))
 all_goals first | rfl | trace_state
theorem Aad {f : FuncId} {ca : List D} (l : List Vc) (p : Vc → Bool) (hcall : ∀ x ∈ l, VP Tryz.prog f (.agg (Hz x) :: ca) (· = .ret (.lit (.bool (p x))))) [Er ca ca] :
  VP Tryz.prog 110 [.sl false false (l.map Hz), .fn f [] ca] (· = .ret (Ar (Di p 0 l))) := by
 refine Am fun B => ?_
 repeat' (first | refine Al ?_ | refine Ak ?_ | refine nc ?_ ?_ | (with_reducible intro _ <;> (try (exfalso; omega))) | refine Ad ?_ | (refine nd ?_ ?_ <;> intro hg <;> first | exact xo hg | rw [hg]))
 refine Bi 0 l Hz (fun (i : Nat) (_ : Unit) => ⟨[(8, I .i64 i), (7, I .i64 (l.map Hz).length), (0, .d (.sl false false (l.map Hz))), (1, .d (.fn f [] ca))], [], 0⟩) (fun i _ => Di p 0 l = Di p i (l.drop i)) () (AI) rfl (fun i y x hT hi hx hx' hlt hlm hlen hdr => ?_) (fun y hT hlt hlm => ?_)
 ·rw [hdr] at hT
  have c := hcall x (List.mem_of_getElem? hx)
  simp only [Hz] at c hx' ⊢
  repeat' (first | refine Al ?_ | (refine Ay ?_; first | refine cz (c) ?_) | refine Ak ?_ | refine nc ?_ ?_ | (with_reducible intro _ <;> (try (exfalso; omega))) | refine Ad ?_ | (refine nd ?_ ?_ <;> intro hg <;> first | exact xo hg | rw [hg]))
  ·rw [hT]; simp_all [Di]
  ·refine Be () hi ?_ (AI); rw [hT]; simp_all [Di]
 ·repeat' (first | refine Al ?_ | refine Ak ?_ | refine nc ?_ ?_ | (with_reducible intro _ <;> (try (exfalso; omega))) | refine Ad ?_ | (refine nd ?_ ?_ <;> intro hg <;> first | exact xo hg | rw [hg]))
  rw [hT, List.drop_of_length_le (Nat.le_refl _)]; rfl
theorem X3 {f : FuncId} {ca : List D} (l : List Vc) (p : Vc → Bool) (hcall : ∀ x ∈ l, VP Tryz.prog f (.agg (Hz x) :: ca) (· = .ret (.lit (.bool (p x))))) [Er ca ca] :
  VP Tryz.prog 70 [.sl false false (l.map Hz), .fn f [] ca] (· = .ret (.lit (.bool (decide (0 ≤ Di p 0 l))))) := by
 haveI : CC (l.map Hz) (l.map Hz) := BS l _ _ (fun _ => inferInstance) (fun _ => rfl)
 have c := Aad l p hcall
 refine Am fun B => ?_
 repeat' (first | refine Al ?_ | (refine Ay ?_; first | refine cz (c) ?_) | refine Ak ?_ | refine nc ?_ ?_ | (with_reducible intro _ <;> (try (exfalso; omega))) | refine Ad ?_ | (refine nd ?_ ?_ <;> intro hg <;> first | exact xo hg | rw [hg]))
 all_goals rfl
theorem Yh {f : FuncId} {ca : List D} (x : Vc) {b : Bool} (hcall : VP Tryz.prog f (.agg (Hz x) :: ca) (· = .ret (.lit (.bool b)))) [Er ca ca] :
  VP Tryz.prog 71 [.agg (Hz x), .pt [.fn f [] ca]] (· = .ret (.lit (.bool (!b)))) := by
 simp only [Hz] at hcall ⊢
 refine Am fun B => ?_
 repeat' (first | refine Al ?_ | (refine Ay ?_; first | refine cz (hcall) ?_) | refine Ak ?_ | refine nc ?_ ?_ | (with_reducible intro _ <;> (try (exfalso; omega))) | refine Ad ?_ | (refine nd ?_ ?_ <;> intro hg <;> first | exact xo hg | rw [hg]))
 all_goals rfl
theorem LZ {f : FuncId} {ca : List D} (l : List Vc) (p : Vc → Bool) (hcall : ∀ x ∈ l, VP Tryz.prog f (.agg (Hz x) :: ca) (· = .ret (.lit (.bool (p x))))) [Er ca ca] :
  VP Tryz.prog 40 [.sl false false (l.map Hz), .fn f [] ca] (· = .ret (.lit (.bool (l.all p)))) := by
 haveI : CC (l.map Hz) (l.map Hz) := BS l _ _ (fun _ => inferInstance) (fun _ => rfl)
 have c := X3 (ca := [.pt [.fn f [] ca]]) l (fun x => !p x) fun x hx => Yh x (hcall x hx)
 rw [← IY p l 0]
 generalize Di (fun x => !p x) 0 l = q at *
 refine Am fun B => ?_
 repeat' (first | refine Al ?_ | (refine Ay ?_; first | refine cz (c) ?_) | refine Ak ?_ | refine nc ?_ ?_ | (with_reducible intro _ <;> (try (exfalso; omega))) | refine Ad ?_ | (refine nd ?_ ?_ <;> intro hg <;> first | exact xo hg | rw [hg]))
 all_goals first | rfl | trace_state
theorem Aaf {f : FuncId} {ca : List D} (l : List Bb) (p : Bb → Bool) (hcall : ∀ x ∈ l, VP Tryz.prog f (.agg (oD x) :: ca) (· = .ret (.lit (.bool (p x))))) [Er ca ca] :
  VP Tryz.prog 120 [.sl false false (l.map oD), .fn f [] ca] (· = .ret (Ar (Di p 0 l))) := by
 refine Am fun B => ?_
 repeat' (first | refine Al ?_ | refine Ak ?_ | refine nc ?_ ?_ | (with_reducible intro _ <;> (try (exfalso; omega))) | refine Ad ?_ | (refine nd ?_ ?_ <;> intro hg <;> first | exact xo hg | rw [hg]))
 refine Bi 0 l oD (fun (i : Nat) (_ : Unit) => ⟨[(8, I .i64 i), (7, I .i64 (l.map oD).length), (0, .d (.sl false false (l.map oD))), (1, .d (.fn f [] ca))], [], 0⟩) (fun i _ => Di p 0 l = Di p i (l.drop i)) () (AI) rfl (fun i y x hT hi hx hx' hlt hlm hlen hdr => ?_) (fun y hT hlt hlm => ?_)
 ·rw [hdr] at hT
  have c := hcall x (List.mem_of_getElem? hx)
  simp only [oD, De] at c hx' ⊢
  repeat' (first | refine Al ?_ | (refine Ay ?_; first | refine cz (c) ?_) | refine Ak ?_ | refine nc ?_ ?_ | (with_reducible intro _ <;> (try (exfalso; omega))) | refine Ad ?_ | (refine nd ?_ ?_ <;> intro hg <;> first | exact xo hg | rw [hg]))
  ·rw [hT]; simp_all [Di]
  ·refine Be () hi ?_ (AI); rw [hT]; simp_all [Di]
 ·repeat' (first | refine Al ?_ | refine Ak ?_ | refine nc ?_ ?_ | (with_reducible intro _ <;> (try (exfalso; omega))) | refine Ad ?_ | (refine nd ?_ ?_ <;> intro hg <;> first | exact xo hg | rw [hg]))
  rw [hT, List.drop_of_length_le (Nat.le_refl _)]; rfl
theorem X5 {f : FuncId} {ca : List D} (l : List Bb) (p : Bb → Bool) (hcall : ∀ x ∈ l, VP Tryz.prog f (.agg (oD x) :: ca) (· = .ret (.lit (.bool (p x))))) [Er ca ca] :
  VP Tryz.prog 76 [.sl false false (l.map oD), .fn f [] ca] (· = .ret (.lit (.bool (decide (0 ≤ Di p 0 l))))) := by
 haveI : CC (l.map oD) (l.map oD) := BS l _ _ (fun _ => inferInstance) (fun _ => rfl)
 have c := Aaf l p hcall
 refine Am fun B => ?_
 repeat' (first | refine Al ?_ | (refine Ay ?_; first | refine cz (c) ?_) | refine Ak ?_ | refine nc ?_ ?_ | (with_reducible intro _ <;> (try (exfalso; omega))) | refine Ad ?_ | (refine nd ?_ ?_ <;> intro hg <;> first | exact xo hg | rw [hg]))
 all_goals rfl
theorem Yj {f : FuncId} {ca : List D} (x : Bb) {b : Bool} (hcall : VP Tryz.prog f (.agg (oD x) :: ca) (· = .ret (.lit (.bool b)))) [Er ca ca] :
  VP Tryz.prog 77 [.agg (oD x), .pt [.fn f [] ca]] (· = .ret (.lit (.bool (!b)))) := by
 simp only [oD, De] at hcall ⊢
 refine Am fun B => ?_
 repeat' (first | refine Al ?_ | (refine Ay ?_; first | refine cz (hcall) ?_) | refine Ak ?_ | refine nc ?_ ?_ | (with_reducible intro _ <;> (try (exfalso; omega))) | refine Ad ?_ | (refine nd ?_ ?_ <;> intro hg <;> first | exact xo hg | rw [hg]))
 all_goals rfl
theorem Aaz {f : FuncId} {ca : List D} (l : List Bb) (p : Bb → Bool) (hcall : ∀ x ∈ l, VP Tryz.prog f (.agg (oD x) :: ca) (· = .ret (.lit (.bool (p x))))) [Er ca ca] :
  VP Tryz.prog 45 [.sl false false (l.map oD), .fn f [] ca] (· = .ret (.lit (.bool (l.all p)))) := by
 haveI : CC (l.map oD) (l.map oD) := BS l _ _ (fun _ => inferInstance) (fun _ => rfl)
 have c := X5 (ca := [.pt [.fn f [] ca]]) l (fun x => !p x) fun x hx => Yj x (hcall x hx)
 rw [← IY p l 0]
 generalize Di (fun x => !p x) 0 l = q at *
 refine Am fun B => ?_
 repeat' (first | refine Al ?_ | (refine Ay ?_; first | refine cz (c) ?_) | refine Ak ?_ | refine nc ?_ ?_ | (with_reducible intro _ <;> (try (exfalso; omega))) | refine Ad ?_ | (refine nd ?_ ?_ <;> intro hg <;> first | exact xo hg | rw [hg]))
 all_goals first | rfl | trace_state

set_option maxRecDepth 20000
section
variable {P : Program} {cx : Cx} {s : St}
theorem Abv {t yt ty e : TypeId} {x y : Operand} {v1 v2 : V} {xs ys : List Int} {n : Nat} {z : List Value} [hA : EE P t n e 1] [hI : Je P e .u64] [hT : Br P e false 1 z] [hG : Wm P t] (hx : Af s x = some v1) (hy : Af s y = some v2) (h1 : Wq v1 = some xs) (h2 : Wq v2 = some ys) (hl1 : xs.length = n) (hl2 : ys.length = n) :
  Bn P cx (.binOp .neq t x y yt) ty s (.d (.lit (.bool (!decide (xs = ys))))) := fun g a w hS => by
 have e1 := Kr h1 (hS.eval hx)
 have e2 := Kr h2 (hS.eval hy)
 obtain ⟨hu, i, hi, hsz⟩ := hA.get
 have hc : P.cellsOf e = 1 := by simp [Program.cellsOf, hi, hsz]
 have hg := run_eqGuard_agg (P := P) (w := w) .neq t x y (xs.map uV).toArray (ys.map uV).toArray hG.no
 have hq := run_equalIn_array (P := P) w 9999 (xs.map uV).toArray (ys.map uV).toArray hu hi
 rw [hc, FL (e := e) (z := z) 9998 xs ys _ (fun j hj => by simp at hj; omega)] at hq
 have hd : (decide (∀ i ∈ List.range n, xs[i]? = ys[i]?)) = decide (xs = ys) := by
  rw [Bool.eq_iff_iff]
  simp only [List.mem_range, decide_eq_true_eq]
  constructor
  ·intro h
   apply List.ext_getElem?
   intro i
   by_cases hi : i < n
   ·exact h i hi
   ·rw [List.getElem?_eq_none (by omega), List.getElem?_eq_none (by omega)]
  ·rintro rfl _ _; rfl
 rw [hd] at hq
 have hs := run_neq_struct (P := P) (w := w) t (xs.map uV).toArray (ys.map uV).toArray
 rw [hq] at hs
 exact ⟨.bool (!decide (xs = ys)), by simp [execOp, e1, e2, hg, hs], by simp only [vrep, drep]⟩
end
section
variable {P : Program} {cx : Cx} {tm : List (Nat × V)} {st : List E} {nb : Nat} {Q : VE → St → Prop} {ops rest : List Oper}
theorem Y4 {d : Tmp} {t yt ty e : TypeId} {x y : Operand} {v1 v2 : V} {xs ys : List Int} {n : Nat} {z : List Value} {pos : String} {af : Array Edge} {gd : Option (Nat × Bool)} [hA : EE P t n e 1] [hI : Je P e .u64] [hT : Br P e false 1 z] [hG : Wm P t] (k : VL P cx ops rest ⟨(d, .d (.lit (.bool (!decide (xs = ys))))) :: tm, st, nb⟩ Q)
  (hx : Af ⟨tm, st, nb⟩ x = some v1 := by rfl) (hy : Af ⟨tm, st, nb⟩ y = some v2 := by rfl) (h1 : Wq v1 = some xs := by rfl) (h2 : Wq v2 = some ys := by rfl) (hl1 : xs.length = n := by rfl) (hl2 : ys.length = n := by rfl) (hd : Nat.blt d cx.N = true := by rfl)
  (hw : Wd ops tm gd := by first | exact trivial | exact A9 rfl rfl (by with_reducible rfl)) : VL P cx ops (⟨some d, .binOp .neq t x y yt, ty, pos, af, gd⟩ :: rest) ⟨tm, st, nb⟩ Q := HV k (IB (h := Abv hx hy h1 h2 hl1 hl2) (hd := hd) (hw := hw))
end

set_option maxRecDepth 10000
instance : Wm Tryz.prog 26 := ⟨by kernel_rfl⟩
theorem Zw (l m : List Bb) : VP Tryz.prog 50 [Ej l, Ej m] (· = .ret (.lit (.bool (decide (l = m))))) := by
 rw [← QG]
 refine Am fun B => ?_
 have hl := DW l
 have hm := DW m
 generalize hp : (fun x y : Bb => decide (x = y)) = p
 repeat' (first | refine Al ?_ | refine Ak ?_ | refine nc ?_ ?_ | (with_reducible intro _ <;> (try (exfalso; omega))) | refine Ad ?_ | (refine nd ?_ ?_ <;> intro hg <;> first | exact xo hg | rw [hg]))
 ·rw [N5 (by omega)]
 ·refine Bi 12 l oD (fun (i : Nat) (_ : Unit) => ⟨[(14, I .i64 i), (13, I .i64 (l.map oD).length), (12, .d (Ej l)), (4, .d (.lit (.bool false))), (0, .d (Ej l)), (1, .d (Ej m))], [], 0⟩) (fun i _ => PH p l m = PH p (l.drop i) (m.drop i)) () (AI) rfl (fun i y x hT hi hx hx' hlt hlm hlen hdr => ?_) (fun y hT hlt hlm => ?_)
  ·have hlb : i < m.length := by omega
   have hb' : m[i]? = some m[i] := List.getElem?_eq_getElem hlb
   have hbd := List.drop_eq_getElem_cons hlb
   generalize m[i] = z at *
   have hbx : (m.map oD)[((i : Nat) : Int).toNat]? = some (oD z) := by simp [hb']
   rw [hdr, hbd] at hT
   have c := MM x z
   rw [show decide (x = z) = p x z by rw [← hp]] at c
   simp only [oD, De] at c hx' hbx ⊢
   repeat' (first | refine Al ?_ | (refine Ay ?_; first | refine cz (c) ?_) | refine Ak ?_ | refine nc ?_ ?_ | (with_reducible intro _ <;> (try (exfalso; omega))) | refine Ad ?_ | (refine nd ?_ ?_ <;> intro hg <;> first | exact xo hg | rw [hg]))
   ·rw [hT]; simp_all [PH]
   ·refine Be () hi ?_ (AI); rw [hT]; simp_all [PH]
  ·repeat' (first | refine Al ?_ | refine Ak ?_ | refine nc ?_ ?_ | (with_reducible intro _ <;> (try (exfalso; omega))) | refine Ad ?_ | (refine nd ?_ ?_ <;> intro hg <;> first | exact xo hg | rw [hg]))
   rw [hT, List.drop_of_length_le (Nat.le_refl _), List.drop_of_length_le (by omega)]; rfl
theorem Tw (a b : Vc) : [(a.n0 : Int), a.n1, a.n2, a.n3, a.n4, a.n5, a.n6, a.n7, a.n8] = [(b.n0 : Int), b.n1, b.n2, b.n3, b.n4, b.n5, b.n6, b.n7, b.n8] ↔ a = b := by
 obtain ⟨a0, a1, a2, a3, a4, a5, a6, a7, a8⟩ := a
 obtain ⟨b0, b1, b2, b3, b4, b5, b6, b7, b8⟩ := b
 simp only [List.cons.injEq, and_true, Vc.mk.injEq, Int.natCast_inj]
theorem YH (a b : Fr) : a = b ↔ a.k = b.k ∧ a.ep = b.ep ∧ a.si = b.si ∧ a.sn = b.sn ∧ a.ix = b.ix ∧ a.my = b.my ∧ a.bs = b.bs ∧ a.os = b.os ∧ a.v = b.v ∧ a.fl = b.fl ∧ a.fq = b.fq ∧ a.pr = b.pr ∧ a.tl = b.tl ∧ a.w = b.w := by cases a; cases b; simp
theorem Ef (a b : Fr) : VP Tryz.prog 13 [.agg (Bx a), .agg (Bx b)] (· = .ret (.lit (.bool (decide (a = b))))) := by
 have c1 := T4 a.bs b.bs
 have c2 := Zw a.os b.os
 simp only [Bx, Cj]
 refine Am fun B => ?_
 repeat' (first | refine Al ?_ | (refine Ay ?_; first | refine cz (c1) ?_ | refine cz (c2) ?_ | refine Y4 ?_) | refine Ak ?_ | refine nc ?_ ?_ | (with_reducible intro _ <;> (try (exfalso; omega))) | refine Ad ?_ | (refine nd ?_ ?_ <;> intro hg <;> first | exact xo hg | rw [hg]))
 all_goals (clear c1 c2; have hq := YH a b; (try simp only [Tw] at *); (try norm_cast at *); simp_all)
theorem Fe (f : Fr) : VP Tryz.prog 33 [.agg (Bx f)] (· = .ret (.agg (Bx (Eo f)))) := by
 have c1 := K3 f.k
 have hfl := LF (AV f.k)
 refine VP.le ?_
 refine Am fun B => ?_
 repeat' (first | refine Al ?_ | (refine Ay ?_; first | refine cz (c1) ?_) | refine Ak ?_ | refine nc ?_ ?_ | (with_reducible intro _ <;> (try (exfalso; omega))) | refine Ad ?_ | (refine nd ?_ ?_ <;> intro hg <;> first | exact xo hg | rw [hg]))
 refine Bi 11 (AV f.k) (fun n => [Iz n]) (fun (i : Nat) (z : Fr × D × D) => ⟨[(13, I .i64 i), (12, I .i64 (EN (AV f.k)).length), (11, .d (.sl false true (EN (AV f.k)))), (1, .ptr 0 0), (2, .ptr 1 0), (3, .ptr 2 0)], [.c 2 0 ((Db z.2.1 z.2.2 z.1).map V.d), .c 1 0 ((Db E4 E4 Fr.zero).map V.d), .c 0 0 ((Bx f).map V.d)], 3⟩) (fun i z => Eo f = ((AV f.k).drop i).foldl (fun o n => Ko o f n) z.1 ∧ AbP z.2.1 z.1.bs ∧ AbO z.2.2 z.1.os ∧ Co (.d z.2.1) = true ∧ Co (.d z.2.2) = true) ({ Fr.zero with k := f.k }, E4, E4) (AI) ⟨rfl, .inr ⟨rfl, rfl⟩, .inr ⟨rfl, rfl⟩, rfl, rfl⟩ (fun i y x hT hi hx hx' hlt hlm hlen hdr => ?_) (fun y hT hlt hlm => ?_)
 ·obtain ⟨hT, hb, ho, hb1, ho1⟩ := hT
  rw [hdr] at hT
  obtain ⟨z, b, o⟩ := y
  dsimp only at *
  have c2 := W4 b o hb1 ho1 z f x
  haveI q1 : DL b b := by rcases hb with rfl | ⟨rfl, _⟩ <;> infer_instance
  haveI q2 : DL o o := by rcases ho with rfl | ⟨rfl, _⟩ <;> infer_instance
  have k1 : AbP (if x = .bs then CV f.bs else b) (Ko z f x).bs := by cases x <;> first | exact hb | exact .inl rfl
  have k2 : AbO (if x = .os then Ej f.os else o) (Ko z f x).os := by cases x <;> first | exact ho | exact .inl rfl
  have k3 : Co (.d (if x = .bs then CV f.bs else b)) = true := by split <;> first | exact hb1 | rfl
  have k4 : Co (.d (if x = .os then Ej f.os else o)) = true := by split <;> first | exact ho1 | rfl
  generalize (if x = .bs then CV f.bs else b) = b' at *
  generalize (if x = .os then Ej f.os else o) = o' at *
  generalize hu : Ko z f x = u at *
  repeat' (first | refine Al ?_ | (refine Ay ?_; first | refine cz (c2) ?_) | refine Ak ?_ | refine nc ?_ ?_ | (with_reducible intro _ <;> (try (exfalso; omega))) | refine Ad ?_ | (refine nd ?_ ?_ <;> intro hg <;> first | exact xo hg | rw [hg]) | refine WD ?_ (by (with_reducible apply FT) <;> first | rfl | (repeat (first | exact rfl | refine NT (by first | rfl | assumption) ?_))))
  refine Be (u, b', o') hi ?_ (AI)
  exact ⟨by rw [hT, ← hu]; rfl, k1, k2, k3, k4⟩
 ·obtain ⟨hT, hb, ho, hb1, ho1⟩ := hT
  obtain ⟨z, b, o⟩ := y
  dsimp only at *
  rw [List.drop_of_length_le (Nat.le_refl _)] at hT
  repeat' (first | refine Al ?_ | refine Ak ?_ | refine nc ?_ ?_ | (with_reducible intro _ <;> (try (exfalso; omega))) | refine Ad ?_ | (refine nd ?_ ?_ <;> intro hg <;> first | exact xo hg | rw [hg]) | refine WD ?_ (by (with_reducible apply FT) <;> first | rfl | (repeat (first | exact rfl | refine NT (by first | rfl | assumption) ?_))))
  rw [show Eo f = z from hT]
  rcases hb with rfl | ⟨rfl, hb⟩ <;> rcases ho with rfl | ⟨rfl, ho⟩
  ·exact AP _
  all_goals simp only [Bx, Cj, HN, *, AH, List.map_nil]
  all_goals infer_instance

set_option maxRecDepth 20000
theorem MU {F : Fence} {n : Nat} {P : Program} {o : Oper} {a : Act} {w : World} {K K' : Act → World → Prop} {Q Q' : Exit → Act → World → Prop} (h : ∀ a w, K a w → K' a w) (hq : ∀ e a w, e ≠ .normal → Q e a w → Q' e a w)
  (hh : o.wpIn F n P a w K Q) : o.wpIn F n P a w K' Q' := by
 have hl : LetsOut Q → LetsOut Q' := fun ⟨a, w, hl⟩ => ⟨a, w, hq _ _ _ (by intro q; cases q) hl⟩
 unfold Oper.wpIn at *
 refine ⟨hh.1, ?_⟩
 have hh := hh.2
 generalize (o.semAt F.round a.eval).run P w = r at *
 cases r with
 | ok x w' =>
  cases x <;> simp only [Oper.uponIn] at hh ⊢ <;>
   first
    | exact h _ _ hh
    | exact ⟨hh.1, CallsIn.mono hh.2 (fun e w'' he => by cases e <;> first | exact h _ _ he | exact hq _ _ _ (by intro q; cases q) he | exact hl he)⟩
    | exact ⟨hh.1, RowsIn.mono hh.2 (fun _ _ he => h _ _ he)⟩
    | exact ⟨hh.1, RoundIn.mono hh.2 (fun e w'' he => by cases e <;> first | exact h _ _ he | exact hq _ _ _ (by intro q; cases q) he | exact hl he)⟩
 | halt x w' => cases x <;> simp only [Oper.uponIn] at hh ⊢ <;> first | exact hh | exact hq _ _ _ (by intro q; cases q) hh
def VA (P : Program) (cx : Cx) (l : List Oper) (k : Nat) (listed : Array Bool) (s : St) (Q : VE → St → Prop) : Prop :=
 ∀ n g0 w0 g a w, D8 cx.sp cx.m g0 w0 g w → C7 cx g a w s → wpAnyIn (FW cx.rd) n P .any l.toArray (ET cx g0 w0 Q) k listed a w
def Yg (P : Program) (cx : Cx) (l : List Oper) (k : Nat) (listed : Array Bool) (Q : VE → St → Prop) : VE → St → Prop
 | .normal, s => VA P cx l k listed s Q
 | e, s => Q e s
section
variable {P : Program} {cx : Cx} {s : St} {Q : VE → St → Prop} {l : List Oper}
theorem Y3 {id : Nat} (hm : P.follows .mixedOrders = true) (h : VA P cx l l.length (Array.replicate l.length false) s Q) : VW P cx (.region id l.toArray true) s Q := fun n g0 w0 g a w hE hS => by
 have hN : QN cx.B g w g w.drew none := ⟨⟨rfl, rfl, rfl, Nat.le_refl _, fun h => h, fun h => h, fun _ _ h => ⟨h, rfl⟩, fun _ h => h, fun _ _ => rfl, .refl⟩, fun _ _ => rfl, fun _ _ => ⟨rfl, rfl, rfl⟩⟩
 refine wpIn_region_any hm ?_
 have := h n g0 w0 g a w.drew (hE.trans hN.evo) ⟨hS.size, fun ht => hN.evo.vrep (hS.tm ht), hS.st.newO hN hS.inv (fun _ h => by cases h), hS.inv.evo (w' := w.drew) (Nat.le_refl _), hS.defers.evo hN.evo⟩
 simpa using this
theorem Ty {k : Nat} {listed : Array Bool} {s' : St} (h : Sb cx s s') (k' : VA P cx l k listed s' Q) : VA P cx l k listed s Q := fun n g0 w0 g a w hE hS =>
 let ⟨g', h1, h2⟩ := h g0 w0 g a w hE hS; k' n g0 w0 g' a w h1 h2
theorem WR {k : Nat} {listed : Array Bool} {is : List Nat} (hr : Region.ready .any l.toArray listed = is) (hne : is ≠ []) (h : ∀ i ∈ is, ∃ o, l[i]? = some o ∧ VL P cx l [o] s (Yg P cx l k (listed.setIfInBounds i true) Q)) : VA P cx l (k + 1) listed s Q := fun n g0 w0 g a w hE hS => by
 refine ⟨fun e => (hne (hr.symm.trans e)).elim, fun i hi => ?_⟩
 rw [hr] at hi
 obtain ⟨o, ho, hv⟩ := h i hi
 have hv := hv n g0 w0 g a w hE hS
 have key : ∀ a' w', ET cx g0 w0 (Yg P cx l k (listed.setIfInBounds i true) Q) .normal a' w' → wpAnyIn (FW cx.rd) n P .any l.toArray (ET cx g0 w0 Q) k (listed.setIfInBounds i true) a' w' := fun a' w' hp => by
  obtain ⟨g', s', e', h1, h2, h3, h4⟩ := hp
  cases e' <;> simp only [BJ] at h3 <;> first | exact h4 n g0 w0 g' a' w' h1 h2 | (simp at h3)
 have keyq : ∀ e a' w', e ≠ .normal → ET cx g0 w0 (Yg P cx l k (listed.setIfInBounds i true) Q) e a' w' → ET cx g0 w0 Q e a' w' := fun e a' w' hne hp => by
  obtain ⟨g', s', e', h1, h2, h3, h4⟩ := hp
  refine ⟨g', s', e', h1, h2, h3, ?_⟩
  cases e' <;> first | exact h4 | (simp only [BJ] at h3; exact (hne h3).elim)
 unfold wpOpIn
 rw [List.getElem?_toArray, ho]
 simp only [BP] at hv ⊢
 split
 ·rename_i hw
  rw [if_pos hw] at hv
  exact MU key keyq hv
 ·rename_i hw
  rw [if_neg hw] at hv
  exact ⟨hv.1, key _ _ hv.2⟩
theorem Wl {k : Nat} {listed : Array Bool} (h : VA P cx l k listed s Q) : Yg P cx l k listed Q .normal s := h
end

end Go.Proofs.YtbgcjnfhadhjeaaGreat