/- Walks by data and names, part 37: The document's layer 19, by V: operations and rows of them that are taken from bytes. Arrays of numbers: not the same. The document's frames, by V: the same, plain, right. -/
import Derived.Test.YtbgcjnfhadhjeaaGreatQk36
import Derived.Test.YtbgcjnfhadhjeaaGreatQk25
import Derived.Test.YtbgcjnfhadhjeaaGreatQk31
import Derived.Test.YtbgcjnfhadhjeaaGreatQk24
import Derived.Test.YtbgcjnfhadhjeaaGreatQk30
namespace Go.Proofs.YtbgcjnfhadhjeaaGreat
set_option maxRecDepth 20000
open Go.RowKit
set_option maxRecDepth 10000
set_option maxHeartbeats 8000000
theorem Sl {i : Ba} {k : Int} {b t : List UInt8} {o : A5} (h : AR { A5.zero with id := i, k := k } b = .ok (o, t)) : o.px.length ≤ 64 := by
 simp only [AR] at h
 repeat' (split at h)
 all_goals first
  | (cases h; fail_if_success (focus skip))
  | (rename_i hs; cases h; exact OL hs)
  | (cases h; simp [A5.zero]; fail_if_success (focus skip))
theorem Sc (b : List UInt8) (hb : b.length ≤ 1000000) : VP Tryz.prog 156 [BD b] (· = .ret (.tup [.agg (oM (C8 b).1), An (C8 b).2.1, An (C8 b).2.2])) := by
 refine VP.le ?_
 rcases b with _ | ⟨k, b⟩
 ·have c := Dm
  refine Al fun B => ?_
  repeat' (first | refine Ai ?_ | (refine As ?_; first | refine cz (c) ?_) | refine Ah ?_ | refine nc ?_ ?_ | (with_reducible intro _ <;> (try (exfalso; omega))) | refine Aa ?_ | (refine nd ?_ ?_ <;> intro hg <;> first | exact xo hg | rw [hg]))
  all_goals (simp only [C8, Da, Cm, oM, C6, A5.zero, Ba.zero, BO.zero, PB, Fx, List.map_nil]; infer_instance)
 have c := Dl k b
 have hk8 := k.toNat_lt
 by_cases hk : 1 ≤ k.toNat ∧ k.toNat ≤ 8
 rotate_left 1
 ·refine Al fun B => ?_
  repeat' (first | refine Ai ?_ | (refine As ?_; first | refine cz (c) ?_) | refine Ah ?_ | refine nc ?_ ?_ | (with_reducible intro _ <;> (try (exfalso; omega))) | refine Aa ?_ | (refine nd ?_ ?_ <;> intro hg <;> first | exact xo hg | rw [hg]))
  all_goals first | (exfalso; omega) | (simp only [C8, Da, hk, if_false, Cm, oM, C6, A5.zero, Ba.zero, BO.zero, PB, Fx, List.map_nil]; infer_instance)
 by_cases hl : 17 ≤ b.length
 rotate_left 1
 ·have c2 := VB b (by omega)
  have e : C8 (k :: b) = (.zero, 0, 110) := by simp only [C8, Da, D6]; rw [if_pos hk, if_neg hl]
  rw [e]
  refine Al fun B => ?_
  repeat' (first | refine Ai ?_ | (refine As ?_; first | refine cz (c) ?_ | refine cz (c2) ?_) | refine Ah ?_ | refine nc ?_ ?_ | (with_reducible intro _ <;> (try (exfalso; omega))) | refine Aa ?_ | (refine nd ?_ ?_ <;> intro hg <;> first | exact xo hg | rw [hg]))
  all_goals first | (exfalso; omega) | (simp only [Cm, oM, C6, A5.zero, Ba.zero, BO.zero, PB, Fx, List.map_nil]; infer_instance)
 have c2 := Vz b hl
 obtain ⟨i, hi⟩ : ∃ i : Ba, (⟨AV (b.take 8), AV ((b.drop 8).take 1), AV ((b.drop 9).take 8)⟩ : Ba) = i := ⟨_, rfl⟩
 rw [hi] at c2
 have hid : D6 b = some (i, b.drop 17) := by rw [D6, if_pos hl, hi]
 clear hi
 have c3 := W0 i k.toNat hk (b.drop 17)
 have hbl := Av (k :: b)
 obtain ⟨B1, hB1⟩ : ∃ B1, b.drop 17 = B1 := ⟨_, rfl⟩
 rw [hB1] at c2 c3 hid
 cases hr : AR { A5.zero with id := i, k := k.toNat } B1 with
 | error e =>
  have ee : C8 (k :: b) = (.zero, 0, e) := by simp only [C8, Da, hid, hr]; rw [if_pos hk]
  rw [ee]
  rw [hr] at c3
  simp only [BR] at c3
  rcases OK hr with rfl | rfl
  all_goals
   refine Al fun B => ?_
   repeat' (first | refine Ai ?_ | (refine As ?_; first | refine cz (c) ?_ | refine cz (c2) ?_ | refine cz (c3) ?_) | refine Ah ?_ | refine nc ?_ ?_ | (with_reducible intro _ <;> (try (exfalso; omega))) | refine Aa ?_ | (refine nd ?_ ?_ <;> intro hg <;> first | exact xo hg | rw [hg]))
   all_goals first | (exfalso; omega) | (simp only [Cm, oM, C6, A5.zero, Ba.zero, BO.zero, PB, Fx, List.map_nil]; infer_instance)
 | ok q =>
  obtain ⟨o, t⟩ := q
  have hpx := Sl hr
  have c4 := KZ o (by omega)
  rw [hr] at c3
  simp only [BR] at c3
  obtain ⟨r, hR⟩ : ∃ r, Dr o = r := ⟨_, rfl⟩
  rw [hR] at c4
  have e1 : Da (k :: b) = if r then .ok (o, t) else .error 290 := by simp only [Da, hid, hr]; rw [if_pos hk, hR]
  cases r
  ·have ee : C8 (k :: b) = (.zero, 0, 290) := by simp only [C8, e1]; rfl
   rw [ee]
   simp only [oD, oM, C6] at c3 c4
   refine Al fun B => ?_
   repeat' (first | refine Ai ?_ | (refine As ?_; first | refine cz (c) ?_ | refine cz (c2) ?_ | refine cz (c3) ?_ | refine cz (c4) ?_) | refine Ah ?_ | refine nc ?_ ?_ | (with_reducible intro _ <;> (try (exfalso; omega))) | refine Aa ?_ | (refine nd ?_ ?_ <;> intro hg <;> first | exact xo hg | rw [hg]))
   all_goals first | (exfalso; omega) | (simp only [Cm, oM, C6, A5.zero, Ba.zero, BO.zero, PB, Fx, List.map_nil]; infer_instance)
  ·have ee : C8 (k :: b) = (o, ((k :: b).length : Int) - (t.length : Int), 0) := by simp only [C8, e1]; rfl
   rw [ee]
   have htl := Av t
   rw [← hbl, ← htl]
   have hle : (AG t).length ≤ (AG (k :: b)).length := by
    have := congrArg List.length (RP (show Da (k :: b) = .ok (o, t) from e1)).2
    rw [List.length_append] at this
    omega
   simp only [oD, oM, C6] at c3 c4 ⊢
   generalize hBB : k :: b = BB at *
   refine Al fun B => ?_
   repeat' (first | refine Ai ?_ | (refine As ?_; first | refine cz (c) ?_ | refine cz (c2) ?_ | refine cz (c3) ?_ | refine cz (c4) ?_) | refine Ah ?_ | refine nc ?_ ?_ | (with_reducible intro _ <;> (try (exfalso; omega))) | refine Aa ?_ | (refine nd ?_ ?_ <;> intro hg <;> first | exact xo hg | rw [hg]))
   all_goals first | (exfalso; omega) | exact A7 _ | (simp only [Cm]; infer_instance) | trace_state
theorem PF (b : List UInt8) (hb : b.length ≤ 1000000) : VP Tryz.prog 103 [BD b] (· = .ret (.tup [.sl false true ((Br b).1.map oM), An (Br b).2.1, An (Br b).2.2])) := by
 refine VP.le ?_
 rcases b with _ | ⟨n, b⟩
 ·have c := Dm
  refine Al fun B => ?_
  repeat' (first | refine Ai ?_ | (refine As ?_; first | refine cz (c) ?_) | refine Ah ?_ | refine nc ?_ ?_ | (with_reducible intro _ <;> (try (exfalso; omega))) | refine Aa ?_ | (refine nd ?_ ?_ <;> intro hg <;> first | exact xo hg | rw [hg]))
  all_goals (simp only [Br, EZ, Cm, List.map_nil]; infer_instance)
 have c := Dl n b
 have hn8 := n.toNat_lt
 by_cases hn : n.toNat ≤ 64
 rotate_left 1
 ·have ee : Br (n :: b) = ([], 0, 290) := by simp only [Br, EZ]; rw [if_neg hn]
  rw [ee]
  refine Al fun B => ?_
  repeat' (first | refine Ai ?_ | (refine As ?_; first | refine cz (c) ?_) | refine Ah ?_ | refine nc ?_ ?_ | (with_reducible intro _ <;> (try (exfalso; omega))) | refine Aa ?_ | (refine nd ?_ ?_ <;> intro hg <;> first | exact xo hg | rw [hg]))
  all_goals first | (exfalso; omega) | (simp only [Cm, List.map_nil]; infer_instance)
 obtain ⟨res, hE⟩ : ∃ E, Br (n :: b) = E := ⟨_, rfl⟩
 rw [hE]
 simp only [Br, EZ] at hE
 rw [if_pos hn] at hE
 obtain ⟨BB, hBB⟩ : ∃ BB, n :: b = BB := ⟨_, rfl⟩
 have hbl := Av BB
 have hdr1 : BB.drop 1 = b := by rw [← hBB]; rfl
 have hl1 : 1 ≤ BB.length := by rw [← hBB]; simp
 rw [hBB] at c hb hE ⊢
 refine Al fun B => ?_
 repeat' (first | refine Ai ?_ | (refine As ?_; first | refine cz (c) ?_) | refine Ah ?_ | refine nc ?_ ?_ | (with_reducible intro _ <;> (try (exfalso; omega))) | refine Aa ?_ | (refine nd ?_ ?_ <;> intro hg <;> first | exact xo hg | rw [hg]))
 all_goals first | (exfalso; omega) | skip
 refine HI 8 71 19 rfl ?_
 refine BP (fun p : List A5 × Nat => ⟨[(24, I .u64 p.1.length), (23, I .u64 n.toNat), (9, I .i64 p.2), (8, .row 0 0), (0, .d (BD BB))], [.r true true 0 0 71 19 (p.1.map oM)], 1⟩)
  (fun p => p.1.length ≤ n.toNat ∧ p.2 ≤ BB.length ∧ Dp n.toNat b = match Dp (n.toNat - p.1.length) (BB.drop p.2) with | .error e => .error e | .ok (l, t) => .ok (p.1 ++ l, t))
  (fun p => n.toNat - p.1.length) ([], 1) (AE) ⟨Nat.zero_le _, hl1, by rw [hdr1]; simp only [List.length_nil, Nat.sub_zero, List.nil_append]; cases Dp n.toNat b <;> rfl⟩ fun p hp => ?_
 obtain ⟨done, at0⟩ := p
 obtain ⟨hp1, hp2, hp3⟩ := hp
 simp only at hp1 hp2 hp3
 dsimp only
 have hdl : (done.map oM).length = done.length := List.length_map _
 have hcut := HL BB at0
 have hrl : (BB.drop at0).length = BB.length - at0 := List.length_drop
 obtain ⟨rest, hrest⟩ : ∃ r, BB.drop at0 = r := ⟨_, rfl⟩
 rw [hrest] at hp3 hcut hrl
 rcases Nat.lt_or_ge done.length n.toNat with h | h
 ·have d := Sc rest (by omega)
  rw [show n.toNat - done.length = (n.toNat - done.length - 1) + 1 by omega, Dp] at hp3
  cases hr : Da rest with
  | error e =>
   rw [show C8 rest = (.zero, 0, e) by rw [C8, hr]] at d
   rw [hr] at hp3
   simp only at hp3
   rw [hp3] at hE
   simp only at hE
   subst hE
   simp only [oM, C6] at d
   rcases PN hr with rfl | rfl
   all_goals
    repeat' (first | rw [hcut] | refine Ai ?_ | (refine As ?_; first | refine cz (d) ?_) | refine Ah ?_ | refine nc ?_ ?_ | (with_reducible intro _ <;> (try (exfalso; omega))) | refine Aa ?_ | (refine nd ?_ ?_ <;> intro hg <;> first | exact xo hg | rw [hg]))
    all_goals first | (exfalso; omega) | (simp only [Cm, List.map_nil]; infer_instance) | trace_state
  | ok q =>
   obtain ⟨o, t'⟩ := q
   rw [show C8 rest = (o, (rest.length : Int) - (t'.length : Int), 0) by rw [C8, hr]] at d
   rw [hr] at hp3
   simp only at hp3
   have hby := (RP hr).2
   have ht' := congrArg List.length hby
   rw [List.length_append] at ht'
   obtain ⟨m, hm⟩ : ∃ m : Nat, m = rest.length - t'.length := ⟨_, rfl⟩
   have hmi : (rest.length : Int) - (t'.length : Int) = (m : Int) := by omega
   rw [hmi] at d
   have hdm : BB.drop (at0 + m) = t' := by
    rw [← List.drop_drop, hrest, ← hby, show m = (Fk o).length by omega, List.drop_left]
   simp only [oM, C6] at d
   repeat' (first | rw [hcut] | refine Ai ?_ | (refine As ?_; first | refine cz (d) ?_) | refine Ah ?_ | refine nc ?_ ?_ | (with_reducible intro _ <;> (try (exfalso; omega))) | refine Aa ?_ | (refine nd ?_ ?_ <;> intro hg <;> first | exact xo hg | rw [hg]))
   all_goals first | (exfalso; omega) | skip
   refine AP (done ++ [o], at0 + m) ⟨by simp; omega, by simp only; omega, ?_⟩ (by simp; omega) ?_
   ·rw [hp3, hdm]
    simp only [List.length_append, List.length_cons, List.length_nil]
    rw [show n.toNat - (done.length + (0 + 1)) = n.toNat - done.length - 1 by omega]
    cases Dp (n.toNat - done.length - 1) t' with
    | error e => rfl
    | ok z => obtain ⟨l, t⟩ := z; simp
   ·dsimp only
    rw [show (((done ++ [o]).length : Nat) : Int) = (done.length : Int) + 1 by simp]
    simp only [List.map_append, List.map_cons, List.map_nil, Int.natCast_add]
    exact (Eo [(0, _, _)])
 ·rw [show n.toNat - done.length = 0 by omega, Dp] at hp3
  simp only [List.append_nil] at hp3
  rw [hp3] at hE
  simp only at hE
  subst hE
  rw [show (BB.length : Int) - (rest.length : Int) = (at0 : Int) by omega]
  repeat' (first | refine Ai ?_ | refine Ah ?_ | refine nc ?_ ?_ | (with_reducible intro _ <;> (try (exfalso; omega))) | refine Aa ?_ | (refine nd ?_ ?_ <;> intro hg <;> first | exact xo hg | rw [hg]))
  all_goals first | (exfalso; omega) | exact A7 _ | (simp only [Cm]; infer_instance) | trace_state

set_option maxRecDepth 20000
section
variable {P : Program} {cx : Cx} {s : St}
theorem AbM {t yt ty e : TypeId} {x y : Operand} {v1 v2 : V} {xs ys : List Int} {n : Nat} {z : List Value} [hA : EP P t n e 1] [hI : Jn P e .u64] [hT : BE P e false 1 z] [hG : We P t] (hx : Af s x = some v1) (hy : Af s y = some v2) (h1 : Wh v1 = some xs) (h2 : Wh v2 = some ys) (hl1 : xs.length = n) (hl2 : ys.length = n) :
  Bq P cx (.binOp .neq t x y yt) ty s (.d (.lit (.bool (!decide (xs = ys))))) := fun g a w hS => by
 have e1 := Kn h1 (hS.eval hx)
 have e2 := Kn h2 (hS.eval hy)
 obtain ⟨hu, i, hi, hsz⟩ := hA.get
 have hc : P.cellsOf e = 1 := by simp [Program.cellsOf, hi, hsz]
 have hg := run_eqGuard_agg (P := P) (w := w) .neq t x y (xs.map uV).toArray (ys.map uV).toArray hG.no
 have hq := run_equalIn_array (P := P) w 9999 (xs.map uV).toArray (ys.map uV).toArray hu hi
 rw [hc, FP (e := e) (z := z) 9998 xs ys _ (fun j hj => by simp at hj; omega)] at hq
 have hd : (decide (∀ i ∈ List.range n, xs[i]? = ys[i]?)) = decide (xs = ys) := by
  rw [Bool.eq_iff_iff]
  simp only [List.mem_range, decide_eq_true_eq]
  constructor
  ·intro h
   apply List.ext_getElem?
   intro i
   by_cases hi : i < n
   ·exact h i hi
   ·rw [List.getElem?_eq_none (by omega), List.getElem?_eq_none (by omega)]
  ·rintro rfl _ _; rfl
 rw [hd] at hq
 have hs := run_neq_struct (P := P) (w := w) t (xs.map uV).toArray (ys.map uV).toArray
 rw [hq] at hs
 exact ⟨.bool (!decide (xs = ys)), by simp [execOp, e1, e2, hg, hs], by simp only [vrep, drep]⟩
end
section
variable {P : Program} {cx : Cx} {tm : List (Nat × V)} {st : List E} {nb : Nat} {Q : VE → St → Prop} {ops rest : List Oper}
theorem Zb {d : Tmp} {t yt ty e : TypeId} {x y : Operand} {v1 v2 : V} {xs ys : List Int} {n : Nat} {z : List Value} {pos : String} {af : Array Edge} {gd : Option (Nat × Bool)} [hA : EP P t n e 1] [hI : Jn P e .u64] [hT : BE P e false 1 z] [hG : We P t] (k : VL P cx ops rest ⟨(d, .d (.lit (.bool (!decide (xs = ys))))) :: tm, st, nb⟩ Q)
  (hx : Af ⟨tm, st, nb⟩ x = some v1 := by rfl) (hy : Af ⟨tm, st, nb⟩ y = some v2 := by rfl) (h1 : Wh v1 = some xs := by rfl) (h2 : Wh v2 = some ys := by rfl) (hl1 : xs.length = n := by rfl) (hl2 : ys.length = n := by rfl) (hd : Nat.blt d cx.N = true := by rfl)
  (hw : Wd ops tm gd := by first | exact trivial | exact A1 rfl rfl (by with_reducible rfl)) : VL P cx ops (⟨some d, .binOp .neq t x y yt, ty, pos, af, gd⟩ :: rest) ⟨tm, st, nb⟩ Q := H7 k (IM (h := AbM hx hy h1 h2 hl1 hl2) (hd := hd) (hw := hw))
end

set_option maxRecDepth 10000
set_option maxHeartbeats 4000000
instance : We Tryz.prog 26 := ⟨by kernel_rfl⟩
theorem ZF (l m : List A5) : VP Tryz.prog 50 [Ek l, Ek m] (· = .ret (.lit (.bool (decide (l = m))))) := by
 rw [← NR]
 refine Al fun B => ?_
 have hl := Fj l
 have hm := Fj m
 generalize hp : (fun x y : A5 => decide (x = y)) = p
 repeat' (first | refine Ai ?_ | refine Ah ?_ | refine nc ?_ ?_ | (with_reducible intro _ <;> (try (exfalso; omega))) | refine Aa ?_ | (refine nd ?_ ?_ <;> intro hg <;> first | exact xo hg | rw [hg]))
 ·rw [KC (by omega)]
 ·refine Bo 12 l oD (fun (i : Nat) (_ : Unit) => ⟨[(14, I .i64 i), (13, I .i64 (l.map oD).length), (12, .d (Ek l)), (4, .d (.lit (.bool false))), (0, .d (Ek l)), (1, .d (Ek m))], [], 0⟩) (fun i _ => MZ p l m = MZ p (l.drop i) (m.drop i)) () (AE) rfl (fun i y x hT hi hx hx' hlt hlm hlen hdr => ?_) (fun y hT hlt hlm => ?_)
  ·have hlb : i < m.length := by omega
   have hb' : m[i]? = some m[i] := List.getElem?_eq_getElem hlb
   have hbd := List.drop_eq_getElem_cons hlb
   generalize m[i] = z at *
   have hbx : (m.map oD)[((i : Nat) : Int).toNat]? = some (oD z) := by simp [hb']
   rw [hdr, hbd] at hT
   have c := MD x z
   rw [show decide (x = z) = p x z by rw [← hp]] at c
   simp only [oD, C6] at c hx' hbx ⊢
   repeat' (first | refine Ai ?_ | (refine As ?_; first | refine cz (c) ?_) | refine Ah ?_ | refine nc ?_ ?_ | (with_reducible intro _ <;> (try (exfalso; omega))) | refine Aa ?_ | (refine nd ?_ ?_ <;> intro hg <;> first | exact xo hg | rw [hg]))
   ·rw [hT]; simp_all [MZ]
   ·refine Bd () hi ?_ (AE); rw [hT]; simp_all [MZ]
  ·repeat' (first | refine Ai ?_ | refine Ah ?_ | refine nc ?_ ?_ | (with_reducible intro _ <;> (try (exfalso; omega))) | refine Aa ?_ | (refine nd ?_ ?_ <;> intro hg <;> first | exact xo hg | rw [hg]))
   rw [hT, List.drop_of_length_le (Nat.le_refl _), List.drop_of_length_le (by omega)]; rfl
theorem Tq (a b : Vc) : [(a.n0 : Int), a.n1, a.n2, a.n3, a.n4, a.n5, a.n6, a.n7, a.n8] = [(b.n0 : Int), b.n1, b.n2, b.n3, b.n4, b.n5, b.n6, b.n7, b.n8] ↔ a = b := by
 obtain ⟨a0, a1, a2, a3, a4, a5, a6, a7, a8⟩ := a
 obtain ⟨b0, b1, b2, b3, b4, b5, b6, b7, b8⟩ := b
 simp only [List.cons.injEq, and_true, Vc.mk.injEq, Int.natCast_inj]
theorem YP (a b : Fr) : a = b ↔ a.k = b.k ∧ a.ep = b.ep ∧ a.si = b.si ∧ a.sn = b.sn ∧ a.ix = b.ix ∧ a.my = b.my ∧ a.bs = b.bs ∧ a.os = b.os ∧ a.v = b.v ∧ a.fl = b.fl ∧ a.fq = b.fq ∧ a.pr = b.pr ∧ a.tl = b.tl ∧ a.w = b.w := by cases a; cases b; simp
theorem Ep (a b : Fr) : VP Tryz.prog 13 [.agg (Cc a), .agg (Cc b)] (· = .ret (.lit (.bool (decide (a = b))))) := by
 have c1 := TZ a.bs b.bs
 have c2 := ZF a.os b.os
 simp only [Cc, Dn]
 refine Al fun B => ?_
 repeat' (first | refine Ai ?_ | (refine As ?_; first | refine cz (c1) ?_ | refine cz (c2) ?_ | refine Zb ?_) | refine Ah ?_ | refine nc ?_ ?_ | (with_reducible intro _ <;> (try (exfalso; omega))) | refine Aa ?_ | (refine nd ?_ ?_ <;> intro hg <;> first | exact xo hg | rw [hg]))
 all_goals (clear c1 c2; have hq := YP a b; (try simp only [Tq] at *); (try norm_cast at *); simp_all)
theorem Fi (f : Fr) : VP Tryz.prog 33 [.agg (Cc f)] (· = .ret (.agg (Cc (E6 f)))) := by
 have c1 := OH f.k
 have hfl := LA (Bb f.k)
 refine VP.le ?_
 refine Al fun B => ?_
 repeat' (first | refine Ai ?_ | (refine As ?_; first | refine cz (c1) ?_) | refine Ah ?_ | refine nc ?_ ?_ | (with_reducible intro _ <;> (try (exfalso; omega))) | refine Aa ?_ | (refine nd ?_ ?_ <;> intro hg <;> first | exact xo hg | rw [hg]))
 refine Bo 11 (Bb f.k) (fun n => [Je n]) (fun (i : Nat) (z : Fr × D × D) => ⟨[(13, I .i64 i), (12, I .i64 (Fa (Bb f.k)).length), (11, .d (.sl false true (Fa (Bb f.k)))), (1, .ptr 0 0), (2, .ptr 1 0), (3, .ptr 2 0)], [.c 2 0 ((Do z.2.1 z.2.2 z.1).map V.d), .c 1 0 ((Do EH EH Fr.zero).map V.d), .c 0 0 ((Cc f).map V.d)], 3⟩) (fun i z => E6 f = ((Bb f.k).drop i).foldl (fun o n => II o f n) z.1 ∧ XT z.2.1 z.1.bs ∧ XS z.2.2 z.1.os ∧ BT (.d z.2.1) = true ∧ BT (.d z.2.2) = true) ({ Fr.zero with k := f.k }, EH, EH) (AE) ⟨rfl, .inr ⟨rfl, rfl⟩, .inr ⟨rfl, rfl⟩, rfl, rfl⟩ (fun i y x hT hi hx hx' hlt hlm hlen hdr => ?_) (fun y hT hlt hlm => ?_)
 ·obtain ⟨hT, hb, ho, hb1, ho1⟩ := hT
  rw [hdr] at hT
  obtain ⟨z, b, o⟩ := y
  dsimp only at *
  have c2 := WV b o hb1 ho1 z f x
  haveI q1 : DL b b := by rcases hb with rfl | ⟨rfl, _⟩ <;> infer_instance
  haveI q2 : DL o o := by rcases ho with rfl | ⟨rfl, _⟩ <;> infer_instance
  have k1 : XT (if x = .bs then BD f.bs else b) (II z f x).bs := by cases x <;> first | exact hb | exact .inl rfl
  have k2 : XS (if x = .os then Ek f.os else o) (II z f x).os := by cases x <;> first | exact ho | exact .inl rfl
  have k3 : BT (.d (if x = .bs then BD f.bs else b)) = true := by split <;> first | exact hb1 | rfl
  have k4 : BT (.d (if x = .os then Ek f.os else o)) = true := by split <;> first | exact ho1 | rfl
  generalize (if x = .bs then BD f.bs else b) = b' at *
  generalize (if x = .os then Ek f.os else o) = o' at *
  generalize hu : II z f x = u at *
  repeat' (first | refine Ai ?_ | (refine As ?_; first | refine cz (c2) ?_) | refine Ah ?_ | refine nc ?_ ?_ | (with_reducible intro _ <;> (try (exfalso; omega))) | refine Aa ?_ | (refine nd ?_ ?_ <;> intro hg <;> first | exact xo hg | rw [hg]) | refine Gt ?_ (by (with_reducible apply Bi) <;> first | rfl | (repeat (first | exact rfl | refine Bz (by first | rfl | assumption) ?_))))
  refine Bd (u, b', o') hi ?_ (AE)
  exact ⟨by rw [hT, ← hu]; rfl, k1, k2, k3, k4⟩
 ·obtain ⟨hT, hb, ho, hb1, ho1⟩ := hT
  obtain ⟨z, b, o⟩ := y
  dsimp only at *
  rw [List.drop_of_length_le (Nat.le_refl _)] at hT
  repeat' (first | refine Ai ?_ | refine Ah ?_ | refine nc ?_ ?_ | (with_reducible intro _ <;> (try (exfalso; omega))) | refine Aa ?_ | (refine nd ?_ ?_ <;> intro hg <;> first | exact xo hg | rw [hg]) | refine Gt ?_ (by (with_reducible apply Bi) <;> first | rfl | (repeat (first | exact rfl | refine Bz (by first | rfl | assumption) ?_))))
  rw [show E6 f = z from hT]
  rcases hb with rfl | ⟨rfl, hb⟩ <;> rcases ho with rfl | ⟨rfl, ho⟩
  ·exact A7 _
  all_goals simp only [Cc, Dn, Cm, *, AG, List.map_nil]
  all_goals infer_instance

set_option maxRecDepth 20000
set_option maxRecDepth 10000
theorem J6 {B : Nat} {p : Nat → Prop} {w : World} : ∀ {l : List D} {us : List Value} (n : Nat), dreps B p w l us → dreps B p w (l.take n) (us.take n)
 | _, _, 0, _ => by simp only [List.take_zero, dreps]
 | [], [], _ + 1, _ => by simp only [List.take_nil, dreps]
 | x :: l, u :: us, n + 1, h => by
  simp only [dreps, List.take_succ_cons] at h ⊢
  obtain ⟨y, ys, e, h1, h2⟩ := h
  cases e
  exact ⟨_, _, rfl, h1, J6 n h2⟩
 | [], _ :: _, _ + 1, h => by simp [dreps] at h
 | _ :: _, [], _ + 1, h => by simp [dreps] at h
section
variable {P : Program} {cx : Cx} {s : St}
theorem UI {t ty : TypeId} {x : Operand} {sz : Nat} {z : List Value} {l m : List D} [hT : BE P t true sz z] (hx : Af s x = some (.ep l)) (hl : l.take sz = m) (hm : m.length = sz) : Bq P cx (.load t x) ty s (.d (.agg m)) := fun g a w hS => by
 have h1 := hS.eval hx
 simp only [vrep] at h1
 obtain ⟨b, o, cs, h1, h2, h3⟩ := h1
 have h4 := J6 sz h3
 rw [hl] at h4
 refine ⟨.agg (cs.take sz).toArray, ?_, by simp only [vrep, drep]; exact ⟨_, rfl, h4⟩⟩
 have := Cs (P := P) (t := t) (sz := sz) (z := z) (w := w) (b := b) (o := o) (us := cs.take sz) (by rw [Bx h4, hm]) (fun j u hj => by
  obtain ⟨b', o', e, _, hc⟩ := h2 j u (by rw [List.getElem?_take] at hj; split at hj <;> simp_all)
  cases e; exact hc)
 simp [execOp, h1, Instr.loadAt, Instr.sureAddr, this]
end
def IC (s : Int) : Option A5 → List A5 → Bool
 | _, [] => true
 | none, x :: l => Dr x && (decide (s = 0) || decide (x.id.s = s)) && IC s (some x) l
 | some y, x :: l => Dr x && Ib y.id x.id && (decide (s = 0) || decide (x.id.s = s)) && IC s (some x) l
theorem Hj (s : Int) (l : List A5) (hl : ∀ o ∈ l, o.px.length ≤ 1000000) : VP Tryz.prog 36 [An s, Ek l] (· = .ret (.lit (.bool (IC s none l && decide (1 ≤ l.length) && decide (l.length ≤ 4))))) := by
 refine Al fun B => ?_
 have hm := Fj l
 repeat' (first | refine Ai ?_ | refine Ah ?_ | refine nc ?_ ?_ | (with_reducible intro _ <;> (try (exfalso; omega))) | refine Aa ?_ | (refine nd ?_ ?_ <;> intro hg <;> first | exact xo hg | rw [hg]))
 refine Bo 7 l oD (fun (i : Nat) (_ : Unit) => ⟨[(9, I .i64 i), (8, I .i64 (l.map oD).length), (7, .d (Ek l)), (4, .d (.lit (.bool false))), (0, .d (An s)), (1, .d (Ek l))], [], 0⟩) (fun i _ => IC s none l = IC s (if i = 0 then none else l[i - 1]?) (l.drop i)) () (AE) rfl (fun i y x hT hi hx hx' hlt hlm hlen hdr => ?_) (fun y hT hlt hlm => ?_)
 ·have c1 := KZ x (hl x (List.mem_of_getElem? hx))
  rw [hdr] at hT
  rcases Nat.eq_zero_or_pos i with hz | hz
  ·rw [if_pos hz] at hT
   clear hdr hlen hlm hm hl
   simp only [oD, C6] at c1 hx' ⊢
   repeat' (first | refine Ai ?_ | (refine As ?_; first | refine cz (c1) ?_) | refine Ah ?_ | refine nc ?_ ?_ | (with_reducible intro _ <;> (try (exfalso; omega))) | refine Aa ?_ | (refine nd ?_ ?_ <;> intro hg <;> first | exact xo hg | rw [hg]))
   all_goals first
    | (refine Bd () hi ?_ (AE); rw [hT, if_neg (by omega), Nat.add_sub_cancel, hx]; clear hT hx'; simp only [IC]; simp_all; done)
    | (rw [hT]; clear hT hx'; simp only [IC]; simp_all; done)
    | trace_state
  ·obtain ⟨z, hz1⟩ : ∃ z, l[i - 1]? = some z := ⟨l[i - 1], List.getElem?_eq_getElem (by omega)⟩
   rw [if_neg (by omega), hz1] at hT
   have hz2 : (l.map oD)[((i : Int) - 1).toNat]? = some (oD z) := by rw [show ((i : Int) - 1).toNat = i - 1 by omega]; simp [hz1]
   have c2 := Q4 z.id x.id
   simp only [oD, C6, GJ] at c1 c2 hx' hz2 ⊢
   repeat' (first | refine Ai ?_ | (refine As ?_; first | refine cz (c1) ?_ | refine cz (c2) ?_) | refine Ah ?_ | refine nc ?_ ?_ | (with_reducible intro _ <;> (try (exfalso; omega))) | refine Aa ?_ | (refine nd ?_ ?_ <;> intro hg <;> first | exact xo hg | rw [hg]) | refine WC ?_ (h := fun _ => UI (m := GJ z.id) rfl rfl rfl))
   all_goals first
    | (refine Bd () hi ?_ (AE); rw [hT, if_neg (by omega), Nat.add_sub_cancel, hx]; clear hT hx'; simp only [IC]; simp_all; done)
    | (rw [hT]; clear hT hx'; simp only [IC]; simp_all; done)
    | trace_state
 ·rw [List.drop_of_length_le (Nat.le_refl _)] at hT
  repeat' (first | refine Ai ?_ | refine Ah ?_ | refine nc ?_ ?_ | (with_reducible intro _ <;> (try (exfalso; omega))) | refine Aa ?_ | (refine nd ?_ ?_ <;> intro hg <;> first | exact xo hg | rw [hg]))
  all_goals (rw [hT]; clear hT; refine congrArg (fun t => R.ret (.lit (.bool t))) ?_; rw [Bool.eq_iff_iff]; simp [IC]; omega)

set_option maxRecDepth 20000
def QN (f : Fr) : List Int := [f.ep, f.sn, f.fl, f.fq, f.pr, f.tl]
def Pw (n : Int) : Bool := decide (n ≤ 4611686018427387904)
theorem QO (f : Fr) : Zt f = (QN f).all Pw := by
 rw [Bool.eq_iff_iff]
 simp only [Zt, QN, Pw, O0, List.all_cons, List.all_nil, Bool.and_eq_true, decide_eq_true_eq]
 constructor
 ·intro h; refine ⟨?_, ?_, ?_, ?_, ?_, ?_, trivial⟩ <;> omega
 ·intro h; omega
def K2 : List Ba → Bool
 | [] => true
 | [_] => true
 | a :: b :: l => Ib a b && K2 (b :: l)
theorem Ud : ∀ (l : List A5), Hk l = K2 (l.map (·.id))
 | [] => rfl
 | [_] => rfl
 | a :: b :: l => by simp only [Hk, List.map_cons, K2, Ud (b :: l)]
theorem Jd {f : Fr} (h : 1 ≤ f.k ∧ f.k ≤ 5) : GK f = ((QN f).all Pw && decide (E6 f = f) && [f.v, f.w].all Ej && MS f) := by
 unfold GK
 rw [QO, decide_eq_true h.1, decide_eq_true h.2]
 simp [Bool.and_assoc]

set_option maxRecDepth 10000
def Dw {α : Type} (p : α → Bool) : Nat → List α → Int
 | _, [] => -1
 | i, x :: l => if p x then i else Dw p (i + 1) l
theorem I8 {α : Type} (p : α → Bool) : ∀ (l : List α) (i : Nat), decide (¬ 0 ≤ Dw (fun x => !p x) i l) = l.all p
 | [], i => by simp [Dw]
 | x :: l, i => by
  have ih := I8 p l (i + 1)
  cases h : p x
  ·simp [Dw, h]
  ·simp only [Dw, List.all_cons, h, Bool.true_and, Bool.not_true, Bool.false_eq_true, if_false]; exact ih
abbrev PD (n : Int) : List D := [AK n]
theorem Aaz {f : FuncId} {ca : List D} (l : List Int) (p : Int → Bool) (hcall : ∀ x ∈ l, VP Tryz.prog f (AK x :: ca) (· = .ret (.lit (.bool (p x))))) [El ca ca] :
  VP Tryz.prog 109 [.sl false false (l.map PD), .fn f [] ca] (· = .ret (An (Dw p 0 l))) := by
 refine Al fun B => ?_
 repeat' (first | refine Ai ?_ | refine Ah ?_ | refine nc ?_ ?_ | (with_reducible intro _ <;> (try (exfalso; omega))) | refine Aa ?_ | (refine nd ?_ ?_ <;> intro hg <;> first | exact xo hg | rw [hg]))
 refine Bo 0 l PD (fun (i : Nat) (_ : Unit) => ⟨[(8, I .i64 i), (7, I .i64 (l.map PD).length), (0, .d (.sl false false (l.map PD))), (1, .d (.fn f [] ca))], [], 0⟩) (fun i _ => Dw p 0 l = Dw p i (l.drop i)) () (AE) rfl (fun i y x hT hi hx hx' hlt hlm hlen hdr => ?_) (fun y hT hlt hlm => ?_)
 ·rw [hdr] at hT
  have c := hcall x (List.mem_of_getElem? hx)
  repeat' (first | refine Ai ?_ | (refine As ?_; first | refine cz (c) ?_) | refine Ah ?_ | refine nc ?_ ?_ | (with_reducible intro _ <;> (try (exfalso; omega))) | refine Aa ?_ | (refine nd ?_ ?_ <;> intro hg <;> first | exact xo hg | rw [hg]))
  ·rw [hT]; simp_all [Dw]
  ·refine Bd () hi ?_ (AE); rw [hT]; simp_all [Dw]
 ·repeat' (first | refine Ai ?_ | refine Ah ?_ | refine nc ?_ ?_ | (with_reducible intro _ <;> (try (exfalso; omega))) | refine Aa ?_ | (refine nd ?_ ?_ <;> intro hg <;> first | exact xo hg | rw [hg]))
  rw [hT, List.drop_of_length_le (Nat.le_refl _)]; rfl
theorem Ya {f : FuncId} {ca : List D} (l : List Int) (p : Int → Bool) (hcall : ∀ x ∈ l, VP Tryz.prog f (AK x :: ca) (· = .ret (.lit (.bool (p x))))) [El ca ca] :
  VP Tryz.prog 68 [.sl false false (l.map PD), .fn f [] ca] (· = .ret (.lit (.bool (decide (0 ≤ Dw p 0 l))))) := by
 haveI : CO (l.map PD) (l.map PD) := BM l _ _ (fun _ => inferInstance) (fun _ => rfl)
 have c := Aaz l p hcall
 refine Al fun B => ?_
 repeat' (first | refine Ai ?_ | (refine As ?_; first | refine cz (c) ?_) | refine Ah ?_ | refine nc ?_ ?_ | (with_reducible intro _ <;> (try (exfalso; omega))) | refine Aa ?_ | (refine nd ?_ ?_ <;> intro hg <;> first | exact xo hg | rw [hg]))
 all_goals rfl
theorem Yn {f : FuncId} {ca : List D} (x : Int) {b : Bool} (hcall : VP Tryz.prog f (AK x :: ca) (· = .ret (.lit (.bool b)))) [El ca ca] :
  VP Tryz.prog 69 [AK x, .pt [.fn f [] ca]] (· = .ret (.lit (.bool (!b)))) := by
 refine Al fun B => ?_
 repeat' (first | refine Ai ?_ | (refine As ?_; first | refine cz (hcall) ?_) | refine Ah ?_ | refine nc ?_ ?_ | (with_reducible intro _ <;> (try (exfalso; omega))) | refine Aa ?_ | (refine nd ?_ ?_ <;> intro hg <;> first | exact xo hg | rw [hg]))
 all_goals rfl
theorem LX {f : FuncId} {ca : List D} (l : List Int) (p : Int → Bool) (hcall : ∀ x ∈ l, VP Tryz.prog f (AK x :: ca) (· = .ret (.lit (.bool (p x))))) [El ca ca] :
  VP Tryz.prog 38 [.sl false false (l.map PD), .fn f [] ca] (· = .ret (.lit (.bool (l.all p)))) := by
 haveI : CO (l.map PD) (l.map PD) := BM l _ _ (fun _ => inferInstance) (fun _ => rfl)
 have c := Ya (ca := [.pt [.fn f [] ca]]) l (fun x => !p x) fun x hx => Yn x (hcall x hx)
 rw [← I8 p l 0]
 generalize Dw (fun x => !p x) 0 l = q at *
 refine Al fun B => ?_
 repeat' (first | refine Ai ?_ | (refine As ?_; first | refine cz (c) ?_) | refine Ah ?_ | refine nc ?_ ?_ | (with_reducible intro _ <;> (try (exfalso; omega))) | refine Aa ?_ | (refine nd ?_ ?_ <;> intro hg <;> first | exact xo hg | rw [hg]))
 all_goals first | rfl | trace_state
theorem Aay {f : FuncId} {ca : List D} (l : List Vc) (p : Vc → Bool) (hcall : ∀ x ∈ l, VP Tryz.prog f (.agg (Gv x) :: ca) (· = .ret (.lit (.bool (p x))))) [El ca ca] :
  VP Tryz.prog 110 [.sl false false (l.map Gv), .fn f [] ca] (· = .ret (An (Dw p 0 l))) := by
 refine Al fun B => ?_
 repeat' (first | refine Ai ?_ | refine Ah ?_ | refine nc ?_ ?_ | (with_reducible intro _ <;> (try (exfalso; omega))) | refine Aa ?_ | (refine nd ?_ ?_ <;> intro hg <;> first | exact xo hg | rw [hg]))
 refine Bo 0 l Gv (fun (i : Nat) (_ : Unit) => ⟨[(8, I .i64 i), (7, I .i64 (l.map Gv).length), (0, .d (.sl false false (l.map Gv))), (1, .d (.fn f [] ca))], [], 0⟩) (fun i _ => Dw p 0 l = Dw p i (l.drop i)) () (AE) rfl (fun i y x hT hi hx hx' hlt hlm hlen hdr => ?_) (fun y hT hlt hlm => ?_)
 ·rw [hdr] at hT
  have c := hcall x (List.mem_of_getElem? hx)
  simp only [Gv] at c hx' ⊢
  repeat' (first | refine Ai ?_ | (refine As ?_; first | refine cz (c) ?_) | refine Ah ?_ | refine nc ?_ ?_ | (with_reducible intro _ <;> (try (exfalso; omega))) | refine Aa ?_ | (refine nd ?_ ?_ <;> intro hg <;> first | exact xo hg | rw [hg]))
  ·rw [hT]; simp_all [Dw]
  ·refine Bd () hi ?_ (AE); rw [hT]; simp_all [Dw]
 ·repeat' (first | refine Ai ?_ | refine Ah ?_ | refine nc ?_ ?_ | (with_reducible intro _ <;> (try (exfalso; omega))) | refine Aa ?_ | (refine nd ?_ ?_ <;> intro hg <;> first | exact xo hg | rw [hg]))
  rw [hT, List.drop_of_length_le (Nat.le_refl _)]; rfl
theorem X9 {f : FuncId} {ca : List D} (l : List Vc) (p : Vc → Bool) (hcall : ∀ x ∈ l, VP Tryz.prog f (.agg (Gv x) :: ca) (· = .ret (.lit (.bool (p x))))) [El ca ca] :
  VP Tryz.prog 70 [.sl false false (l.map Gv), .fn f [] ca] (· = .ret (.lit (.bool (decide (0 ≤ Dw p 0 l))))) := by
 haveI : CO (l.map Gv) (l.map Gv) := BM l _ _ (fun _ => inferInstance) (fun _ => rfl)
 have c := Aay l p hcall
 refine Al fun B => ?_
 repeat' (first | refine Ai ?_ | (refine As ?_; first | refine cz (c) ?_) | refine Ah ?_ | refine nc ?_ ?_ | (with_reducible intro _ <;> (try (exfalso; omega))) | refine Aa ?_ | (refine nd ?_ ?_ <;> intro hg <;> first | exact xo hg | rw [hg]))
 all_goals rfl
theorem Ym {f : FuncId} {ca : List D} (x : Vc) {b : Bool} (hcall : VP Tryz.prog f (.agg (Gv x) :: ca) (· = .ret (.lit (.bool b)))) [El ca ca] :
  VP Tryz.prog 71 [.agg (Gv x), .pt [.fn f [] ca]] (· = .ret (.lit (.bool (!b)))) := by
 simp only [Gv] at hcall ⊢
 refine Al fun B => ?_
 repeat' (first | refine Ai ?_ | (refine As ?_; first | refine cz (hcall) ?_) | refine Ah ?_ | refine nc ?_ ?_ | (with_reducible intro _ <;> (try (exfalso; omega))) | refine Aa ?_ | (refine nd ?_ ?_ <;> intro hg <;> first | exact xo hg | rw [hg]))
 all_goals rfl
theorem LW {f : FuncId} {ca : List D} (l : List Vc) (p : Vc → Bool) (hcall : ∀ x ∈ l, VP Tryz.prog f (.agg (Gv x) :: ca) (· = .ret (.lit (.bool (p x))))) [El ca ca] :
  VP Tryz.prog 40 [.sl false false (l.map Gv), .fn f [] ca] (· = .ret (.lit (.bool (l.all p)))) := by
 haveI : CO (l.map Gv) (l.map Gv) := BM l _ _ (fun _ => inferInstance) (fun _ => rfl)
 have c := X9 (ca := [.pt [.fn f [] ca]]) l (fun x => !p x) fun x hx => Ym x (hcall x hx)
 rw [← I8 p l 0]
 generalize Dw (fun x => !p x) 0 l = q at *
 refine Al fun B => ?_
 repeat' (first | refine Ai ?_ | (refine As ?_; first | refine cz (c) ?_) | refine Ah ?_ | refine nc ?_ ?_ | (with_reducible intro _ <;> (try (exfalso; omega))) | refine Aa ?_ | (refine nd ?_ ?_ <;> intro hg <;> first | exact xo hg | rw [hg]))
 all_goals first | rfl | trace_state
theorem AaA {f : FuncId} {ca : List D} (l : List A5) (p : A5 → Bool) (hcall : ∀ x ∈ l, VP Tryz.prog f (.agg (oD x) :: ca) (· = .ret (.lit (.bool (p x))))) [El ca ca] :
  VP Tryz.prog 120 [.sl false false (l.map oD), .fn f [] ca] (· = .ret (An (Dw p 0 l))) := by
 refine Al fun B => ?_
 repeat' (first | refine Ai ?_ | refine Ah ?_ | refine nc ?_ ?_ | (with_reducible intro _ <;> (try (exfalso; omega))) | refine Aa ?_ | (refine nd ?_ ?_ <;> intro hg <;> first | exact xo hg | rw [hg]))
 refine Bo 0 l oD (fun (i : Nat) (_ : Unit) => ⟨[(8, I .i64 i), (7, I .i64 (l.map oD).length), (0, .d (.sl false false (l.map oD))), (1, .d (.fn f [] ca))], [], 0⟩) (fun i _ => Dw p 0 l = Dw p i (l.drop i)) () (AE) rfl (fun i y x hT hi hx hx' hlt hlm hlen hdr => ?_) (fun y hT hlt hlm => ?_)
 ·rw [hdr] at hT
  have c := hcall x (List.mem_of_getElem? hx)
  simp only [oD, C6] at c hx' ⊢
  repeat' (first | refine Ai ?_ | (refine As ?_; first | refine cz (c) ?_) | refine Ah ?_ | refine nc ?_ ?_ | (with_reducible intro _ <;> (try (exfalso; omega))) | refine Aa ?_ | (refine nd ?_ ?_ <;> intro hg <;> first | exact xo hg | rw [hg]))
  ·rw [hT]; simp_all [Dw]
  ·refine Bd () hi ?_ (AE); rw [hT]; simp_all [Dw]
 ·repeat' (first | refine Ai ?_ | refine Ah ?_ | refine nc ?_ ?_ | (with_reducible intro _ <;> (try (exfalso; omega))) | refine Aa ?_ | (refine nd ?_ ?_ <;> intro hg <;> first | exact xo hg | rw [hg]))
  rw [hT, List.drop_of_length_le (Nat.le_refl _)]; rfl
theorem Yb {f : FuncId} {ca : List D} (l : List A5) (p : A5 → Bool) (hcall : ∀ x ∈ l, VP Tryz.prog f (.agg (oD x) :: ca) (· = .ret (.lit (.bool (p x))))) [El ca ca] :
  VP Tryz.prog 76 [.sl false false (l.map oD), .fn f [] ca] (· = .ret (.lit (.bool (decide (0 ≤ Dw p 0 l))))) := by
 haveI : CO (l.map oD) (l.map oD) := BM l _ _ (fun _ => inferInstance) (fun _ => rfl)
 have c := AaA l p hcall
 refine Al fun B => ?_
 repeat' (first | refine Ai ?_ | (refine As ?_; first | refine cz (c) ?_) | refine Ah ?_ | refine nc ?_ ?_ | (with_reducible intro _ <;> (try (exfalso; omega))) | refine Aa ?_ | (refine nd ?_ ?_ <;> intro hg <;> first | exact xo hg | rw [hg]))
 all_goals rfl
theorem Yo {f : FuncId} {ca : List D} (x : A5) {b : Bool} (hcall : VP Tryz.prog f (.agg (oD x) :: ca) (· = .ret (.lit (.bool b)))) [El ca ca] :
  VP Tryz.prog 77 [.agg (oD x), .pt [.fn f [] ca]] (· = .ret (.lit (.bool (!b)))) := by
 simp only [oD, C6] at hcall ⊢
 refine Al fun B => ?_
 repeat' (first | refine Ai ?_ | (refine As ?_; first | refine cz (hcall) ?_) | refine Ah ?_ | refine nc ?_ ?_ | (with_reducible intro _ <;> (try (exfalso; omega))) | refine Aa ?_ | (refine nd ?_ ?_ <;> intro hg <;> first | exact xo hg | rw [hg]))
 all_goals rfl
theorem AaQ {f : FuncId} {ca : List D} (l : List A5) (p : A5 → Bool) (hcall : ∀ x ∈ l, VP Tryz.prog f (.agg (oD x) :: ca) (· = .ret (.lit (.bool (p x))))) [El ca ca] :
  VP Tryz.prog 45 [.sl false false (l.map oD), .fn f [] ca] (· = .ret (.lit (.bool (l.all p)))) := by
 haveI : CO (l.map oD) (l.map oD) := BM l _ _ (fun _ => inferInstance) (fun _ => rfl)
 have c := Yb (ca := [.pt [.fn f [] ca]]) l (fun x => !p x) fun x hx => Yo x (hcall x hx)
 rw [← I8 p l 0]
 generalize Dw (fun x => !p x) 0 l = q at *
 refine Al fun B => ?_
 repeat' (first | refine Ai ?_ | (refine As ?_; first | refine cz (c) ?_) | refine Ah ?_ | refine nc ?_ ?_ | (with_reducible intro _ <;> (try (exfalso; omega))) | refine Aa ?_ | (refine nd ?_ ?_ <;> intro hg <;> first | exact xo hg | rw [hg]))
 all_goals first | rfl | trace_state

end Go.Proofs.YtbgcjnfhadhjeaaGreat