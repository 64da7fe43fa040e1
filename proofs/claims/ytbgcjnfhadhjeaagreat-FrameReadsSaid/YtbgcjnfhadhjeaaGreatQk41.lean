/- Walks by data and names, part 41: The document's frames, by V: what is read. The document's sums of bytes, by V. The document's sealed bytes, by V. -/
import Derived.Test.YtbgcjnfhadhjeaaGreatQk37
import Derived.Test.YtbgcjnfhadhjeaaGreatQk40
import Derived.Test.YtbgcjnfhadhjeaaGreatQk31
import Derived.Test.YtbgcjnfhadhjeaaGreatQk25
import Derived.Test.YtbgcjnfhadhjeaaGreatQk39
import Derived.Test.YtbgcjnfhadhjeaaGreatQk32
namespace Go.Proofs.YtbgcjnfhadhjeaaGreat
set_option maxRecDepth 20000
open Go.RowKit
set_option maxRecDepth 10000
set_option maxHeartbeats 8000000
def ZO (b : List UInt8) : D := match HP 8 b with
 | none => .tup [AK 0, An 0]
 | some p => .tup [AK p.1, An 8]
theorem X5 (b : List UInt8) : VP Tryz.prog 100 [BD b] (· = .ret (ZO b)) := by
 have hbl := Av b
 have h1 : CP none (some 8) (AG b) = AG (b.take 8) := KQ b 8
 have c := BF (b.take 8) (by simp; omega)
 unfold ZO HP
 by_cases h : 8 ≤ b.length
 ·rw [if_pos h]
  generalize b.take 8 = p at *
  refine Al fun B => ?_
  repeat' (first | rw [h1] | refine Ai ?_ | (refine As ?_; first | refine cz (c) ?_) | refine Ah ?_ | refine nc ?_ ?_ | (with_reducible intro _ <;> (try (exfalso; omega))) | refine Aa ?_ | (refine nd ?_ ?_ <;> intro hg <;> first | exact xo hg | rw [hg]))
  all_goals first | rfl | (exfalso; omega) | trace_state
 ·rw [if_neg h]
  refine Al fun B => ?_
  repeat' (first | refine Ai ?_ | refine Ah ?_ | refine nc ?_ ?_ | (with_reducible intro _ <;> (try (exfalso; omega))) | refine Aa ?_ | (refine nd ?_ ?_ <;> intro hg <;> first | exact xo hg | rw [hg]))
  all_goals first | rfl | (exfalso; omega) | trace_state
def Xn (b : List UInt8) : D := match HP 1 b with
 | none => .tup [An 0, An 0]
 | some p => .tup [An p.1, An 1]
theorem Aab (b : List UInt8) : VP Tryz.prog 101 [BD b] (· = .ret (Xn b)) := by
 rcases b with _ | ⟨x, b⟩
 ·refine Al fun B => ?_
  have hbl : (AG []).length = 0 := rfl
  repeat' (first | refine Ai ?_ | refine Ah ?_ | refine nc ?_ ?_ | (with_reducible intro _ <;> (try (exfalso; omega))) | refine Aa ?_ | (refine nd ?_ ?_ <;> intro hg <;> first | exact xo hg | rw [hg]))
  all_goals first | rfl | (exfalso; omega) | trace_state
 ·have hbl := Av (x :: b)
  have e : Xn (x :: b) = .tup [An x.toNat, An 1] := by
   unfold Xn HP
   rw [if_pos (by simp)]
   simp [AV]
  rw [e]
  have hx2 : (AG (x :: b))[((0 : Int)).toNat]? = some [.lit (.int .u8 (x.toNat : Int))] := rfl
  have hx8 := x.toNat_lt
  simp only [List.length_cons] at hbl
  refine Al fun B => ?_
  repeat' (first | refine Ai ?_ | refine Ah ?_ | refine nc ?_ ?_ | (with_reducible intro _ <;> (try (exfalso; omega))) | refine Aa ?_ | (refine nd ?_ ?_ <;> intro hg <;> first | exact xo hg | rw [hg]))
  all_goals first | rfl | (exfalso; omega) | trace_state
def ZN (b : List UInt8) : D := match GZ b with
 | none => .tup [.agg (Gv .zero), An 0]
 | some p => .tup [.agg (Gv p.1), An 64]
theorem Abr (b : List UInt8) : VP Tryz.prog 104 [BD b] (· = .ret (ZN b)) := by
 have c := TL b
 unfold BK at c
 unfold ZN GZ
 by_cases h : b.length < 64
 ·rw [if_pos h] at c ⊢
  simp only [Gv] at c ⊢
  refine Al fun B => ?_
  repeat' (first | refine Ai ?_ | (refine As ?_; first | refine cz (c) ?_) | refine Ah ?_ | refine nc ?_ ?_ | (with_reducible intro _ <;> (try (exfalso; omega))) | refine Aa ?_ | (refine nd ?_ ?_ <;> intro hg <;> first | exact xo hg | rw [hg]))
  all_goals first | rfl | trace_state
 ·rw [if_neg h] at c ⊢
  by_cases h2 : Ej (Hc b) = true
  ·rw [if_pos h2] at c ⊢
   simp only [Gv] at c ⊢
   refine Al fun B => ?_
   repeat' (first | refine Ai ?_ | (refine As ?_; first | refine cz (c) ?_) | refine Ah ?_ | refine nc ?_ ?_ | (with_reducible intro _ <;> (try (exfalso; omega))) | refine Aa ?_ | (refine nd ?_ ?_ <;> intro hg <;> first | exact xo hg | rw [hg]))
   all_goals first | rfl | trace_state
  ·rw [if_neg h2] at c ⊢
   simp only [Gv] at c ⊢
   refine Al fun B => ?_
   repeat' (first | refine Ai ?_ | (refine As ?_; first | refine cz (c) ?_) | refine Ah ?_ | refine nc ?_ ?_ | (with_reducible intro _ <;> (try (exfalso; omega))) | refine Aa ?_ | (refine nd ?_ ?_ <;> intro hg <;> first | exact xo hg | rw [hg]))
   all_goals first | rfl | trace_state
theorem Acu {x y : D} (h : DL x y) : DE x y := ⟨fun B U w u k => h.1 B B U w u k⟩
def IT (b o : D) (f : Fr) (n : Fl) (B : List UInt8) : Option (Fr × List UInt8) → D
 | none => .tup [.agg (Do b (if n = .os then .sl false false [] else o) (if n = .bs then f else II f Fr.zero n)), An 0]
 | some (g, t) => .tup [.agg (Do (if n = .bs then BD g.bs else b) (if n = .os then Ek g.os else o) g), An ((B.length : Int) - (t.length : Int))]
theorem WW (b o : D) (hb : BT (.d b) = true) (ho : BT (.d o) = true) (f : Fr) (n : Fl) (L : List UInt8) (hL : L.length ≤ 1000000) :
  VP Tryz.prog 61 [.agg (Do b o f), Je n, BD L] (· = .ret (IT b o f n L (Be f n L))) := by
 refine VP.le ?_
 have c1 := X5 L
 have c2 := Aab L
 have c3 := Abr L
 unfold ZO at c1
 unfold Xn at c2
 unfold ZN at c3
 have q8 : ∀ p, HP 8 L = some p → p.2.length + 8 = L.length := fun p h => by unfold HP at h; split at h <;> cases h; simp; omega
 have q1 : ∀ p, HP 1 L = some p → p.2.length + 1 = L.length := fun p h => by unfold HP at h; split at h <;> cases h; simp; omega
 have qv : ∀ p, GZ L = some p → p.2.length + 64 = L.length := fun p h => by
  unfold GZ at h
  repeat' (split at h)
  all_goals cases h
  simp; omega
 cases n
 case ep | sn | fl | fq | pr | tl =>
  all_goals
   simp only [Je, Fl.nm, Do, Be]
   cases h : HP 8 L with
   | none =>
    rw [h] at c1
    simp only at c1
    refine Al fun B => ?_
    repeat' (first | refine Ai ?_ | (refine As ?_; first | refine cz (c1) ?_) | refine Ah ?_ | refine nc ?_ ?_ | (with_reducible intro _ <;> (try (exfalso; omega))) | refine Aa ?_ | (refine nd ?_ ?_ <;> intro hg <;> first | exact xo hg | rw [hg]) | refine Gt ?_ (by (with_reducible apply Bi) <;> first | rfl | (repeat (first | exact rfl | refine Bz (by first | rfl | assumption) ?_))))
    all_goals (simp only [Option.map_none, IT, II, Fr.zero, Vc.zero, reduceCtorEq, if_false, Cm]; infer_instance)
   | some p =>
    rw [h] at c1
    simp only at c1
    have hq := q8 p h
    simp only [Option.map_some, IT, reduceCtorEq, if_false]
    rw [show (L.length : Int) - (p.2.length : Int) = 8 by omega]
    refine Al fun B => ?_
    repeat' (first | refine Ai ?_ | (refine As ?_; first | refine cz (c1) ?_) | refine Ah ?_ | refine nc ?_ ?_ | (with_reducible intro _ <;> (try (exfalso; omega))) | refine Aa ?_ | (refine nd ?_ ?_ <;> intro hg <;> first | exact xo hg | rw [hg]) | refine Gt ?_ (by (with_reducible apply Bi) <;> first | rfl | (repeat (first | exact rfl | refine Bz (by first | rfl | assumption) ?_))))
    all_goals exact A7 _
 case si | ix | my =>
  all_goals
   simp only [Je, Fl.nm, Do, Be]
   cases h : HP 1 L with
   | none =>
    rw [h] at c2
    simp only at c2
    refine Al fun B => ?_
    repeat' (first | refine Ai ?_ | (refine As ?_; first | refine cz (c2) ?_) | refine Ah ?_ | refine nc ?_ ?_ | (with_reducible intro _ <;> (try (exfalso; omega))) | refine Aa ?_ | (refine nd ?_ ?_ <;> intro hg <;> first | exact xo hg | rw [hg]) | refine Gt ?_ (by (with_reducible apply Bi) <;> first | rfl | (repeat (first | exact rfl | refine Bz (by first | rfl | assumption) ?_))))
    all_goals (simp only [Option.map_none, IT, II, Fr.zero, Vc.zero, reduceCtorEq, if_false, Cm]; infer_instance)
   | some p =>
    rw [h] at c2
    simp only at c2
    have hq := q1 p h
    simp only [Option.map_some, IT, reduceCtorEq, if_false]
    rw [show (L.length : Int) - (p.2.length : Int) = 1 by omega]
    refine Al fun B => ?_
    repeat' (first | refine Ai ?_ | (refine As ?_; first | refine cz (c2) ?_) | refine Ah ?_ | refine nc ?_ ?_ | (with_reducible intro _ <;> (try (exfalso; omega))) | refine Aa ?_ | (refine nd ?_ ?_ <;> intro hg <;> first | exact xo hg | rw [hg]) | refine Gt ?_ (by (with_reducible apply Bi) <;> first | rfl | (repeat (first | exact rfl | refine Bz (by first | rfl | assumption) ?_))))
    all_goals exact A7 _
 case v | w =>
  all_goals
   simp only [Je, Fl.nm, Do, Be]
   cases h : GZ L with
   | none =>
    rw [h] at c3
    simp only [Gv] at c3
    refine Al fun B => ?_
    repeat' (first | refine Ai ?_ | (refine As ?_; first | refine cz (c3) ?_) | refine Ah ?_ | refine nc ?_ ?_ | (with_reducible intro _ <;> (try (exfalso; omega))) | refine Aa ?_ | (refine nd ?_ ?_ <;> intro hg <;> first | exact xo hg | rw [hg]) | refine Gt ?_ (by (with_reducible apply Bi) <;> first | rfl | (repeat (first | exact rfl | refine Bz (by first | rfl | assumption) ?_))))
    all_goals (simp only [Option.map_none, IT, II, Fr.zero, Vc.zero, Fx, reduceCtorEq, if_false, Cm]; infer_instance)
   | some p =>
    rw [h] at c3
    simp only [Gv] at c3
    have hq := qv p h
    simp only [Option.map_some, IT, reduceCtorEq, if_false]
    rw [show (L.length : Int) - (p.2.length : Int) = 64 by omega]
    refine Al fun B => ?_
    repeat' (first | refine Ai ?_ | (refine As ?_; first | refine cz (c3) ?_) | refine Ah ?_ | refine nc ?_ ?_ | (with_reducible intro _ <;> (try (exfalso; omega))) | refine Aa ?_ | (refine nd ?_ ?_ <;> intro hg <;> first | exact xo hg | rw [hg]) | refine Gt ?_ (by (with_reducible apply Bi) <;> first | rfl | (repeat (first | exact rfl | refine Bz (by first | rfl | assumption) ?_))))
    all_goals exact A7 _
 case os =>
  have c4 := PF L hL
  unfold Br at c4
  simp only [Je, Fl.nm, Do, Be]
  cases h : EZ L with
  | error e =>
   rw [h] at c4
   simp only [List.map_nil] at c4
   refine Al fun B => ?_
   repeat' (first | refine Ai ?_ | (refine As ?_; first | refine cz (c4) ?_) | refine Ah ?_ | refine nc ?_ ?_ | (with_reducible intro _ <;> (try (exfalso; omega))) | refine Aa ?_ | (refine nd ?_ ?_ <;> intro hg <;> first | exact xo hg | rw [hg]) | refine Gt ?_ (by (with_reducible apply Bi) <;> first | rfl | (repeat (first | exact rfl | refine Bz (by first | rfl | assumption) ?_))))
   all_goals (simp only [IT, II, Fr.zero, reduceCtorEq, if_false, if_true, Cm]; infer_instance)
  | ok q =>
   obtain ⟨l, t⟩ := q
   rw [h] at c4
   simp only at c4
   simp only [IT, reduceCtorEq, if_false, if_true]
   haveI : DE (.sl false true (l.map oM)) (Ek l) := Acu inferInstance
   refine Al fun B => ?_
   repeat' (first | refine Ai ?_ | (refine As ?_; first | refine cz (c4) ?_) | refine Ah ?_ | refine nc ?_ ?_ | (with_reducible intro _ <;> (try (exfalso; omega))) | refine Aa ?_ | (refine nd ?_ ?_ <;> intro hg <;> first | exact xo hg | rw [hg]) | refine Gt ?_ (by (with_reducible apply Bi) <;> first | rfl | (repeat (first | exact rfl | refine Bz (by first | rfl | assumption) ?_))))
   all_goals (simp only [Cm]; infer_instance)
 case bs =>
  have hbl := Av L
  simp only [Je, Fl.nm, Do, Be]
  by_cases h2 : 2 ≤ L.length
  ·have h1 : CP none (some 2) (AG L) = AG (L.take 2) := KQ L 2
   have c5 := BF (L.take 2) (by simp; omega)
   obtain ⟨m, hm⟩ : ∃ m, AV (L.take 2) = m := ⟨_, rfl⟩
   have hm2 : m < 65536 := by have := HR (L.take 2); rw [show (L.take 2).length = 2 by simp; omega, hm] at this; omega
   have h3 : CP (some 2) (some (2 + (m : Int))) (AG L) = AG ((L.drop 2).take m) := by
    rw [show (2 + (m : Int)) = ((2 + m : Nat) : Int) by omega]
    unfold AG; rw [DK]; simp [List.drop_take]; omega
   have hr : HP 2 L = some (m, L.drop 2) := by unfold HP; rw [if_pos h2, hm]
   have hdl : (L.drop 2).length = L.length - 2 := List.length_drop
   rw [hm] at c5
   clear hm
   generalize L.take 2 = p at *
   simp only [hr]
   generalize L.drop 2 = q at *
   by_cases h4 : m ≤ q.length
   ·rw [if_pos h4]
    simp only [IT, reduceCtorEq, if_false, if_true, List.length_drop]
    rw [show (L.length : Int) - ((q.length - m : Nat) : Int) = 2 + (m : Int) by omega]
    generalize q.take m = r at *
    refine Al fun B => ?_
    repeat' (first | rw [h1] | rw [h3] | refine Ai ?_ | (refine As ?_; first | refine cz (c5) ?_) | refine Ah ?_ | refine nc ?_ ?_ | (with_reducible intro _ <;> (try (exfalso; omega))) | refine Aa ?_ | (refine nd ?_ ?_ <;> intro hg <;> first | exact xo hg | rw [hg]) | refine Gt ?_ (by (with_reducible apply Bi) <;> first | rfl | (repeat (first | exact rfl | refine Bz (by first | rfl | assumption) ?_))))
    all_goals first | (exfalso; omega) | exact A7 _ | (simp only [Cm]; infer_instance) | trace_state
   ·rw [if_neg h4]
    refine Al fun B => ?_
    repeat' (first | rw [h1] | refine Ai ?_ | (refine As ?_; first | refine cz (c5) ?_) | refine Ah ?_ | refine nc ?_ ?_ | (with_reducible intro _ <;> (try (exfalso; omega))) | refine Aa ?_ | (refine nd ?_ ?_ <;> intro hg <;> first | exact xo hg | rw [hg]) | refine Gt ?_ (by (with_reducible apply Bi) <;> first | rfl | (repeat (first | exact rfl | refine Bz (by first | rfl | assumption) ?_))))
    all_goals first | (exfalso; omega) | (simp only [IT, II, Fr.zero, reduceCtorEq, if_false, if_true, Cm]; infer_instance) | trace_state
  ·have hr : HP 2 L = none := by unfold HP; rw [if_neg h2]
   simp only [hr]
   refine Al fun B => ?_
   repeat' (first | refine Ai ?_ | refine Ah ?_ | refine nc ?_ ?_ | (with_reducible intro _ <;> (try (exfalso; omega))) | refine Aa ?_ | (refine nd ?_ ?_ <;> intro hg <;> first | exact xo hg | rw [hg]) | refine Gt ?_ (by (with_reducible apply Bi) <;> first | rfl | (repeat (first | exact rfl | refine Bz (by first | rfl | assumption) ?_))))
   all_goals first | (exfalso; omega) | (simp only [IT, II, Fr.zero, reduceCtorEq, if_false, if_true, Cm]; infer_instance) | trace_state
theorem Up {f g : Fr} {n : Fl} {b t : List UInt8} (h : Be f n b = some (g, t)) : ∃ p, p ++ t = b ∧ 0 < p.length := by
 refine ⟨Bm g n, (N1 h).1, ?_⟩
 cases n <;> simp [Bm, AI, D8, Hd]
 all_goals omega

set_option maxRecDepth 20000
set_option maxRecDepth 10000
set_option maxHeartbeats 4000000
abbrev En (n : Int) : D := .lit (.int .u32 n)
abbrev Jm (n : Nat) : Prop := n < 4294967296
theorem q32 (n : Nat) (h : Jm n) : IntKind.u32.wrap ((n : Int).tdiv 2) = ((n / 2 : Nat) : Int) := by
 rw [Int.tdiv_eq_ediv_of_nonneg (by omega), CR (by simp only [I6]; omega)]; omega
theorem r32 (n : Nat) (h : Jm n) : IntKind.u32.wrap ((n : Int).tmod 2) = ((n % 2 : Nat) : Int) := by
 rw [Int.tmod_eq_emod_of_nonneg (by omega), CR (by simp only [I6]; omega)]; omega
theorem m32 (n : Nat) (h : n ≤ 2147483648) : IntKind.u32.wrap (2 * (n : Int)) = ((2 * n % 4294967296 : Nat) : Int) := by
 rcases Nat.lt_or_ge n 2147483648 with h1 | h1
 ·rw [CR (by simp only [I6]; omega)]; omega
 ·have : n = 2147483648 := by omega
  subst this; rfl
theorem q64 (n : Nat) (h : n ≤ 9223372036854775807) : IntKind.i64.wrap ((n : Int).tdiv 8) = ((n / 8 : Nat) : Int) := by
 rw [Int.tdiv_eq_ediv_of_nonneg (by omega), CR (by simp only [I6]; omega)]; omega
theorem r64 (n : Nat) (h : n ≤ 9223372036854775807) : IntKind.i64.wrap ((n : Int).tmod 8) = ((n % 8 : Nat) : Int) := by
 rw [Int.tmod_eq_emod_of_nonneg (by omega), CR (by simp only [I6]; omega)]; omega
theorem t2 (n : Nat) : (n : Int).tmod 2 = ((n % 2 : Nat) : Int) := by rw [Int.tmod_eq_emod_of_nonneg (by omega)]; omega
theorem Om (n : Nat) (h : Jm n) : VP Tryz.prog 196 [En n] (· = .ret (En (4294967295 - n : Nat))) := by
 refine Al fun B => ?_
 repeat' (first | refine Ai ?_ | refine Ah ?_ | refine nc ?_ ?_ | (with_reducible intro _ <;> (try (exfalso; omega))) | refine Aa ?_ | (refine nd ?_ ?_ <;> intro hg <;> first | exact xo hg | rw [hg]))
 all_goals (congr 3; omega)
theorem UT (i : Nat) (h : i < 32) : 2 ^ i ≤ 2147483648 ∧ 0 < 2 ^ i := ⟨Nat.pow_le_pow_right (n := 2) (by omega) (show i ≤ 31 by omega), Nat.pow_pos (by omega)⟩
theorem V7 (n i : Nat) : n % 2 ^ (i + 1) = n % 2 ^ i + 2 ^ i * (n / 2 ^ i % 2) := by rw [Nat.pow_succ, Nat.mod_mul]
theorem Qn (n i : Nat) : n / 2 ^ (i + 1) = n / 2 ^ i / 2 := by rw [Nat.pow_succ, Nat.div_div_eq_div_mul]
theorem Wl (a b i : Nat) : (a ^^^ b) / 2 ^ i = a / 2 ^ i ^^^ b / 2 ^ i := by
 have := Nat.shiftRight_xor_distrib (a := a) (b := b) (i := i)
 simpa [Nat.shiftRight_eq_div_pow] using this
theorem Aa5 (a b : Nat) (ha : Jm a) (hb : Jm b) : VP Tryz.prog 259 [En a, En b] (· = .ret (En (a ^^^ b : Nat))) := by
 refine Al fun B => ?_
 repeat' (first | refine Ai ?_ | refine Ah ?_ | refine nc ?_ ?_ | (with_reducible intro _ <;> (try (exfalso; omega))) | refine Aa ?_ | (refine nd ?_ ?_ <;> intro hg <;> first | exact xo hg | rw [hg]))
 refine BP (fun z : Nat × Nat × Nat × Nat × Nat => ⟨[(7, I .i64 z.1), (6, .d (En z.2.1)), (5, .d (En z.2.2.1)), (1, .d (En z.2.2.2.2)), (0, .d (En z.2.2.2.1))], [], 0⟩) (fun z => z.1 ≤ 32 ∧ z.2.1 = 2 ^ z.1 % 4294967296 ∧ z.2.2.1 = (a ^^^ b) % 2 ^ z.1 ∧ z.2.2.2.1 = a / 2 ^ z.1 ∧ z.2.2.2.2 = b / 2 ^ z.1) (fun z => 32 - z.1) (0, 1, 0, a, b) (AE) (by simp [Nat.mod_one]) fun ⟨i, p, o, x, y⟩ hT => ?_
 simp only at hT ⊢
 obtain ⟨hi, hp, ho, hx, hy⟩ := hT
 rcases Nat.lt_or_ge i 32 with h | h
 ·obtain ⟨p1, p2⟩ := UT i h
  have hp' : p = 2 ^ i := by rw [hp, Nat.mod_eq_of_lt (by omega)]
  have ho' : o < p := by rw [ho, hp']; exact Nat.mod_lt _ p2
  have hpl : p ≤ 2147483648 := by omega
  have hx' : Jm x := by rw [hx]; exact Nat.lt_of_le_of_lt (Nat.div_le_self _ _) ha
  have hy' : Jm y := by rw [hy]; exact Nat.lt_of_le_of_lt (Nat.div_le_self _ _) hb
  have e1 := r32 x hx'
  have e2 := r32 y hy'
  have e3 := q32 x hx'
  have e4 := q32 y hy'
  have e5 := m32 p hpl
  have hbit : (a ^^^ b) / 2 ^ i % 2 = (x % 2 + y % 2) % 2 := by rw [Wl, KG, ← hx, ← hy]
  have hup := V7 (a ^^^ b) i
  rw [hbit, ← ho, ← hp'] at hup
  have hnp : 2 * p % 4294967296 = 2 ^ (i + 1) % 4294967296 := by rw [hp', Nat.pow_succ, Nat.mul_comm]
  have hnx : x / 2 = a / 2 ^ (i + 1) := by rw [Qn, hx]
  have hny : y / 2 = b / 2 ^ (i + 1) := by rw [Qn, hy]
  clear hp hx hy ho hbit ha hb hp'
  repeat' (first | rw [e1] | rw [e2] | rw [e3] | rw [e4] | rw [e5] | refine Ai ?_ | refine Ah ?_ | refine nc ?_ ?_ | (with_reducible intro _ <;> (try (exfalso; omega))) | refine Aa ?_ | (refine nd ?_ ?_ <;> intro hg <;> first | exact xo hg | rw [hg]))
  ·rename_i hne
   have hne' : x % 2 ≠ y % 2 := fun e => hne (by rw [t2, t2, e])
   refine AP (i + 1, 2 * p % 4294967296, o + p, x / 2, y / 2) ⟨by omega, hnp, ?_, hnx, hny⟩ (by simp only; omega) (AE)
   rw [hup, show (x % 2 + y % 2) % 2 = 1 by omega, Nat.mul_one]
  ·rename_i hne
   have hne' : x % 2 = y % 2 := by rw [t2, t2] at hne; omega
   refine AP (i + 1, 2 * p % 4294967296, o, x / 2, y / 2) ⟨by omega, hnp, ?_, hnx, hny⟩ (by simp only; omega) (AE)
   rw [hup, show (x % 2 + y % 2) % 2 = 0 by omega, Nat.mul_zero]; rfl
 ·have : i = 32 := by omega
  subst this
  repeat' (first | refine Ai ?_ | refine Ah ?_ | refine nc ?_ ?_ | (with_reducible intro _ <;> (try (exfalso; omega))) | refine Aa ?_ | (refine nd ?_ ?_ <;> intro hg <;> first | exact xo hg | rw [hg]))
  rw [ho, Nat.mod_eq_of_lt (Nat.xor_lt_two_pow (n := 32) ha hb)]
theorem Yk (b : List UInt8) : ∀ (n : Nat), n < 8 * b.length → ∃ x, b[n / 8]? = some x ∧ x.toNat / 2 ^ (n % 8) % 2 = nB b / 2 ^ n % 2 := by
 induction b with
 | nil => intro n h; simp at h
 | cons y b ih =>
  intro n h
  rw [List.length_cons] at h
  rcases Nat.lt_or_ge n 8 with h8 | h8
  ·refine ⟨y, by rw [show n / 8 = 0 by omega]; rfl, ?_⟩
   rw [Nat.mod_eq_of_lt h8, nB]
   have : (y.toNat + 256 * nB b) / 2 ^ n = y.toNat / 2 ^ n + 2 ^ (8 - n) * nB b := by
    rw [show 256 * nB b = 2 ^ n * (2 ^ (8 - n) * nB b) by rw [← Nat.mul_assoc, ← Nat.pow_add, show n + (8 - n) = 8 by omega], Nat.add_mul_div_left _ _ (Nat.pow_pos (by omega))]
   rw [this, show 8 - n = (7 - n) + 1 by omega, Nat.pow_succ, Nat.mul_comm (2 ^ (7 - n)) 2, Nat.mul_assoc, Nat.add_mul_mod_self_left]
  ·obtain ⟨x, h1, h2⟩ := ih (n - 8) (by omega)
   refine ⟨x, by rw [show n / 8 = (n - 8) / 8 + 1 by omega]; simpa using h1, ?_⟩
   rw [show n % 8 = (n - 8) % 8 by omega, h2, nB]
   have hy := y.toNat_lt
   rw [show n = 8 + (n - 8) by omega, Nat.pow_add, ← Nat.div_div_eq_div_mul, show (y.toNat + 256 * nB b) / 2 ^ 8 = nB b by omega, show 8 + (n - 8) - 8 = n - 8 by omega]
theorem AcB (b : List UInt8) (n : Nat) (h : n < 8 * b.length) (hb : b.length ≤ 1000000) : VP Tryz.prog 228 [BD b, An n] (· = .ret (En (nB b / 2 ^ n % 2 : Nat))) := by
 obtain ⟨x, hx, hxe⟩ := Yk b n h
 have hbl := Av b
 have hidx : (AG b)[((n / 8 : Nat) : Int).toNat]? = some [.lit (vb x)] := by rw [Int.toNat_natCast, List.getElem?_map, hx]; rfl
 have hx8 := x.toNat_lt
 have e1 : (n : Int).tdiv 8 = ((n / 8 : Nat) : Int) := by rw [Int.tdiv_eq_ediv_of_nonneg (by omega)]; omega
 have e2 : (n : Int).tmod 8 = ((n % 8 : Nat) : Int) := by rw [Int.tmod_eq_emod_of_nonneg (by omega)]; omega
 have e3 := q64 n (by omega)
 have e4 := r64 n (by omega)
 refine Al fun B => ?_
 repeat' (first | rw [e3] | rw [e1] | rw [e4] | rw [e2] | refine Ai ?_ | refine Ah ?_ | refine nc ?_ ?_ | (with_reducible intro _ <;> (try (exfalso; omega))) | refine Aa ?_ | (refine nd ?_ ?_ <;> intro hg <;> first | exact xo hg | rw [hg]))
 refine BP (fun z : Nat × Nat => ⟨[(14, I .i64 z.1), (13, I .i64 (n % 8 : Nat)), (5, .d (En z.2))], [], 0⟩) (fun z => z.1 ≤ n % 8 ∧ z.2 = x.toNat / 2 ^ z.1) (fun z => n % 8 - z.1) (0, x.toNat) (AE) (by simp) fun ⟨i, y⟩ hT => ?_
 simp only at hT ⊢
 obtain ⟨hi, hy⟩ := hT
 have hy' : y < 256 := by rw [hy]; exact Nat.lt_of_le_of_lt (Nat.div_le_self _ _) hx8
 have e5 := q32 y (by simp only [Jm]; omega)
 have e6 : (y : Int).tdiv 2 = ((y / 2 : Nat) : Int) := by rw [Int.tdiv_eq_ediv_of_nonneg (by omega)]; omega
 rcases Nat.lt_or_ge i (n % 8) with h1 | h1
 ·repeat' (first | rw [e5] | rw [e6] | refine Ai ?_ | refine Ah ?_ | refine nc ?_ ?_ | (with_reducible intro _ <;> (try (exfalso; omega))) | refine Aa ?_ | (refine nd ?_ ?_ <;> intro hg <;> first | exact xo hg | rw [hg]))
  refine AP (i + 1, y / 2) ⟨by simp only; omega, by simp only; rw [hy, Qn]⟩ (by simp only; omega) (AE)
 ·have : i = n % 8 := by omega
  have e7 := t2 y
  repeat' (first | rw [e7] | refine Ai ?_ | refine Ah ?_ | refine nc ?_ ?_ | (with_reducible intro _ <;> (try (exfalso; omega))) | refine Aa ?_ | (refine nd ?_ ?_ <;> intro hg <;> first | exact xo hg | rw [hg]))
  rw [hy, this, hxe]
theorem AaD (r t : Nat) (hr : Jm r) (ht : t < 2) : VP Tryz.prog 227 [En r, En t] (· = .ret (En (AO (r ^^^ t) : Nat))) := by
 have hq : r / 2 < 4294967296 := by simp only [Jm] at hr; omega
 have c := Aa5 (r / 2) 3988292384 hq (by decide)
 rw [show ((3988292384 : Nat) : Int) = 3988292384 from rfl] at c
 have e1 := q32 r hr
 have e2 := t2 r
 have e3 : (r : Int).tdiv 2 = ((r / 2 : Nat) : Int) := by rw [Int.tdiv_eq_ediv_of_nonneg (by omega)]; omega
 have hm : (r ^^^ t) % 2 = (r % 2 + t % 2) % 2 := KG r t
 have hd : (r ^^^ t) / 2 = r / 2 := by rw [N9, show t / 2 = 0 by omega, Nat.xor_zero]
 refine Al fun B => ?_
 repeat' (first | rw [e1] | rw [e2] | rw [e3] | refine Ai ?_ | (refine As ?_; first | refine cz (c) ?_) | refine Ah ?_ | refine nc ?_ ?_ | (with_reducible intro _ <;> (try (exfalso; omega))) | refine Aa ?_ | (refine nd ?_ ?_ <;> intro hg <;> first | exact xo hg | rw [hg]))
 all_goals (simp only [AO, hd])
 ·rename_i hne
  rw [if_pos (by rw [hm]; omega)]; rfl
 ·rename_i hne
  rw [if_neg (by rw [hm]; omega)]
theorem LY (lo i x : Nat) (h : lo < 2 ^ i) : lo + 2 ^ i * x = lo ^^^ 2 ^ i * x := by
 have h1 := Nat.two_pow_add_eq_or_of_lt (i := i) (b := lo) h x
 rw [Nat.add_comm, h1]
 apply Nat.eq_of_testBit_eq
 intro j
 rw [Nat.testBit_or, Nat.testBit_xor, Nat.testBit_two_pow_mul]
 by_cases hj : j < i
 ·have : ¬ i ≤ j := by omega
  simp [this]
 ·have : lo.testBit j = false := Nat.testBit_lt_two_pow (Nat.lt_of_lt_of_le h (Nat.pow_le_pow_right (by omega) (by omega)))
  simp [this]
theorem Zy (i r n : Nat) : D4 (i + 1) (r ^^^ n % 2 ^ (i + 1)) = AO (D4 i (r ^^^ n % 2 ^ i) ^^^ (n / 2 ^ i % 2)) := by
 rw [HN, V7, LY _ _ _ (Nat.mod_lt _ (Nat.pow_pos (by omega))), ← Nat.xor_assoc, HM i, IN]; rfl
theorem Mz : ∀ (i n : Nat), n < 2 ^ i → D4 i n < 4294967296
 | 0, n, h => by
  have : n = 0 := by simpa using h
  subst this; decide
 | i + 1, n, h => by
  have h2 : n = n % 2 ^ i + 2 ^ i * (n / 2 ^ i) := by rw [Nat.mod_add_div]
  have h3 : n / 2 ^ i < 2 := Nat.div_lt_of_lt_mul (by rw [Nat.pow_succ] at h; omega)
  have h4 : n % 2 ^ i < 2 ^ i := Nat.mod_lt _ (Nat.pow_pos (by omega))
  rw [HN, h2, LY _ _ _ h4, HM, IN]
  exact TS (Nat.xor_lt_two_pow (n := 32) (Mz i _ h4) (show n / 2 ^ i < 2 ^ 32 by omega))
theorem Acf (r : Nat) (hr : Jm r) (b : List UInt8) (hb : b.length ≤ 1000000) : VP Tryz.prog 197 [En r, BD b] (· = .ret (En (Jj r b : Nat))) := by
 have hbl := Av b
 have hnB := YJ b
 refine Al fun B => ?_
 repeat' (first | refine Ai ?_ | refine Ah ?_ | refine nc ?_ ?_ | (with_reducible intro _ <;> (try (exfalso; omega))) | refine Aa ?_ | (refine nd ?_ ?_ <;> intro hg <;> first | exact xo hg | rw [hg]))
 refine BP (fun z : Nat × Nat => ⟨[(9, I .i64 z.1), (8, I .i64 (8 * (AG b).length)), (1, .d (BD b)), (0, .d (En z.2))], [], 0⟩) (fun z => z.1 ≤ 8 * b.length ∧ z.2 = D4 z.1 (r ^^^ nB b % 2 ^ z.1)) (fun z => 8 * b.length - z.1) (0, r) (AE) (by simp [D4, Nat.mod_one]) fun ⟨i, y⟩ hT => ?_
 simp only at hT ⊢
 obtain ⟨hi, hy⟩ := hT
 rcases Nat.lt_or_ge i (8 * b.length) with h1 | h1
 ·have hy' : Jm y := by
   have e : D4 i (r ^^^ nB b % 2 ^ i) = D4 i r ^^^ D4 i (nB b % 2 ^ i) := HM _ _ _
   rw [hy, e]
   refine Nat.xor_lt_two_pow (n := 32) (Js i hr) ?_
   exact Mz i _ (Nat.mod_lt _ (Nat.pow_pos (by omega)))
  have c1 := AcB b i h1 hb
  have c2 := AaD y (nB b / 2 ^ i % 2) hy' (by omega)
  repeat' (first | refine Ai ?_ | (refine As ?_; first | refine cz (c1) ?_ | refine cz (c2) ?_) | refine Ah ?_ | refine nc ?_ ?_ | (with_reducible intro _ <;> (try (exfalso; omega))) | refine Aa ?_ | (refine nd ?_ ?_ <;> intro hg <;> first | exact xo hg | rw [hg]))
  refine AP (i + 1, AO (y ^^^ nB b / 2 ^ i % 2)) ⟨by simp only; omega, by simp only; rw [hy, Zy]⟩ (by simp only; omega) (AE)
 ·have e : i = 8 * b.length := by omega
  repeat' (first | refine Ai ?_ | refine Ah ?_ | refine nc ?_ ?_ | (with_reducible intro _ <;> (try (exfalso; omega))) | refine Aa ?_ | (refine nd ?_ ?_ <;> intro hg <;> first | exact xo hg | rw [hg]))
  rw [hy, e, RL, Nat.mod_eq_of_lt (by rw [← ZZ]; exact hnB)]

set_option maxRecDepth 20000
set_option maxRecDepth 10000
theorem ZE (b : List UInt8) (hb : b.length ≤ 1000000) : VP Tryz.prog 94 [BD b] (· = .ret (En (Fb b : Nat))) := by
 have c1 := Om 0 (by decide)
 have c2 := Acf 4294967295 (by decide) b hb
 have c3 := Om (Jj 4294967295 b) (NY b (by decide))
 rw [show ((0 : Nat) : Int) = 0 from rfl, show ((4294967295 - 0 : Nat) : Int) = ((4294967295 : Nat) : Int) from rfl] at c1
 unfold Fb cF
 generalize Jj 4294967295 b = r at *
 refine Al fun B => ?_
 repeat' (first | refine Ai ?_ | (refine As ?_; first | refine cz (c1) ?_ | refine cz (c2) ?_ | refine cz (c3) ?_ | refine Ae 150 fun _ => ?_) | refine Ah ?_ | refine nc ?_ ?_ | (with_reducible intro _ <;> (try (exfalso; omega))) | refine Aa ?_ | (refine nd ?_ ?_ <;> intro hg <;> first | exact xo hg | rw [hg]))
 all_goals rfl
theorem u8w (n : Nat) : Value.int .u8 (IntKind.u8.wrap (n : Int)) = vb (UInt8.ofNat n) := by
 rw [Qy]
 simp [vb]
theorem u8m (n : Nat) : UInt8.ofNat (n % 256) = UInt8.ofNat n := UInt8.toNat_inj.1 (by rw [UInt8.toNat_ofNat', UInt8.toNat_ofNat', show 2 ^ 8 = 256 from rfl, Nat.mod_mod])
theorem LN (w : Nat) : AG (JH w) = [[.lit (vb (UInt8.ofNat w))], [.lit (vb (UInt8.ofNat (w / 256)))], [.lit (vb (UInt8.ofNat (w / 65536)))], [.lit (vb (UInt8.ofNat (w / 16777216)))]] := by
 simp only [JH, Vt, AG, List.map_cons, List.map_nil, Nat.div_div_eq_div_mul, Nat.reduceMul]
theorem d32 (n k : Nat) (h : Jm n) (_ : 0 < k) : IntKind.u32.wrap ((n : Int).tdiv k) = ((n / k : Nat) : Int) := by
 have h1 := Nat.div_le_self n k
 have e : (n : Int).tdiv k = ((n / k : Nat) : Int) := by rw [Int.tdiv_eq_ediv_of_nonneg (by omega)]; exact (Int.natCast_ediv n k).symm
 rw [e]
 generalize n / k = q at *
 rw [CR (by simp only [I6]; omega)]
theorem Adm (n : Nat) : (n : Int).tmod 256 = ((n % 256 : Nat) : Int) := by rw [Int.tmod_eq_emod_of_nonneg (by omega)]; omega
theorem WZ (w : Nat) (hw : Jm w) : VP Tryz.prog 93 [En w] (· = .own 5 1 (AG (JH w))) := by
 have e1 := d32 w 256 hw (by decide)
 have e2 := d32 w 65536 hw (by decide)
 have e3 := d32 w 16777216 hw (by decide)
 simp only [Int.cast_ofNat_Int] at e1 e2 e3
 refine Al fun B => ?_
 repeat' (first | refine Ai ?_ | refine Ah ?_ | refine nc ?_ ?_ | (with_reducible intro _ <;> (try (exfalso; omega))) | refine Aa ?_ | (refine nd ?_ ?_ <;> intro hg <;> first | exact xo hg | rw [hg]))
 rw [e1, e2, e3]
 simp only [Adm, u8w, u8m, LN, AQ, Ts (w / 16777216) (by omega)]
theorem VI (w : Nat) : (JH w).length = 4 := I3 _ _
theorem YL {b : List UInt8} (h : 4 ≤ b.length) : ∃ hd x0 x1 x2 x3, b = hd ++ [x0, x1, x2, x3] ∧ hd = b.take (b.length - 4) ∧ b.drop (b.length - 4) = [x0, x1, x2, x3] := by
 have hl : (b.drop (b.length - 4)).length = 4 := by rw [List.length_drop]; omega
 match hd : b.drop (b.length - 4), hl with
 | [x0, x1, x2, x3], _ => exact ⟨b.take (b.length - 4), x0, x1, x2, x3, by rw [← hd, List.take_append_drop], rfl, rfl⟩
theorem T9 (b : List UInt8) (h : b.length < 4) : VP Tryz.prog 60 [BD b] (· = .ret (.tup [.sl false true (AG []), .lit (.bool false)])) := by
 have hbl := Av b
 refine VP.le ?_
 refine Al fun B => ?_
 repeat' (first | refine Ai ?_ | refine Ah ?_ | refine nc ?_ ?_ | (with_reducible intro _ <;> (try (exfalso; omega))) | refine Aa ?_ | (refine nd ?_ ?_ <;> intro hg <;> first | exact xo hg | rw [hg]))
 all_goals (simp only [Cm, AG, List.map_nil]; infer_instance)
theorem WX (b : List UInt8) (hb : b.length ≤ 1000000) : VP Tryz.prog 60 [BD b] (· = .ret (.tup [.sl false true (AG ((C3 b).getD [])), .lit (.bool (C3 b).isSome)])) := by
  rcases Nat.lt_or_ge b.length 4 with h4 | h4
  · rw [show C3 b = none by unfold C3; rw [if_pos h4]]; exact T9 b h4
  · obtain ⟨hd, x0, x1, x2, x3, hbe, hhd, hdr⟩ := YL h4
    have ho : C3 b = if [x0, x1, x2, x3] = JH (Fb hd) then some hd else none := by unfold C3; rw [if_neg (by omega), hdr, ← hhd]
    rw [ho]
    have hbl := Av b
    have hlen : b.length = hd.length + 4 := by rw [hbe]; simp
    have hcut : CP none (some (((AG b).length : Int) - 4)) (AG b) = AG hd := by
      rw [show ((AG b).length : Int) - 4 = ((b.length - 4 : Nat) : Int) by omega, Pk, ← hhd]
    have i0 : (AG b)[(((AG b).length : Int) - 4 + 0).toNat]? = some [.lit (vb x0)] := by
      rw [show (((AG b).length : Int) - 4 + 0).toNat = hd.length by omega, hbe]; simp [AG]
    have i1 : (AG b)[(((AG b).length : Int) - 4 + (0 + 1)).toNat]? = some [.lit (vb x1)] := by
      rw [show (((AG b).length : Int) - 4 + (0 + 1)).toNat = hd.length + 1 by omega, hbe]; simp [AG]
    have i2 : (AG b)[(((AG b).length : Int) - 4 + (0 + 1 + 1)).toNat]? = some [.lit (vb x2)] := by
      rw [show (((AG b).length : Int) - 4 + (0 + 1 + 1)).toNat = hd.length + 2 by omega, hbe]; simp [AG]
    have i3 : (AG b)[(((AG b).length : Int) - 4 + (0 + 1 + 1 + 1)).toNat]? = some [.lit (vb x3)] := by
      rw [show (((AG b).length : Int) - 4 + (0 + 1 + 1 + 1)).toNat = hd.length + 3 by omega, hbe]; simp [AG]
    have hdl : hd.length ≤ 1000000 := by omega
    have c1 := ZE hd hdl
    have c2 := WZ (Fb hd) (NT hd)
    have hhl := Av hd
    obtain ⟨y0, y1, y2, y3, hf⟩ : ∃ y0 y1 y2 y3, JH (Fb hd) = [y0, y1, y2, y3] := ⟨_, _, _, _, rfl⟩
    rw [hf] at c2 ⊢
    generalize Fb hd = s at *
    obtain ⟨ys, hyl, hys, g0, g1, g2, g3⟩ : ∃ ys : List (List D), ys.length = 4 ∧ AG [y0, y1, y2, y3] = ys ∧ ys[(0 : Int).toNat]? = some [.lit (vb y0)] ∧ ys[((0 : Int) + 1).toNat]? = some [.lit (vb y1)] ∧ ys[((0 : Int) + 1 + 1).toNat]? = some [.lit (vb y2)] ∧ ys[((0 : Int) + 1 + 1 + 1).toNat]? = some [.lit (vb y3)] := ⟨_, rfl, rfl, rfl, rfl, rfl, rfl⟩
    rw [hys] at c2
    refine VP.le ?_
    refine Al fun B => ?_
    repeat' (first | rw [hcut] | refine Ai ?_ | (refine As ?_; first | refine cz (c1) ?_ | refine cz (c2) ?_) | refine Ah ?_ | refine nc ?_ ?_ | (with_reducible intro _ <;> (try (exfalso; omega))) | refine Aa ?_ | (refine nd ?_ ?_ <;> intro hg <;> first | exact xo hg | rw [hg]))
    refine AB 5 ?_
    repeat' (first | rw [hcut] | refine Ai ?_ | refine Ah ?_ | refine nc ?_ ?_ | (with_reducible intro _ <;> (try (exfalso; omega))) | refine Aa ?_ | (refine nd ?_ ?_ <;> intro hg <;> first | exact xo hg | rw [hg]))
    all_goals first
      | (rename_i hne; rw [if_neg (fun h => hne (by simp only [List.cons.injEq, and_true] at h; obtain ⟨h0, h1, h2, h3⟩ := h; first | rw [h0] | rw [h1] | rw [h2] | rw [h3]))]; simp only [Cm, Option.getD_none, Option.isSome_none, AG, List.map_nil]; infer_instance)
      | (rename_i q0 _ q1 _ q2 _ q3 _
         rw [if_pos (by rw [Ig q0, Ig q1, Ig q2, Ig q3])]
         exact A7 _)
      | trace_state

set_option maxRecDepth 20000
set_option maxRecDepth 10000
abbrev DM : D := .ifc 111 (.agg [])
abbrev A6 (b o : D) (x : Fr) (t : List UInt8) : List V := ((Do b o x).map V.d) ++ [.d (.sl false true (AG t))]
instance : N5 Tryz.prog 111 [] := ⟨by kernel_rfl⟩
theorem A3 (_ : Nat) : VP Tryz.prog 99 [.lit (.bool true)] (· = .ret (.tup [])) := by
 refine Al fun B => ?_
 repeat' (first | refine Ai ?_ | refine Ah ?_ | refine nc ?_ ?_ | (with_reducible intro _ <;> (try (exfalso; omega))) | refine Aa ?_ | (refine nd ?_ ?_ <;> intro hg <;> first | exact xo hg | rw [hg]))
 all_goals rfl
theorem CL (_ : Nat) : VP Tryz.prog 99 [.lit (.bool false)] (· = .panic DM) := by
 refine Al fun B => ?_
 repeat' (first | refine Ai ?_ | refine Ah ?_ | refine nc ?_ ?_ | (with_reducible intro _ <;> (try (exfalso; omega))) | refine Aa ?_ | (refine nd ?_ ?_ <;> intro hg <;> first | exact xo hg | rw [hg]))
 all_goals rfl
theorem A9 (c : Bool) (_ : Nat) : VP Tryz.prog 99 [.lit (.bool c)] (· = if c then .ret (.tup []) else .panic DM) := by
 cases c with
 | true => exact A3 0
 | false => exact CL 0
theorem NL (b o : D) (x : Fr) (t : List UInt8) (n : Nat) (hn : n ≤ t.length) (_ : t.length ≤ 1000000) : Dk Tryz.prog 154 1 [.ptr 0 0, .d (An n)] [.c 0 0 (A6 b o x t)] 1 (.ret (.d (.sl true true (AG (t.take n))))) [.c 0 0 (A6 b o x (t.drop n))] 1 := by
 have htl := Av t
 have h1 : CP none (some (n : Int)) (AG t) = AG (t.take n) := Pk t n
 have h2 : CP (some (n : Int)) none (AG t) = AG (t.drop n) := AaN _ t n
 simp only [A6, Do, List.map_cons, List.map_nil, List.cons_append, List.nil_append]
 refine AH fun B M => ?_
 repeat' (first | rw [h1] | rw [h2] | refine Ai ?_ | (refine As ?_; first | (refine AJ (A3 0) ?_; first | refine Ag (A3 0) ?_ | refine Ao (CL 0) ?_ | (refine Aj (A9 _ 0) ?_ ?_ <;> intro _ <;> (try (exfalso; omega))) | (refine Ap (A9 _ 0) ?_ ?_ <;> intro _))) | refine Ah ?_ | refine nc ?_ ?_ | (with_reducible intro _ <;> (try (exfalso; omega))) | refine Aa ?_ | (refine nd ?_ ?_ <;> intro hg <;> first | exact xo hg | rw [hg]))
 all_goals first | exact A8 [] | trace_state
theorem Rv (b o : D) (x : Fr) (t : List UInt8) (n : Nat) (hn : ¬ n ≤ t.length) : Dk Tryz.prog 154 1 [.ptr 0 0, .d (An n)] [.c 0 0 (A6 b o x t)] 1 (.panic (.d DM)) [.c 0 0 (A6 b o x t)] 1 := by
 have htl := Av t
 simp only [A6, Do, List.map_cons, List.map_nil, List.cons_append, List.nil_append]
 refine AH fun B M => ?_
 repeat' (first | refine Ai ?_ | (refine As ?_; first | (refine AJ (A3 0) ?_; first | refine Ag (A3 0) ?_ | refine Ao (CL 0) ?_ | (refine Aj (A9 _ 0) ?_ ?_ <;> intro _ <;> (try (exfalso; omega))) | (refine Ap (A9 _ 0) ?_ ?_ <;> intro _))) | refine Ah ?_ | refine nc ?_ ?_ | (with_reducible intro _ <;> (try (exfalso; omega))) | refine Aa ?_ | (refine nd ?_ ?_ <;> intro hg <;> first | exact xo hg | rw [hg]))
 all_goals first | exact Ay [] | trace_state
theorem OX (b o : D) (x : Fr) (t : List UInt8) (n : Nat) (h8 : 1 ≤ n ∧ n ≤ 8) (hn : n ≤ t.length) (ht : t.length ≤ 1000000) : Dk Tryz.prog 98 1 [.ptr 0 0, .d (An n)] [.c 0 0 (A6 b o x t)] 1 (.ret (.d (AK (AV (t.take n))))) [.c 0 0 (A6 b o x (t.drop n))] 1 := by
 have c1 := NL b o x t n hn ht
 have c2 := Acc (t.take n) n h8 (by rw [List.length_take]; omega)
 simp only [A6, Do, List.map_cons, List.map_nil, List.cons_append, List.nil_append] at c1 ⊢
 refine AH fun B M => ?_
 repeat' (first | refine Ai ?_ | (refine As ?_; first | (refine AJ (A3 0) ?_; first | refine Ag (A3 0) ?_ | refine Ao (CL 0) ?_ | (refine Aj (A9 _ 0) ?_ ?_ <;> intro _ <;> (try (exfalso; omega))) | (refine Ap (A9 _ 0) ?_ ?_ <;> intro _)) | refine Am [(0, none)] c1 ?_ | refine cz (c2) ?_) | refine Ah ?_ | refine nc ?_ ?_ | (with_reducible intro _ <;> (try (exfalso; omega))) | refine Aa ?_ | (refine nd ?_ ?_ <;> intro hg <;> first | exact xo hg | rw [hg]))
 all_goals first | exact A8 [] | trace_state
theorem NK (b o : D) (x : Fr) (t : List UInt8) (n : Nat) (hn : ¬ n ≤ t.length) : Dk Tryz.prog 98 1 [.ptr 0 0, .d (An n)] [.c 0 0 (A6 b o x t)] 1 (.panic (.d DM)) [.c 0 0 (A6 b o x t)] 1 := by
 have c1 := Rv b o x t n hn
 simp only [A6, Do, List.map_cons, List.map_nil, List.cons_append, List.nil_append] at c1 ⊢
 refine AH fun B M => ?_
 repeat' (first | refine Ai ?_ | (refine As ?_; first | refine Am [(0, none)] c1 ?_) | refine Ah ?_ | refine nc ?_ ?_ | (with_reducible intro _ <;> (try (exfalso; omega))) | refine Aa ?_ | (refine nd ?_ ?_ <;> intro hg <;> first | exact xo hg | rw [hg]))
 all_goals first | exact Ay [] | trace_state

end Go.Proofs.YtbgcjnfhadhjeaaGreat