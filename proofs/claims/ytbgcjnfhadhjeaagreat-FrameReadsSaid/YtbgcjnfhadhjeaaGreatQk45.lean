/- Walks by data and names, part 45: Bits of numbers without a sign, by V: xor, and, shifts to the right. The program's sums of bytes, by V: the table of JH bits, and a register that is fed. append of an array variable's slice to a row of its own. -/
import Derived.Test.YtbgcjnfhadhjeaaGreatQk23
import Derived.Test.YtbgcjnfhadhjeaaGreatQk44
import Derived.Test.YtbgcjnfhadhjeaaGreatQk41
import Derived.Test.YtbgcjnfhadhjeaaGreatQk39
import Derived.Test.YtbgcjnfhadhjeaaGreatQk26
import Derived.Test.YtbgcjnfhadhjeaaGreatQk25
namespace Go.Proofs.YtbgcjnfhadhjeaaGreat
set_option maxRecDepth 20000
open Go.RowKit
def Wg : IntKind → Nat
 | .u8 => 8
 | .u16 => 16
 | .u32 => 32
 | .u64 => 64
 | _ => 0
def Ky (k : IntKind) (a : Nat) : Prop := Wg k ≠ 0 ∧ a < 2 ^ Wg k
theorem MQ {k : IntKind} {a : Nat} (h : Ky k a) : I6 k (a : Int) ∧ (BitVec.ofInt k.bits (a : Int)).toNat = a := by
 obtain ⟨h0, h⟩ := h
 cases k <;> simp only [Wg, ne_eq, not_true_eq_false, not_false_eq_true, Nat.reducePow, Nat.reduceEqDiff] at h0 h
 all_goals (refine ⟨by simp only [I6]; omega, ?_⟩; rw [BitVec.ofInt_natCast, BitVec.toNat_ofNat]; exact Nat.mod_eq_of_lt h)
theorem Qk {k : IntKind} {a b : Nat} (h : Ky k a) (hb : b < 2 ^ Wg k) : Ky k b := ⟨h.1, hb⟩
theorem T0 {P : Program} {w : World} {k : IntKind} {t : TypeId} {a b : Nat} (ha : Ky k a) (hb : Ky k b) : (binOp .xor t (.int k (a : Int)) (.int k (b : Int)) : Sem Value).run P w = .ok (.int k ((a ^^^ b : Nat) : Int)) w := by
 have h : Ky k (a ^^^ b) := Qk ha (Nat.xor_lt_two_pow ha.2 hb.2)
 have e : (BitVec.ofInt k.bits (a : Int) ^^^ BitVec.ofInt k.bits (b : Int)).toNat = a ^^^ b := by rw [BitVec.toNat_xor, (MQ ha).2, (MQ hb).2]
 simp only [binOp, Op.intBits, ne_eq, not_true_eq_false, if_false, e, CR (MQ h).1, Sem.run_pure]
theorem T4 {P : Program} {w : World} {k : IntKind} {t : TypeId} {a b : Nat} (ha : Ky k a) (hb : Ky k b) : (binOp .and t (.int k (a : Int)) (.int k (b : Int)) : Sem Value).run P w = .ok (.int k ((a &&& b : Nat) : Int)) w := by
 have h : Ky k (a &&& b) := Qk ha (Nat.lt_of_le_of_lt Nat.and_le_left ha.2)
 have e : (BitVec.ofInt k.bits (a : Int) &&& BitVec.ofInt k.bits (b : Int)).toNat = a &&& b := by rw [BitVec.toNat_and, (MQ ha).2, (MQ hb).2]
 simp only [binOp, Op.intBits, ne_eq, not_true_eq_false, if_false, e, CR (MQ h).1, Sem.run_pure]
theorem T2 {P : Program} {w : World} {k k2 : IntKind} {t : TypeId} {a b : Nat} (hb : b ≤ k.bits) : (binOp .shr t (.int k (a : Int)) (.int k2 (b : Int)) : Sem Value).run P w = .ok (.int k ((a / 2 ^ b : Nat) : Int)) w := by
 have e : ((a : Int)).fdiv (2 ^ b) = ((a / 2 ^ b : Nat) : Int) := by
  rw [Int.fdiv_eq_ediv_of_nonneg _ (by exact_mod_cast Nat.zero_le _)]
  exact_mod_cast (Int.natCast_ediv a (2 ^ b)).symm
 have h0 : ¬ ((b : Int) < 0) := by omega
 simp only [binOp, Op.shift, h0, if_false, Int.toNat_natCast, Nat.min_eq_left hb, e, Sem.run_pure]
theorem T3 {P : Program} {w : World} {k : IntKind} {a : Nat} (ha : Ky k a) : (Op.unary .xor (.int k (a : Int)) : Sem Value).run P w = .ok (.int k ((2 ^ Wg k - 1 - a : Nat) : Int)) w := by
 obtain ⟨h0, h⟩ := ha
 cases k <;> simp only [Wg, ne_eq, not_true_eq_false, not_false_eq_true, Nat.reducePow, Nat.reduceEqDiff] at h0 h
 all_goals
  have e : ∀ (n : Nat) (m : Int), m = ((2 ^ n - 1 : Nat) : Int) → a < 2 ^ n → (BitVec.ofInt n m ^^^ BitVec.ofInt n (a : Int)).toNat = 2 ^ n - 1 - a := fun n m hm hn => by
   have h1 : BitVec.ofNat n (2 ^ n - 1) = BitVec.allOnes n := by apply BitVec.eq_of_toNat_eq; rw [BitVec.toNat_ofNat, BitVec.toNat_allOnes, Nat.mod_eq_of_lt (Nat.sub_lt (Nat.pow_pos (by omega)) (by omega))]
   rw [hm, BitVec.ofInt_natCast, BitVec.ofInt_natCast, h1, BitVec.allOnes_xor, BitVec.toNat_not, BitVec.toNat_ofNat, Nat.mod_eq_of_lt hn]
  simp only [Op.unary, Op.intBits, IntKind.signed, Bool.false_eq_true, if_false, Sem.run_pure, Wg]
  rw [e _ _ (by rfl) h, CR (by simp only [I6, IntKind.bits]; omega)]
  simp only [IntKind.bits]
section
variable {P : Program} {cx : Cx} {s : St}
theorem N3 {op : BinOp} {t yt ty : TypeId} {x y : Operand} {k k' : IntKind} {a b : Int} {a' b' : Nat} {u : Value} (hx : Af s x = some (I k a)) (hy : Af s y = some (I k' b)) (h1 : a = (a' : Int)) (h2 : b = (b' : Int)) (hr : ∀ w, (binOp op t (.int k (a' : Int)) (.int k' (b' : Int)) : Sem Value).run P w = .ok u w) : Bq P cx (.binOp op t x y yt) ty s (.d (.lit u)) := by
 subst h1 h2; exact NG hx hy hr
theorem YA {t yt ty : TypeId} {x y : Operand} {k : IntKind} {a b : Int} {a' b' : Nat} (hx : Af s x = some (I k a)) (hy : Af s y = some (I k b)) (h1 : a = (a' : Int)) (h2 : b = (b' : Int)) (ha : Ky k a') (hb : Ky k b') : Bq P cx (.binOp .xor t x y yt) ty s (I k ((a' ^^^ b' : Nat) : Int)) := N3 hx hy h1 h2 fun _ => T0 ha hb
theorem UQ {t yt ty : TypeId} {x y : Operand} {k : IntKind} {a b : Int} {a' : Nat} (j : Nat) (hx : Af s x = some (I k a)) (hy : Af s y = some (I k b)) (h1 : a = (a' : Int)) (h2 : b = ((2 ^ j - 1 : Nat) : Int)) (ha : Ky k a') (hb : Ky k (2 ^ j - 1)) : Bq P cx (.binOp .and t x y yt) ty s (I k ((a' % 2 ^ j : Nat) : Int)) := by
 rw [← Nat.and_two_pow_sub_one_eq_mod]
 exact N3 hx hy h1 h2 fun _ => T4 ha hb
theorem YB {t yt ty : TypeId} {x y : Operand} {k k2 : IntKind} {a b : Int} {a' b' : Nat} (hx : Af s x = some (I k a)) (hy : Af s y = some (I k2 b)) (h1 : a = (a' : Int)) (h2 : b = (b' : Int)) (hb : Nat.ble b' k.bits = true) : Bq P cx (.binOp .shr t x y yt) ty s (I k ((a' / 2 ^ b' : Nat) : Int)) := N3 hx hy h1 h2 fun _ => T2 (Nat.le_of_ble_eq_true hb)
theorem AbO {t ty : TypeId} {x : Operand} {k : IntKind} {a : Int} {a' : Nat} (hx : Af s x = some (I k a)) (h1 : a = (a' : Int)) (ha : Ky k a') : Bq P cx (.unOp .xor t x) ty s (I k ((2 ^ Wg k - 1 - a' : Nat) : Int)) := by subst h1; exact PP hx fun _ => T3 ha
end
section
variable {P : Program} {cx : Cx} {tm : List (Nat × V)} {st : List E} {nb : Nat} {Q : VE → St → Prop} {ops rest : List Oper} {d : Tmp} {t yt ty : TypeId} {x y : Operand} {k k2 : IntKind} {a b : Int} {a' b' : Nat} {pos : String} {af : Array Edge} {gd : Option (Nat × Bool)}
theorem S0 (kk : VL P cx ops rest ⟨(d, I k ((a' ^^^ b' : Nat) : Int)) :: tm, st, nb⟩ Q) (hx : Af ⟨tm, st, nb⟩ x = some (I k a) := by rfl) (hy : Af ⟨tm, st, nb⟩ y = some (I k b) := by rfl) (h1 : a = (a' : Int) := by rfl) (h2 : b = (b' : Int) := by rfl) (ha : Ky k a' := by assumption) (hb : Ky k b' := by first | assumption | exact ⟨by decide, by decide⟩) (hd : Nat.blt d cx.N = true := by rfl)
  (hw : Wd ops tm gd := by first | exact trivial | exact A1 rfl rfl (by with_reducible rfl)) : VL P cx ops (⟨some d, .binOp .xor t x y yt, ty, pos, af, gd⟩ :: rest) ⟨tm, st, nb⟩ Q := H7 kk (IM (h := YA hx hy h1 h2 ha hb) (hd := hd) (hw := hw))
theorem Wv (j : Nat) (kk : VL P cx ops rest ⟨(d, I k ((a' % 2 ^ j : Nat) : Int)) :: tm, st, nb⟩ Q) (hx : Af ⟨tm, st, nb⟩ x = some (I k a) := by rfl) (hy : Af ⟨tm, st, nb⟩ y = some (I k b) := by rfl) (h1 : a = (a' : Int) := by rfl) (h2 : b = ((2 ^ j - 1 : Nat) : Int) := by rfl) (ha : Ky k a' := by assumption) (hb : Ky k (2 ^ j - 1) := by exact ⟨by decide, by decide⟩) (hd : Nat.blt d cx.N = true := by rfl)
  (hw : Wd ops tm gd := by first | exact trivial | exact A1 rfl rfl (by with_reducible rfl)) : VL P cx ops (⟨some d, .binOp .and t x y yt, ty, pos, af, gd⟩ :: rest) ⟨tm, st, nb⟩ Q := H7 kk (IM (h := UQ j hx hy h1 h2 ha hb) (hd := hd) (hw := hw))
theorem S2 (kk : VL P cx ops rest ⟨(d, I k ((a' / 2 ^ b' : Nat) : Int)) :: tm, st, nb⟩ Q) (hx : Af ⟨tm, st, nb⟩ x = some (I k a) := by rfl) (hy : Af ⟨tm, st, nb⟩ y = some (I k2 b) := by rfl) (h1 : a = (a' : Int) := by rfl) (h2 : b = (b' : Int) := by rfl) (hb : Nat.ble b' k.bits = true := by rfl) (hd : Nat.blt d cx.N = true := by rfl)
  (hw : Wd ops tm gd := by first | exact trivial | exact A1 rfl rfl (by with_reducible rfl)) : VL P cx ops (⟨some d, .binOp .shr t x y yt, ty, pos, af, gd⟩ :: rest) ⟨tm, st, nb⟩ Q := H7 kk (IM (h := YB hx hy h1 h2 hb) (hd := hd) (hw := hw))
theorem S6 (kk : VL P cx ops rest ⟨(d, I k ((2 ^ Wg k - 1 - a' : Nat) : Int)) :: tm, st, nb⟩ Q) (hx : Af ⟨tm, st, nb⟩ x = some (I k a) := by rfl) (h1 : a = (a' : Int) := by rfl) (ha : Ky k a' := by assumption) (hd : Nat.blt d cx.N = true := by rfl)
  (hw : Wd ops tm gd := by first | exact trivial | exact A1 rfl rfl (by with_reducible rfl)) : VL P cx ops (⟨some d, .unOp .xor t x, ty, pos, af, gd⟩ :: rest) ⟨tm, st, nb⟩ Q := H7 kk (IM (h := AbO hx h1 ha) (hd := hd) (hw := hw))
end

set_option maxRecDepth 10000
set_option maxHeartbeats 4000000
theorem Ol {n : Nat} (h : Jm n) : Ky .u32 n := ⟨by decide, h⟩
theorem WS (r : Nat) : AO r = if (r ^^^ 0) % 2 ^ 1 = 1 then (r / 2 ^ 1) ^^^ 3988292384 else r / 2 ^ 1 := by
 rw [Nat.xor_zero]; rfl
theorem AaF (r : Nat) (h : Jm r) : VP Tryz.prog 234 [En r, En 0] (· = .ret (En (AO r : Nat))) := by
 have h1 := Ol h
 have h2 : Ky .u32 (r ^^^ 0) := by rw [Nat.xor_zero]; exact h1
 have h3 : Ky .u32 (r / 2 ^ 1) := Qk h1 (Nat.lt_of_le_of_lt (Nat.div_le_self _ _) h1.2)
 rw [WS]
 refine Al fun B => ?_
 repeat' (first | refine S0 ?_ | refine Wv 1 ?_ | refine S2 ?_ | refine Ai ?_ | refine Ah ?_ | refine nc ?_ ?_ | (with_reducible intro _ <;> (try (exfalso; omega))) | refine Aa ?_ | (refine nd ?_ ?_ <;> intro hg <;> first | exact xo hg | rw [hg]))
 ·rename_i hc; rw [if_pos (Int.ofNat_inj.1 hc)]
 ·rename_i hc; rw [if_neg fun e => hc (by rw [e]; rfl)]
abbrev Zw : Bool → List V
 | false => [Bk 0, NO 0, Bk 0, Bk 0, Bk 0, Bk 0, Bk 0, Bk 0, Bk 0, Bk 0, Bk 0, Bk 0, Bk 0, Bk 0, Bk 0, Bk 0, Bk 0, Bk 0, Bk 0]
 | true => [Bk 1, NO 0, Bk 0, Bk (D4 4 0 : Nat), Bk (D4 4 1 : Nat), Bk (D4 4 2 : Nat), Bk (D4 4 3 : Nat), Bk (D4 4 4 : Nat), Bk (D4 4 5 : Nat), Bk (D4 4 6 : Nat), Bk (D4 4 7 : Nat), Bk (D4 4 8 : Nat), Bk (D4 4 9 : Nat), Bk (D4 4 10 : Nat), Bk (D4 4 11 : Nat), Bk (D4 4 12 : Nat), Bk (D4 4 13 : Nat), Bk (D4 4 14 : Nat), Bk (D4 4 15 : Nat)]
abbrev atE (f : Nat → Nat) : List E := [.c 1 0 [.ptr 0 0], .c 0 0 [Bk 0, NO 1, Bk 0, Bk (f 0 : Nat), Bk (f 1 : Nat), Bk (f 2 : Nat), Bk (f 3 : Nat), Bk (f 4 : Nat), Bk (f 5 : Nat), Bk (f 6 : Nat), Bk (f 7 : Nat), Bk (f 8 : Nat), Bk (f 9 : Nat), Bk (f 10 : Nat), Bk (f 11 : Nat), Bk (f 12 : Nat), Bk (f 13 : Nat), Bk (f 14 : Nat), Bk (f 15 : Nat)]]
theorem AbB (k a : Nat) : D4 (k + 1) a = AO (D4 k a) := HN k 1 a
def upF (f : Nat → Nat) (i n : Nat) : Nat → Nat := fun j => match Nat.beq j i with
 | true => n
 | false => f j
theorem Abv {f : Nat → Nat} {i : Nat} (h : ∀ j, j < i → f j = D4 4 j) : ∀ j, j < i + 1 → upF f i (D4 4 i) j = D4 4 j := fun j hj => by
 unfold upF
 cases hb : Nat.beq j i with
 | true => rw [Nat.eq_of_beq_eq_true hb]
 | false => exact h j (by have := Nat.ne_of_beq_eq_false hb; omega)
theorem AcC (B : Nat) : VC Tryz.prog 233 B [.ptr 1 0] [.c 0 1 [NO 1], .c 1 0 [.ptr 0 0], .c 0 0 (Zw false)] 2 (fun r s n => r = .ret (.tup []) ∧ s = atE (D4 4) ∧ n = 2) := by
 refine Yr Tryz.func233 rfl Tryz.ntmps233 Tryz.results233 fun M => ?_
 repeat' (first | refine Ai ?_ | refine Ah ?_ | refine nc ?_ ?_ | (with_reducible intro _ <;> (try (exfalso; omega))) | refine Aa ?_ | (refine nd ?_ ?_ <;> intro hg <;> first | exact xo hg | rw [hg]))
 refine BP (fun z : Nat × (Nat → Nat) => ⟨[(3, I .i64 z.1), (0, .ptr 1 0)], atE z.2, 2⟩) (fun z => z.1 ≤ 16 ∧ ∀ j, j < z.1 → z.2 j = D4 4 j) (fun z => 16 - z.1) (0, fun _ => 0) (AE) ⟨by simp only; omega, fun j h => absurd h (Nat.not_lt_zero _)⟩ fun ⟨i, f⟩ hT => ?_
 simp only at hT ⊢
 obtain ⟨hi, hf⟩ := hT
 rcases Nat.lt_or_ge i 16 with h | h
 ·have hu : Jm i := by simp only [Jm]; omega
  repeat' (first | refine Ai ?_ | refine Ah ?_ | refine nc ?_ ?_ | (with_reducible intro _ <;> (try (exfalso; omega))) | refine Aa ?_ | (refine nd ?_ ?_ <;> intro hg <;> first | exact xo hg | rw [hg]))
  refine BP (fun z : Nat × Nat => ⟨[(8, I .i64 z.1), (2, .d (En z.2)), (1, I .i64 i), (3, I .i64 i), (0, .ptr 1 0)], atE f, 2⟩) (fun z => z.1 ≤ 4 ∧ z.2 = D4 z.1 i) (fun z => 4 - z.1) (0, i) (AE) ⟨by simp only; omega, rfl⟩ fun ⟨k, y⟩ hT => ?_
  simp only at hT ⊢
  obtain ⟨hk, hy⟩ := hT
  rcases Nat.lt_or_ge k 4 with h4 | h4
  ·have c := AaF y (by rw [hy]; exact Js k hu)
   repeat' (first | refine Ai ?_ | (refine As ?_; first | refine cz (c) ?_) | refine Ah ?_ | refine nc ?_ ?_ | (with_reducible intro _ <;> (try (exfalso; omega))) | refine Aa ?_ | (refine nd ?_ ?_ <;> intro hg <;> first | exact xo hg | rw [hg]))
   refine AP (k + 1, AO y) ⟨by simp only; omega, by simp only; rw [AbB, hy]⟩ (by simp only; omega) (AE)
  ·obtain rfl : k = 4 := by omega
   subst hy
   repeat' (first | refine Ai ?_ | refine Ah ?_ | refine nc ?_ ?_ | (with_reducible intro _ <;> (try (exfalso; omega))) | refine Aa ?_ | (refine nd ?_ ?_ <;> intro hg <;> first | exact xo hg | rw [hg]))
   have key := Abv hf
   have hs : i = 0 ∨ i = 1 ∨ i = 2 ∨ i = 3 ∨ i = 4 ∨ i = 5 ∨ i = 6 ∨ i = 7 ∨ i = 8 ∨ i = 9 ∨ i = 10 ∨ i = 11 ∨ i = 12 ∨ i = 13 ∨ i = 14 ∨ i = 15 := by omega
   clear hf hu hk h4
   generalize D4 4 i = y at *
   rcases hs with rfl | rfl | rfl | rfl | rfl | rfl | rfl | rfl | rfl | rfl | rfl | rfl | rfl | rfl | rfl | rfl
   all_goals
    repeat' (first | refine Ai ?_ | refine Ah ?_ | refine nc ?_ ?_ | (with_reducible intro _ <;> (try (exfalso; omega))) | refine Aa ?_ | (refine nd ?_ ?_ <;> intro hg <;> first | exact xo hg | rw [hg]))
    refine AP (_, upF f _ y) ⟨by simp only; omega, key⟩ (by simp only; omega) (AE)
 ·obtain rfl : i = 16 := by omega
  have e : atE f = atE (D4 4) := by simp only [atE, hf _ (show 0 < 16 by omega), hf _ (show 1 < 16 by omega), hf _ (show 2 < 16 by omega), hf _ (show 3 < 16 by omega), hf _ (show 4 < 16 by omega), hf _ (show 5 < 16 by omega), hf _ (show 6 < 16 by omega), hf _ (show 7 < 16 by omega), hf _ (show 8 < 16 by omega), hf _ (show 9 < 16 by omega), hf _ (show 10 < 16 by omega), hf _ (show 11 < 16 by omega), hf _ (show 12 < 16 by omega), hf _ (show 13 < 16 by omega), hf _ (show 14 < 16 by omega), hf _ (show 15 < 16 by omega)]
  rw [e]
  repeat' (first | refine Ai ?_ | refine Ah ?_ | refine nc ?_ ?_ | (with_reducible intro _ <;> (try (exfalso; omega))) | refine Aa ?_ | (refine nd ?_ ?_ <;> intro hg <;> first | exact xo hg | rw [hg]))
  exact ⟨rfl, rfl, rfl⟩
theorem Adx (z : Bool) (n : Nat) (hn : n < 16) : Dk Tryz.prog 205 1 [.ptr 0 0, .d (En n)] [.c 0 0 (Zw z)] 1 (.ret (.d (En (D4 4 n : Nat)))) [.c 0 0 (Zw true)] 1 := by
 have hs : n = 0 ∨ n = 1 ∨ n = 2 ∨ n = 3 ∨ n = 4 ∨ n = 5 ∨ n = 6 ∨ n = 7 ∨ n = 8 ∨ n = 9 ∨ n = 10 ∨ n = 11 ∨ n = 12 ∨ n = 13 ∨ n = 14 ∨ n = 15 := by omega
 cases z
 ·refine AH fun B M => ?_
  repeat' (first | refine Ai ?_ | (refine As ?_; first | refine BI (hc := XE rfl rfl (AcC _) rfl rfl ?_)) | refine Ah ?_ | refine nc ?_ ?_ | (with_reducible intro _ <;> (try (exfalso; omega))) | refine Aa ?_ | (refine nd ?_ ?_ <;> intro hg <;> first | exact xo hg | rw [hg]))
  clear hn
  rcases hs with rfl | rfl | rfl | rfl | rfl | rfl | rfl | rfl | rfl | rfl | rfl | rfl | rfl | rfl | rfl | rfl
  all_goals repeat' (first | refine Ai ?_ | refine Ah ?_ | refine nc ?_ ?_ | (with_reducible intro _ <;> (try (exfalso; omega))) | refine Aa ?_ | (refine nd ?_ ?_ <;> intro hg <;> first | exact xo hg | rw [hg]))
  all_goals exact A8 []
 ·refine AH fun B M => ?_
  repeat' (first | refine Ai ?_ | (refine As ?_; first | refine BI (hc := XD rfl ?_)) | refine Ah ?_ | refine nc ?_ ?_ | (with_reducible intro _ <;> (try (exfalso; omega))) | refine Aa ?_ | (refine nd ?_ ?_ <;> intro hg <;> first | exact xo hg | rw [hg]))
  clear hn
  rcases hs with rfl | rfl | rfl | rfl | rfl | rfl | rfl | rfl | rfl | rfl | rfl | rfl | rfl | rfl | rfl | rfl
  all_goals repeat' (first | refine Ai ?_ | refine Ah ?_ | refine nc ?_ ?_ | (with_reducible intro _ <;> (try (exfalso; omega))) | refine Aa ?_ | (refine nd ?_ ?_ <;> intro hg <;> first | exact xo hg | rw [hg]))
  all_goals exact A8 []
theorem Aby (r : Nat) (_ : Jm r) : D4 4 r = r / 2 ^ 4 ^^^ D4 4 (r % 2 ^ 4) := by
 have e : r = r % 2 ^ 4 ^^^ 2 ^ 4 * (r / 2 ^ 4) := by
  rw [← LY _ _ _ (Nat.mod_lt _ (by decide)), Nat.mod_add_div]
 conv => lhs; rw [e]
 rw [HM, IN, Nat.xor_comm]
theorem AaE (z : Bool) (r : Nat) (x : UInt8) (hr : Jm r) : Dk Tryz.prog 159 2 [.ptr 0 0, .d (.lit (vb x))] [.c 1 0 (Zw z), .c 0 0 [.ptr 1 0, Bk (r : Nat)]] 2 (.ret (.tup [])) [.c 1 0 (Zw true), .c 0 0 [.ptr 1 0, Bk (YZ r x : Nat)]] 2 := by
 have hx := x.toNat_lt
 have i1 := Ol hr
 have i2 : Ky .u32 x.toNat := Ol (by simp only [Jm]; omega)
 have hr0 : Jm (r ^^^ x.toNat) := Nat.xor_lt_two_pow (n := 32) hr i2.2
 have e2 : YZ r x = D4 8 (r ^^^ x.toNat) := rfl
 rw [e2]
 simp only [vb]
 refine AH fun B M => ?_
 repeat' (first | refine S0 ?_ | refine Ai ?_ | refine Ah ?_ | refine nc ?_ ?_ | (with_reducible intro _ <;> (try (exfalso; omega))) | refine Aa ?_ | (refine nd ?_ ?_ <;> intro hg <;> first | exact xo hg | rw [hg]))
 generalize r ^^^ x.toNat = r0 at *
 refine BP (fun s : Nat × Bool × Nat => ⟨[(13, I .i64 s.1), (0, .ptr 0 0)], [.c 1 0 (Zw s.2.1), .c 0 0 [.ptr 1 0, Bk (s.2.2 : Nat)]], 2⟩) (fun s => s.1 ≤ 2 ∧ Jm s.2.2 ∧ D4 (4 * (2 - s.1)) s.2.2 = D4 8 r0 ∧ (s.1 = 0 ∨ s.2.1 = true)) (fun s => 2 - s.1) (0, z, r0) (by cases z <;> exact (AE)) ⟨by simp only; omega, hr0, rfl, .inl rfl⟩ fun ⟨i, z, r⟩ hT => ?_
 simp only at hT ⊢
 obtain ⟨hi, hr, he, hz⟩ := hT
 rcases Nat.lt_or_ge i 2 with h | h
 ·have j1 := Ol hr
  have c := Adx z (r % 2 ^ 4) (Nat.mod_lt _ (by decide))
  have ht := Aby r hr
  have hl1 : Jm (r / 2 ^ 4) := Nat.lt_of_le_of_lt (Nat.div_le_self _ _) hr
  have hl2 : Jm (D4 4 (r % 2 ^ 4)) := Js 4 (Nat.lt_of_le_of_lt (Nat.mod_le _ _) hr)
  have hnx : D4 (4 * (2 - (i + 1))) (D4 4 r) = D4 8 r0 := by rw [← HN, ← he]; congr 1; omega
  have hl3 := Js 4 hr
  have j2 := Ol hl1
  have j3 := Ol hl2
  rw [ht] at hnx hl3
  cases z
  all_goals
   repeat' (first | refine D5 (by kernel_rfl) ?_ | refine Ai ?_ | refine Ah ?_ | refine nc ?_ ?_ | (with_reducible intro _ <;> (try (exfalso; omega))) | refine Aa ?_ | (refine nd ?_ ?_ <;> intro hg <;> first | exact xo hg | rw [hg]))
   repeat' (first | refine DO ?_ (h := fun _ _ => YB rfl rfl rfl rfl rfl) | refine DO ?_ (h := fun _ _ => UQ 4 rfl rfl rfl rfl j1 ⟨by decide, by decide⟩) | refine DO ?_ | refine CJ ?_)
   refine KL (v := ?_) (st' := ?_) (nb' := ?_) (fun tmX => ?_) ?_ ?_
   rotate_left 3
   ·repeat' (first | refine Ai ?_ | (refine As ?_; first | refine Am [(1, none)] c ?_) | refine Ah ?_ | refine nc ?_ ?_ | (with_reducible intro _ <;> (try (exfalso; omega))) | refine Aa ?_ | (refine nd ?_ ?_ <;> intro hg <;> first | exact xo hg | rw [hg]))
    exact Db
   ·repeat' (first | refine DO ?_ (h := fun _ _ => YA rfl rfl rfl rfl j2 j3) | refine DO ?_)
    refine Abo (st' := ?_) (nb' := ?_) (fun tmX => ?_) ?_ ?_
    rotate_left 2
    ·repeat' (first | refine Ai ?_ | refine Ah ?_ | refine nc ?_ ?_ | (with_reducible intro _ <;> (try (exfalso; omega))) | refine Aa ?_ | (refine nd ?_ ?_ <;> intro hg <;> first | exact xo hg | rw [hg]))
     exact OW
    ·refine Bc ?_
     repeat' (first | refine Ai ?_ | refine Ah ?_ | refine nc ?_ ?_ | (with_reducible intro _ <;> (try (exfalso; omega))) | refine Aa ?_ | (refine nd ?_ ?_ <;> intro hg <;> first | exact xo hg | rw [hg]))
     refine AP (i + 1, true, _) ⟨by simp only; omega, hl3, hnx, .inr rfl⟩ (by simp only; omega) (AE)
    ·repeat' (first | exact trivial | exact rfl | refine ⟨?_, ?_⟩)
   ·repeat' (first | exact trivial | exact rfl | refine ⟨?_, ?_⟩)
 ·obtain rfl : i = 2 := by omega
  obtain rfl : z = true := by simpa using hz
  have he2 : r = D4 8 r0 := he
  rw [← he2]
  repeat' (first | refine Ai ?_ | refine Ah ?_ | refine nc ?_ ?_ | (with_reducible intro _ <;> (try (exfalso; omega))) | refine Aa ?_ | (refine nd ?_ ?_ <;> intro hg <;> first | exact xo hg | rw [hg]))
  exact A8 []

set_option maxRecDepth 20000
theorem Ot {B nb k : Nat} {g : G} {w : World} {st : List E} (hS : AC B g w st) {b : Nat} (hb : g.bx k = some b) : ∀ {us : List Value} {off : Nat}, AM k off st us.length = some (us.map fun u => .d (.lit u)) → Gs w (some ⟨b, off, none⟩) us
 | [], _, _ => fun j u hj => by simp at hj
 | u0 :: us, off, h => fun j u hj => by
  simp only [List.length_cons, AM, List.map_cons] at h
  split at h
  ·cases h
  ·rename_i x hx
   split at h
   ·cases h
   ·rename_i ys hy
    simp only [Option.some.injEq, List.cons.injEq] at h
    obtain ⟨rfl, rfl⟩ := h
    cases j with
    | zero =>
     simp only [List.getElem?_cons_zero, Option.some.injEq] at hj
     subst hj
     obtain ⟨b', v, e1, e2, e3, e4⟩ := F0 hS hx
     rw [hb] at e1; cases e1
     simp only [vrep, drep] at e4
     subst e4
     exact ⟨b, off, rfl, by simpa using e2⟩
    | succ j =>
     simp only [List.getElem?_cons_succ] at hj
     obtain ⟨b', o', e1, e2⟩ := Ot (nb := nb) hS hb hy j u hj
     cases e1
     exact ⟨b, off, rfl, by rw [show off + (j + 1) = off + 1 + j by omega]; exact e2⟩
theorem J0 {B : Nat} {U : Nat → Prop} {w : World} : ∀ (us : List Value), drepss B U w (us.map fun u => [.lit u]) us
 | [] => by simp only [List.map_nil, drepss]
 | u :: us => by simp only [List.map_cons, drepss]; exact ⟨[u], us, rfl, by simp only [dreps, drep]; exact ⟨u, [], rfl, rfl, rfl⟩, J0 us⟩
section
variable {P : Program} {cx : Cx} {s : St}
theorem WL {t ty e : TypeId} {x y : Operand} {k ver by_ : Nat} {l : List (List D)} {nw : Bool} {kk off n c : Nat} {us : List Value} [hE : EQ P t e 1 by_] (hx : Af s x = some (.row k ver)) (hr : Az k s.st = some (true, nw, ver, e, 1, l)) (hy : Af s y = some (.sv kk off n c 1)) (hc : AM kk off s.st us.length = some (us.map fun u => .d (.lit u))) (hn : us.length = n) (h1 : ∀ u ∈ us, u.oneCell' = true)
  (hb : (l.length + us.length) * by_ ≤ 140737488355328) (h0 : 0 < by_) : Y4 P cx (.call { callee := .builtin .append, args := #[x, y], argTypes := #[t, t] }) ty s (.row k (ver + 1)) (.r true nw k (ver + 1) e 1 (l ++ us.map fun u => [.lit u]) :: s.st) s.nb := fun g a w hS => by
 have hx' := hS.eval hx
 simp only [vrep] at hx'
 have hy' := hS.eval hy
 simp only [vrep] at hy'
 obtain ⟨b1, y1, y2, y3, y4⟩ := hy'
 obtain ⟨v, xs, r1, r2, r3, r4, r5⟩ := hS.st.row hr
 rw [hx'.1] at r1; cases r1
 rcases r5 with ⟨_, r5, r6⟩ | ⟨h, _⟩
 ·have s1 : Df w (a.eval y) us.length us := ⟨some ⟨b1, off, none⟩, c, by rw [y2, hn], by omega, y4, (fun h => by cases h), Ot (nb := s.nb) hS.st y1 hc⟩
  have s2 : ∀ {U : Nat → Prop} {w : World}, drepss cx.B U w (us.map fun u => [.lit u]) us := J0 us
  have hml : l.length + us.length ≤ maxLen := by
   have := Nat.le_mul_of_pos_right (l.length + us.length) h0
   unfold maxLen; omega
  obtain ⟨v', w', hrun, h1', h2, h3⟩ := E4 (ty := ty) hE.elem r5 s1 (by simp) h1 hml hb
  have hold : ∀ b, b < w.heap.size → g.prot b → (g.prot b ∧ some b ≠ v'.ownBlock) ∧ w'.heap[b]? = w.heap[b]? := fun b hb' hp => by
   refine ⟨⟨hp, fun he => ?_⟩, h2.block b hb' fun he => hp (.inr (.inr ⟨k, r6.trans he.symm⟩))⟩
   rcases h3 b he.symm with h | h
   ·exact hp (.inr (.inr ⟨k, r6.trans h⟩))
   ·omega
  obtain ⟨m1, m2, m3, m4⟩ := He hS.inv hS.st hr hx'.1 r6 h2 (Fs (AL (Nat.le_refl _) hold r2) (s2 (w := w')))
   ⟨fun x hx => (List.mem_append.1 hx).elim (r3.1 x) (fun h => by obtain ⟨u, _, rfl⟩ := List.mem_map.1 h; rfl), fun u hu => (List.mem_append.1 hu).elim (r3.2.1 u) (h1 u)⟩ (by rw [List.length_append, List.length_map]; exact h1') h3 (.inr rfl)
  exact ⟨v', _, w', EK hrun, m1, m2, m3, m4⟩
 ·cases h
end
section
variable {P : Program} {cx : Cx} {tm : List (Nat × V)} {st : List E} {nb : Nat} {Q : VE → St → Prop} {ops rest : List Oper}
def O2 : List V → Option (List Value)
 | [] => some []
 | .d (.lit u) :: l => (O2 l).map (u :: ·)
 | _ => none
theorem O1 : ∀ {l : List V} {us : List Value}, O2 l = some us → l = us.map fun u => .d (.lit u)
 | [], us, h => by simp only [O2, Option.some.injEq] at h; subst h; rfl
 | .d (.lit u) :: l, us, h => by
  simp only [O2, Option.map_eq_some_iff] at h
  obtain ⟨r, h, rfl⟩ := h
  rw [O1 h]; rfl
theorem S8 {d : Tmp} {t ty e : TypeId} {x y : Operand} {k ver by_ : Nat} {l : List (List D)} {nw : Bool} {kk off n c : Nat} {us : List Value} {vs : List V} {pos : String} {af : Array Edge} {gd : Option (Nat × Bool)} [hE : EQ P t e 1 by_]
  (kq : VL P cx ops rest ⟨(d, .row k (ver + 1)) :: tm, .r true nw k (ver + 1) e 1 (l ++ us.map fun u => [.lit u]) :: st, nb⟩ Q)
  (hx : Af ⟨tm, st, nb⟩ x = some (.row k ver) := by rfl) (hr : Az k st = some (true, nw, ver, e, 1, l) := by rfl) (hy : Af ⟨tm, st, nb⟩ y = some (.sv kk off n c 1) := by rfl) (hc : AM kk off st n = some vs := by rfl) (hu : O2 vs = some us := by rfl) (hn : us.length = n := by rfl) (h1 : us.all (·.oneCell') = true := by rfl)
  (hb : (l.length + us.length) * by_ ≤ 140737488355328 := by first | omega | (simp; omega)) (h0 : 0 < by_ := by decide) (hd : Nat.blt d cx.N = true := by rfl) (hw : Wd ops tm gd := by first | exact trivial | exact A1 rfl rfl (by with_reducible rfl)) :
  VL P cx ops (⟨some d, .call { callee := .builtin .append, args := #[x, y], argTypes := #[t, t] }, ty, pos, af, gd⟩ :: rest) ⟨tm, st, nb⟩ Q :=
 H7 kq (Zx (h := WL hx hr hy (by rw [hn, hc, O1 hu]) hn (fun u h => List.all_eq_true.1 h1 u h) hb h0) (hd := hd) (hw := hw))
end

set_option maxRecDepth 10000
theorem AaP (r : Nat) (b : List UInt8) (x : UInt8) : Jj r (b ++ [x]) = YZ (Jj r b) x := by simp [Jj]
theorem TN (b : List UInt8) (hb : b.length ≤ 1000000) : VP Tryz.prog 64 [.sl false false [[BD b]]] (· = .ret (En (Fb b : Nat))) := by
 have hbl := Av b
 have j0 := Ol (n := 0) (by decide)
 refine Al fun B => ?_
 repeat' (first | refine S6 ?_ | refine Ai ?_ | (refine As ?_; first | refine Ae 105 fun _ => ?_ | refine Ae 158 fun _ => ?_ | refine Ae 160 fun _ => ?_) | refine Ah ?_ | refine nc ?_ ?_ | (with_reducible intro _ <;> (try (exfalso; omega))) | refine Aa ?_ | (refine nd ?_ ?_ <;> intro hg <;> first | exact xo hg | rw [hg]))
 refine G6 fun R T hOk => ?_
 refine CI fun M2 => ?_
 repeat' (first | refine Ai ?_ | refine Ah ?_ | refine nc ?_ ?_ | (with_reducible intro _ <;> (try (exfalso; omega))) | refine Aa ?_ | (refine nd ?_ ?_ <;> intro hg <;> first | exact xo hg | rw [hg]))
 refine AB 2 ?_
 repeat' (first | refine Ai ?_ | refine Ah ?_ | refine nc ?_ ?_ | (with_reducible intro _ <;> (try (exfalso; omega))) | refine Aa ?_ | (refine nd ?_ ?_ <;> intro hg <;> first | exact xo hg | rw [hg]))
 refine Bo 13 b (fun x => [.lit (vb x)]) (fun (i : Nat) (z : Bool × Nat) => ⟨[(15, I .i64 i), (14, I .i64 (AG b).length), (13, .d (BD b)), (9, I .i64 0), (8, I .i64 1), (7, .d (.sl false false [[BD b]])), (0, .yl 4), (1, .ptr 3 0)],
   [.y 4 (some R) T [(24, .yl 4), (6, .ptr 2 0), (5, .ptr 1 0)], .c 3 0 [.d (.sl false false [[BD b]])], .c 2 0 [.fn (.func 159) [.ptr 1 0] []], .c 1 0 [.ptr 0 0, Bk (z.2 : Nat)], .c 0 0 (Zw z.1)], 5⟩) (fun i z => Jm z.2 ∧ z.2 = Jj cF (b.take i)) (false, 2 ^ Wg .u32 - 1 - 0) (AE) ⟨by decide, rfl⟩ (fun i y x hT hi hx hx' hlt hlm hlen hdr => ?_) (fun y hT hlt hlm => ?_)
 ·obtain ⟨z, r⟩ := y
  obtain ⟨hr, hrb⟩ := hT
  simp only at hr hrb ⊢
  have htk : b.take (i + 1) = b.take i ++ [x] := by rw [List.take_add_one, hx]; rfl
  have hnx : YZ r x = Jj cF (b.take (i + 1)) := by rw [htk, AaP, ← hrb]
  have hnr : Jm (YZ r x) := by rw [hnx]; exact NY _ (by decide)
  have c := AaE z r x hr
  generalize YZ r x = r' at *
  simp only [vb] at hx' c
  cases z
  all_goals
   repeat' (first | refine Ai ?_ | (refine As ?_; first | refine AT (by assumption) fun _ _ => ?_ | refine Am [(1, none), (0, none)] c ?_) | refine Ah ?_ | refine nc ?_ ?_ | (with_reducible intro _ <;> (try (exfalso; omega))) | refine Aa ?_ | (refine nd ?_ ?_ <;> intro hg <;> first | exact xo hg | rw [hg]))
   refine Bd (true, r') hi ⟨hnr, hnx⟩ (AE)
 ·obtain ⟨z, r⟩ := y
  obtain ⟨hr, hrb⟩ := hT
  simp only at hr hrb ⊢
  have j1 := Ol hr
  repeat' (first | refine S6 ?_ | refine Ai ?_ | refine Ah ?_ | refine nc ?_ ?_ | (with_reducible intro _ <;> (try (exfalso; omega))) | refine Aa ?_ | (refine nd ?_ ?_ <;> intro hg <;> first | exact xo hg | rw [hg]))
  rw [hrb, List.take_of_length_le (Nat.le_refl _)]; rfl
 ·rename_i h; exact absurd (by simp) h
theorem RH (w : Nat) (hw : Jm w) : VP Tryz.prog 63 [En w] (· = .ret (.agg [.lit (vb (UInt8.ofNat w)), .lit (vb (UInt8.ofNat (w / 256))), .lit (vb (UInt8.ofNat (w / 65536))), .lit (vb (UInt8.ofNat (w / 16777216)))])) := by
 refine Al fun B => ?_
 repeat' (first | refine S2 ?_ | refine Ai ?_ | refine Ah ?_ | refine nc ?_ ?_ | (with_reducible intro _ <;> (try (exfalso; omega))) | refine Aa ?_ | (refine nd ?_ ?_ <;> intro hg <;> first | exact xo hg | rw [hg]))
 simp only [u8w, Nat.reducePow]
 rw [Ts (w / 16777216) (by simp only [Jm] at hw; omega)]
abbrev YV (w : Nat) : D := .agg [.lit (vb (UInt8.ofNat w)), .lit (vb (UInt8.ofNat (w / 256))), .lit (vb (UInt8.ofNat (w / 65536))), .lit (vb (UInt8.ofNat (w / 16777216)))]
theorem IP (b : List UInt8) (hb : b.length ≤ 1000000) : VP Tryz.prog 30 [BD b] (· = .own 5 1 (AG (Cu b))) := by
 have c1 := TN b hb
 have c2 := RH (Fb b) (NT b)
 have hbl := Av b
 have hf := VI (Fb b)
 unfold Cu
 rw [RQ, LN]
 generalize Fb b = s at *
 refine Al fun B => ?_
 repeat' (first | refine C7 ?_ | refine Oe ?_ | refine S8 ?_ | refine Ai ?_ | (refine As ?_; first | refine cz (c1) ?_ | refine cz (c2) ?_) | refine Ah ?_ | refine nc ?_ ?_ | (with_reducible intro _ <;> (try (exfalso; omega))) | refine Aa ?_ | (refine nd ?_ ?_ <;> intro hg <;> first | exact xo hg | rw [hg]))
 all_goals rfl
theorem U1 (b : List UInt8) (h : b.length < 4) : VP Tryz.prog 29 [BD b] (· = .ret (.tup [.sl false true (AG []), An 120])) := by
 have hbl := Av b
 refine VP.le ?_
 refine Al fun B => ?_
 repeat' (first | refine Ai ?_ | refine Ah ?_ | refine nc ?_ ?_ | (with_reducible intro _ <;> (try (exfalso; omega))) | refine Aa ?_ | (refine nd ?_ ?_ <;> intro hg <;> first | exact xo hg | rw [hg]))
 all_goals (simp only [Cm, AG, List.map_nil]; infer_instance)
theorem Xz (b : List UInt8) (hb : b.length ≤ 1000000) : VP Tryz.prog 29 [BD b] (· = .ret (.tup [.sl false true (AG ((C3 b).getD [])), An (if (C3 b).isSome then 0 else 120)])) := by
  rcases Nat.lt_or_ge b.length 4 with h4 | h4
  · rw [show C3 b = none by unfold C3; rw [if_pos h4]]; exact U1 b h4
  · obtain ⟨hd, x0, x1, x2, x3, hbe, hhd, hdr⟩ := YL h4
    have ho : C3 b = if [x0, x1, x2, x3] = JH (Fb hd) then some hd else none := by unfold C3; rw [if_neg (by omega), hdr, ← hhd]
    rw [ho]
    have hbl := Av b
    have hlen : b.length = hd.length + 4 := by rw [hbe]; simp
    have hcut : CP none (some (((AG b).length : Int) - 4)) (AG b) = AG hd := by
      rw [show ((AG b).length : Int) - 4 = ((b.length - 4 : Nat) : Int) by omega, Pk, ← hhd]
    have hcut2 : CP (some (((AG b).length : Int) - 4)) none (AG b) = AG [x0, x1, x2, x3] := by
      rw [show ((AG b).length : Int) - 4 = ((b.length - 4 : Nat) : Int) by omega, AaN, hdr]
    have hdl : hd.length ≤ 1000000 := by omega
    have c1 := TN hd hdl
    have c2 := RH (Fb hd) (NT hd)
    have hhl := Av hd
    obtain ⟨y0, y1, y2, y3, hf⟩ : ∃ y0 y1 y2 y3, JH (Fb hd) = [y0, y1, y2, y3] := ⟨_, _, _, _, rfl⟩
    have hfd : YV (Fb hd) = .agg [.lit (vb y0), .lit (vb y1), .lit (vb y2), .lit (vb y3)] := by
      have := LN (Fb hd)
      rw [hf] at this
      simp only [AG, List.map_cons, List.map_nil, List.cons.injEq, and_true, D.lit.injEq] at this
      simp only [YV, this]
    rw [hf]
    rw [show (D.agg [.lit (vb (UInt8.ofNat (Fb hd))), .lit (vb (UInt8.ofNat (Fb hd / 256))), .lit (vb (UInt8.ofNat (Fb hd / 65536))), .lit (vb (UInt8.ofNat (Fb hd / 16777216)))]) = _ from hfd] at c2
    clear hfd hf
    generalize Fb hd = s at *
    refine VP.le ?_
    refine Al fun B => ?_
    obtain ⟨ys, hyl, hys, g0, g1, g2, g3⟩ : ∃ ys : List (List D), ys.length = 4 ∧ AG [x0, x1, x2, x3] = ys ∧ ys[(0 : Int).toNat]? = some [.lit (vb x0)] ∧ ys[((0 : Int) + 1).toNat]? = some [.lit (vb x1)] ∧ ys[((0 : Int) + 1 + 1).toNat]? = some [.lit (vb x2)] ∧ ys[((0 : Int) + 1 + 1 + 1).toNat]? = some [.lit (vb x3)] := ⟨_, rfl, rfl, rfl, rfl, rfl, rfl⟩
    rw [hys] at hcut2
    repeat' (first | rw [hcut] | rw [hcut2] | refine C7 ?_ | refine Ha ?_ | refine Ai ?_ | (refine As ?_; first | refine cz (c1) ?_ | refine cz (c2) ?_ | refine Ae 16 fun _ => ?_ | refine Bl ?_ | refine Of ?_) | refine Ah ?_ | refine nc ?_ ?_ | (with_reducible intro _ <;> (try (exfalso; omega))) | refine Aa ?_ | (refine nd ?_ ?_ <;> intro hg <;> first | exact xo hg | rw [hg]))
    refine AB 5 ?_
    repeat' (first | rw [hcut] | refine WC ?_ (h := fun _ => Rg rfl rfl (by omega) (by omega)) | refine Ai ?_ | refine Ah ?_ | refine nc ?_ ?_ | (with_reducible intro _ <;> (try (exfalso; omega))) | refine Aa ?_ | (refine nd ?_ ?_ <;> intro hg <;> first | exact xo hg | rw [hg]))
    all_goals first
      | (exfalso; omega)
      | (rename_i hne; rw [if_neg (fun h => hne (by simp only [List.cons.injEq, and_true] at h; obtain ⟨h0, h1, h2, h3⟩ := h; first | rw [h0] | rw [h1] | rw [h2] | rw [h3]))]; simp only [Cm, Option.getD_none, Option.isSome_none, Bool.false_eq_true, if_false, AG, List.map_nil]; infer_instance)
      | (rename_i q0 _ q1 _ q2 _ q3 _
         rw [if_pos (by rw [Ig q0, Ig q1, Ig q2, Ig q3])]
         exact A7 _)
      | trace_state

set_option maxRecDepth 20000
set_option maxRecDepth 10000
set_option maxHeartbeats 8000000
theorem ME (c : List UInt8) (hc : c.length ≤ 900000) : VM Tryz.prog 59 1 [.ptr 0 0] [.c 0 0 (A6 EH EH Fr.zero c)] 1 (Uj c) := by
 cases c with
 | nil => exact Si
 | cons k c => exact W7 k c (by simp at hc; omega)
theorem Uh {c : List UInt8} {f : Fr} (hc : c.length ≤ 900000) (h : G0 c = some f) : Dk Tryz.prog 59 1 [.ptr 0 0] [.c 0 0 (A6 EH EH Fr.zero c)] 1 (.ret (.tup [])) [.c 0 0 (A6 (Y3 f.bs) (YF f.os) f [])] 1 := VM.sub1 (VM.mono (ME c hc) fun _ _ _ k => k.1 f h)
theorem Ui {c : List UInt8} (hc : c.length ≤ 900000) (h : G0 c = none) : Dk Tryz.prog 59 1 [.ptr 0 0] [.c 0 0 (A6 EH EH Fr.zero c)] 1 (.panic (.d DM)) [.c 0 0 M8] 1 := VM.sub1 (VM.mono (ME c hc) fun _ _ _ k => k.2 h)
theorem U2 {b c : List UInt8} (h : C3 b = some c) : c.length ≤ b.length := by
 unfold C3 at h
 split at h
 ·cases h
 ·split at h
  ·cases h; rw [List.length_take]; omega
  ·cases h
theorem K6 (b : List UInt8) (hb : b.length ≤ 900000) : VP Tryz.prog 23 [BD b] (· = .ret (.tup [.agg (Mn (BG b).1), An (BG b).2])) := by
 have co := Xz b (by omega)
 refine VP.le ?_
 unfold BG
 cases ho : C3 b with
 | none =>
  rw [ho] at co
  simp only [Option.getD_none, Option.isSome_none, Bool.false_eq_true, if_false] at co
  refine Ta fun B => AN (fd := 58) Tryz.func23 rfl Tryz.ntmps23 Tryz.results23 fun M => ?_
  repeat' (first | (refine D5 (by kernel_rfl) ?_; repeat' (first | refine Bc ?_ | refine DO ?_ | refine CJ ?_ | refine BJ ?_ | refine CQ ?_)) | refine Ai ?_ | (refine As ?_; first | refine cz (co) ?_) | refine Ah ?_ | refine nc ?_ ?_ | (with_reducible intro _ <;> (try (exfalso; omega))) | refine Aa ?_ | (refine nd ?_ ?_ <;> intro hg <;> first | exact xo hg | rw [hg]) | refine AU Tryz.func58 rfl Tryz.ntmps58 Tryz.results58 ?_ | refine Jp ?_)
  all_goals (refine ⟨_, rfl, ?_⟩; simp only [Cm, Mn, Dn, Fr.zero, Vc.zero, AG, List.map_nil]; first | exact A7 _ | infer_instance | trace_state)
 | some c =>
  have hc := U2 ho
  rw [ho] at co
  simp only [Option.getD_some, Option.isSome_some, if_true] at co
  cases hr : G0 c with
  | none =>
   have c1 := Ui (by omega) hr
   simp only [A6, Do, List.map_cons, List.map_nil, List.cons_append, List.nil_append] at c1
   refine Ta fun B => AN (fd := 58) Tryz.func23 rfl Tryz.ntmps23 Tryz.results23 fun M => ?_
   repeat' (first | (refine D5 (by kernel_rfl) ?_; repeat' (first | refine Bc ?_ | refine DO ?_ | refine CJ ?_ | refine BJ ?_ | refine CQ ?_)) | refine Ai ?_ | (refine As ?_; first | refine cz (co) ?_ | refine Am [(2, none)] c1 ?_) | refine Ah ?_ | refine nc ?_ ?_ | (with_reducible intro _ <;> (try (exfalso; omega))) | refine Aa ?_ | (refine nd ?_ ?_ <;> intro hg <;> first | exact xo hg | rw [hg]) | refine AU Tryz.func58 rfl Tryz.ntmps58 Tryz.results58 ?_ | refine Jp ?_)
   all_goals (refine ⟨_, rfl, ?_⟩; simp only [Cm, Mn, Dn, Fr.zero, Vc.zero, AG, List.map_nil, hr]; first | exact A7 _ | infer_instance | trace_state)
  | some f =>
   have c1 := Uh (by omega) hr
   simp only [A6, Do, List.map_cons, List.map_nil, List.cons_append, List.nil_append] at c1
   refine Ta fun B => AN (fd := 58) Tryz.func23 rfl Tryz.ntmps23 Tryz.results23 fun M => ?_
   repeat' (first | (refine D5 (by kernel_rfl) ?_; repeat' (first | refine Bc ?_ | refine DO ?_ | refine CJ ?_ | refine BJ ?_ | refine CQ ?_)) | refine Ai ?_ | (refine As ?_; first | refine cz (co) ?_ | refine Am [(2, none)] c1 ?_) | refine Ah ?_ | refine nc ?_ ?_ | (with_reducible intro _ <;> (try (exfalso; omega))) | refine Aa ?_ | (refine nd ?_ ?_ <;> intro hg <;> first | exact xo hg | rw [hg]) | refine AU Tryz.func58 rfl Tryz.ntmps58 Tryz.results58 ?_ | refine Jp ?_)
   all_goals (refine ⟨_, rfl, ?_⟩; simp only [Cm, Mn, Dn, Y3, YF, AG, hr]; first | exact A7 _ | infer_instance | trace_state)

end Go.Proofs.YtbgcjnfhadhjeaaGreat