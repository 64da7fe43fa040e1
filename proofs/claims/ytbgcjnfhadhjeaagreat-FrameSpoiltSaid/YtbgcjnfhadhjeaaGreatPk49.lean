/- Walks by data and names, part 49: The document's sums of bytes, by V. The document's sealed bytes, by V. Bits of numbers without a sign, by V: xor, and, shifts to the right. -/
import Derived.Test.YtbgcjnfhadhjeaaGreatPk34
import Derived.Test.YtbgcjnfhadhjeaaGreatPk35
import Derived.Test.YtbgcjnfhadhjeaaGreatPk27
import Derived.Test.YtbgcjnfhadhjeaaGreatPk25
namespace Go.Proofs.YtbgcjnfhadhjeaaGreat
set_option maxRecDepth 20000
open Go.RowKit
set_option maxRecDepth 10000
set_option maxHeartbeats 4000000
abbrev Ee (n : Int) : D := .lit (.int .u32 n)
abbrev Jd (n : Nat) : Prop := n < 4294967296
theorem q32 (n : Nat) (h : Jd n) : IntKind.u32.wrap ((n : Int).tdiv 2) = ((n / 2 : Nat) : Int) := by
 rw [Int.tdiv_eq_ediv_of_nonneg (by omega), B9 (by simp only [Im]; omega)]; omega
theorem r32 (n : Nat) (h : Jd n) : IntKind.u32.wrap ((n : Int).tmod 2) = ((n % 2 : Nat) : Int) := by
 rw [Int.tmod_eq_emod_of_nonneg (by omega), B9 (by simp only [Im]; omega)]; omega
theorem m32 (n : Nat) (h : n ≤ 2147483648) : IntKind.u32.wrap (2 * (n : Int)) = ((2 * n % 4294967296 : Nat) : Int) := by
 rcases Nat.lt_or_ge n 2147483648 with h1 | h1
 ·rw [B9 (by simp only [Im]; omega)]; omega
 ·have : n = 2147483648 := by omega
  subst this; rfl
theorem q64 (n : Nat) (h : n ≤ 9223372036854775807) : IntKind.i64.wrap ((n : Int).tdiv 8) = ((n / 8 : Nat) : Int) := by
 rw [Int.tdiv_eq_ediv_of_nonneg (by omega), B9 (by simp only [Im]; omega)]; omega
theorem r64 (n : Nat) (h : n ≤ 9223372036854775807) : IntKind.i64.wrap ((n : Int).tmod 8) = ((n % 8 : Nat) : Int) := by
 rw [Int.tmod_eq_emod_of_nonneg (by omega), B9 (by simp only [Im]; omega)]; omega
theorem t2 (n : Nat) : (n : Int).tmod 2 = ((n % 2 : Nat) : Int) := by rw [Int.tmod_eq_emod_of_nonneg (by omega)]; omega
theorem Oy (n : Nat) (h : Jd n) : VP Tryz.prog 196 [Ee n] (· = .ret (Ee (4294967295 - n : Nat))) := by
 refine Am fun B => ?_
 repeat' (first | refine Al ?_ | refine Ak ?_ | refine nc ?_ ?_ | (with_reducible intro _ <;> (try (exfalso; omega))) | refine Ad ?_ | (refine nd ?_ ?_ <;> intro hg <;> first | exact xo hg | rw [hg]))
 all_goals (congr 3; omega)
theorem UV (i : Nat) (h : i < 32) : 2 ^ i ≤ 2147483648 ∧ 0 < 2 ^ i := ⟨Nat.pow_le_pow_right (n := 2) (by omega) (show i ≤ 31 by omega), Nat.pow_pos (by omega)⟩
theorem Wh (n i : Nat) : n % 2 ^ (i + 1) = n % 2 ^ i + 2 ^ i * (n / 2 ^ i % 2) := by rw [Nat.pow_succ, Nat.mod_mul]
theorem QH (n i : Nat) : n / 2 ^ (i + 1) = n / 2 ^ i / 2 := by rw [Nat.pow_succ, Nat.div_div_eq_div_mul]
theorem Wu (a b i : Nat) : (a ^^^ b) / 2 ^ i = a / 2 ^ i ^^^ b / 2 ^ i := by
 have := Nat.shiftRight_xor_distrib (a := a) (b := b) (i := i)
 simpa [Nat.shiftRight_eq_div_pow] using this
theorem AaN (a b : Nat) (ha : Jd a) (hb : Jd b) : VP Tryz.prog 259 [Ee a, Ee b] (· = .ret (Ee (a ^^^ b : Nat))) := by
 refine Am fun B => ?_
 repeat' (first | refine Al ?_ | refine Ak ?_ | refine nc ?_ ?_ | (with_reducible intro _ <;> (try (exfalso; omega))) | refine Ad ?_ | (refine nd ?_ ?_ <;> intro hg <;> first | exact xo hg | rw [hg]))
 refine BT (fun z : Nat × Nat × Nat × Nat × Nat => ⟨[(7, I .i64 z.1), (6, .d (Ee z.2.1)), (5, .d (Ee z.2.2.1)), (1, .d (Ee z.2.2.2.2)), (0, .d (Ee z.2.2.2.1))], [], 0⟩) (fun z => z.1 ≤ 32 ∧ z.2.1 = 2 ^ z.1 % 4294967296 ∧ z.2.2.1 = (a ^^^ b) % 2 ^ z.1 ∧ z.2.2.2.1 = a / 2 ^ z.1 ∧ z.2.2.2.2 = b / 2 ^ z.1) (fun z => 32 - z.1) (0, 1, 0, a, b) (AI) (by simp [Nat.mod_one]) fun ⟨i, p, o, x, y⟩ hT => ?_
 simp only at hT ⊢
 obtain ⟨hi, hp, ho, hx, hy⟩ := hT
 rcases Nat.lt_or_ge i 32 with h | h
 ·obtain ⟨p1, p2⟩ := UV i h
  have hp' : p = 2 ^ i := by rw [hp, Nat.mod_eq_of_lt (by omega)]
  have ho' : o < p := by rw [ho, hp']; exact Nat.mod_lt _ p2
  have hpl : p ≤ 2147483648 := by omega
  have hx' : Jd x := by rw [hx]; exact Nat.lt_of_le_of_lt (Nat.div_le_self _ _) ha
  have hy' : Jd y := by rw [hy]; exact Nat.lt_of_le_of_lt (Nat.div_le_self _ _) hb
  have e1 := r32 x hx'
  have e2 := r32 y hy'
  have e3 := q32 x hx'
  have e4 := q32 y hy'
  have e5 := m32 p hpl
  have hbit : (a ^^^ b) / 2 ^ i % 2 = (x % 2 + y % 2) % 2 := by rw [Wu, KI, ← hx, ← hy]
  have hup := Wh (a ^^^ b) i
  rw [hbit, ← ho, ← hp'] at hup
  have hnp : 2 * p % 4294967296 = 2 ^ (i + 1) % 4294967296 := by rw [hp', Nat.pow_succ, Nat.mul_comm]
  have hnx : x / 2 = a / 2 ^ (i + 1) := by rw [QH, hx]
  have hny : y / 2 = b / 2 ^ (i + 1) := by rw [QH, hy]
  clear hp hx hy ho hbit ha hb hp'
  repeat' (first | rw [e1] | rw [e2] | rw [e3] | rw [e4] | rw [e5] | refine Al ?_ | refine Ak ?_ | refine nc ?_ ?_ | (with_reducible intro _ <;> (try (exfalso; omega))) | refine Ad ?_ | (refine nd ?_ ?_ <;> intro hg <;> first | exact xo hg | rw [hg]))
  ·rename_i hne
   have hne' : x % 2 ≠ y % 2 := fun e => hne (by rw [t2, t2, e])
   refine AU (i + 1, 2 * p % 4294967296, o + p, x / 2, y / 2) ⟨by omega, hnp, ?_, hnx, hny⟩ (by simp only; omega) (AI)
   rw [hup, show (x % 2 + y % 2) % 2 = 1 by omega, Nat.mul_one]
  ·rename_i hne
   have hne' : x % 2 = y % 2 := by rw [t2, t2] at hne; omega
   refine AU (i + 1, 2 * p % 4294967296, o, x / 2, y / 2) ⟨by omega, hnp, ?_, hnx, hny⟩ (by simp only; omega) (AI)
   rw [hup, show (x % 2 + y % 2) % 2 = 0 by omega, Nat.mul_zero]; rfl
 ·have : i = 32 := by omega
  subst this
  repeat' (first | refine Al ?_ | refine Ak ?_ | refine nc ?_ ?_ | (with_reducible intro _ <;> (try (exfalso; omega))) | refine Ad ?_ | (refine nd ?_ ?_ <;> intro hg <;> first | exact xo hg | rw [hg]))
  rw [ho, Nat.mod_eq_of_lt (Nat.xor_lt_two_pow (n := 32) ha hb)]
theorem Yf (b : List UInt8) : ∀ (n : Nat), n < 8 * b.length → ∃ x, b[n / 8]? = some x ∧ x.toNat / 2 ^ (n % 8) % 2 = nB b / 2 ^ n % 2 := by
 induction b with
 | nil => intro n h; simp at h
 | cons y b ih =>
  intro n h
  rw [List.length_cons] at h
  rcases Nat.lt_or_ge n 8 with h8 | h8
  ·refine ⟨y, by rw [show n / 8 = 0 by omega]; rfl, ?_⟩
   rw [Nat.mod_eq_of_lt h8, nB]
   have : (y.toNat + 256 * nB b) / 2 ^ n = y.toNat / 2 ^ n + 2 ^ (8 - n) * nB b := by
    rw [show 256 * nB b = 2 ^ n * (2 ^ (8 - n) * nB b) by rw [← Nat.mul_assoc, ← Nat.pow_add, show n + (8 - n) = 8 by omega], Nat.add_mul_div_left _ _ (Nat.pow_pos (by omega))]
   rw [this, show 8 - n = (7 - n) + 1 by omega, Nat.pow_succ, Nat.mul_comm (2 ^ (7 - n)) 2, Nat.mul_assoc, Nat.add_mul_mod_self_left]
  ·obtain ⟨x, h1, h2⟩ := ih (n - 8) (by omega)
   refine ⟨x, by rw [show n / 8 = (n - 8) / 8 + 1 by omega]; simpa using h1, ?_⟩
   rw [show n % 8 = (n - 8) % 8 by omega, h2, nB]
   have hy := y.toNat_lt
   rw [show n = 8 + (n - 8) by omega, Nat.pow_add, ← Nat.div_div_eq_div_mul, show (y.toNat + 256 * nB b) / 2 ^ 8 = nB b by omega, show 8 + (n - 8) - 8 = n - 8 by omega]
theorem Acm (b : List UInt8) (n : Nat) (h : n < 8 * b.length) (hb : b.length ≤ 1000000) : VP Tryz.prog 228 [CV b, Ar n] (· = .ret (Ee (nB b / 2 ^ n % 2 : Nat))) := by
 obtain ⟨x, hx, hxe⟩ := Yf b n h
 have hbl := AA b
 have hidx : (AH b)[((n / 8 : Nat) : Int).toNat]? = some [.lit (vb x)] := by rw [Int.toNat_natCast, List.getElem?_map, hx]; rfl
 have hx8 := x.toNat_lt
 have e1 : (n : Int).tdiv 8 = ((n / 8 : Nat) : Int) := by rw [Int.tdiv_eq_ediv_of_nonneg (by omega)]; omega
 have e2 : (n : Int).tmod 8 = ((n % 8 : Nat) : Int) := by rw [Int.tmod_eq_emod_of_nonneg (by omega)]; omega
 have e3 := q64 n (by omega)
 have e4 := r64 n (by omega)
 refine Am fun B => ?_
 repeat' (first | rw [e3] | rw [e1] | rw [e4] | rw [e2] | refine Al ?_ | refine Ak ?_ | refine nc ?_ ?_ | (with_reducible intro _ <;> (try (exfalso; omega))) | refine Ad ?_ | (refine nd ?_ ?_ <;> intro hg <;> first | exact xo hg | rw [hg]))
 refine BT (fun z : Nat × Nat => ⟨[(14, I .i64 z.1), (13, I .i64 (n % 8 : Nat)), (5, .d (Ee z.2))], [], 0⟩) (fun z => z.1 ≤ n % 8 ∧ z.2 = x.toNat / 2 ^ z.1) (fun z => n % 8 - z.1) (0, x.toNat) (AI) (by simp) fun ⟨i, y⟩ hT => ?_
 simp only at hT ⊢
 obtain ⟨hi, hy⟩ := hT
 have hy' : y < 256 := by rw [hy]; exact Nat.lt_of_le_of_lt (Nat.div_le_self _ _) hx8
 have e5 := q32 y (by simp only [Jd]; omega)
 have e6 : (y : Int).tdiv 2 = ((y / 2 : Nat) : Int) := by rw [Int.tdiv_eq_ediv_of_nonneg (by omega)]; omega
 rcases Nat.lt_or_ge i (n % 8) with h1 | h1
 ·repeat' (first | rw [e5] | rw [e6] | refine Al ?_ | refine Ak ?_ | refine nc ?_ ?_ | (with_reducible intro _ <;> (try (exfalso; omega))) | refine Ad ?_ | (refine nd ?_ ?_ <;> intro hg <;> first | exact xo hg | rw [hg]))
  refine AU (i + 1, y / 2) ⟨by simp only; omega, by simp only; rw [hy, QH]⟩ (by simp only; omega) (AI)
 ·have : i = n % 8 := by omega
  have e7 := t2 y
  repeat' (first | rw [e7] | refine Al ?_ | refine Ak ?_ | refine nc ?_ ?_ | (with_reducible intro _ <;> (try (exfalso; omega))) | refine Ad ?_ | (refine nd ?_ ?_ <;> intro hg <;> first | exact xo hg | rw [hg]))
  rw [hy, this, hxe]
theorem Aal (r t : Nat) (hr : Jd r) (ht : t < 2) : VP Tryz.prog 227 [Ee r, Ee t] (· = .ret (Ee (AO (r ^^^ t) : Nat))) := by
 have hq : r / 2 < 4294967296 := by simp only [Jd] at hr; omega
 have c := AaN (r / 2) 3988292384 hq (by decide)
 rw [show ((3988292384 : Nat) : Int) = 3988292384 from rfl] at c
 have e1 := q32 r hr
 have e2 := t2 r
 have e3 : (r : Int).tdiv 2 = ((r / 2 : Nat) : Int) := by rw [Int.tdiv_eq_ediv_of_nonneg (by omega)]; omega
 have hm : (r ^^^ t) % 2 = (r % 2 + t % 2) % 2 := KI r t
 have hd : (r ^^^ t) / 2 = r / 2 := by rw [Oi, show t / 2 = 0 by omega, Nat.xor_zero]
 refine Am fun B => ?_
 repeat' (first | rw [e1] | rw [e2] | rw [e3] | refine Al ?_ | (refine Ay ?_; first | refine cz (c) ?_) | refine Ak ?_ | refine nc ?_ ?_ | (with_reducible intro _ <;> (try (exfalso; omega))) | refine Ad ?_ | (refine nd ?_ ?_ <;> intro hg <;> first | exact xo hg | rw [hg]))
 all_goals (simp only [AO, hd])
 ·rename_i hne
  rw [if_pos (by rw [hm]; omega)]; rfl
 ·rename_i hne
  rw [if_neg (by rw [hm]; omega)]
theorem L9 (lo i x : Nat) (h : lo < 2 ^ i) : lo + 2 ^ i * x = lo ^^^ 2 ^ i * x := by
 have h1 := Nat.two_pow_add_eq_or_of_lt (i := i) (b := lo) h x
 rw [Nat.add_comm, h1]
 apply Nat.eq_of_testBit_eq
 intro j
 rw [Nat.testBit_or, Nat.testBit_xor, Nat.testBit_two_pow_mul]
 by_cases hj : j < i
 ·have : ¬ i ≤ j := by omega
  simp [this]
 ·have : lo.testBit j = false := Nat.testBit_lt_two_pow (Nat.lt_of_lt_of_le h (Nat.pow_le_pow_right (by omega) (by omega)))
  simp [this]
theorem Zp (i r n : Nat) : DT (i + 1) (r ^^^ n % 2 ^ (i + 1)) = AO (DT i (r ^^^ n % 2 ^ i) ^^^ (n / 2 ^ i % 2)) := by
 rw [HC, Wh, L9 _ _ _ (Nat.mod_lt _ (Nat.pow_pos (by omega))), ← Nat.xor_assoc, HB i, IC]; rfl
theorem MI : ∀ (i n : Nat), n < 2 ^ i → DT i n < 4294967296
 | 0, n, h => by
  have : n = 0 := by simpa using h
  subst this; decide
 | i + 1, n, h => by
  have h2 : n = n % 2 ^ i + 2 ^ i * (n / 2 ^ i) := by rw [Nat.mod_add_div]
  have h3 : n / 2 ^ i < 2 := Nat.div_lt_of_lt_mul (by rw [Nat.pow_succ] at h; omega)
  have h4 : n % 2 ^ i < 2 ^ i := Nat.mod_lt _ (Nat.pow_pos (by omega))
  rw [HC, h2, L9 _ _ _ h4, HB, IC]
  exact TW (Nat.xor_lt_two_pow (n := 32) (MI i _ h4) (show n / 2 ^ i < 2 ^ 32 by omega))
theorem Ab3 (r : Nat) (hr : Jd r) (b : List UInt8) (hb : b.length ≤ 1000000) : VP Tryz.prog 197 [Ee r, CV b] (· = .ret (Ee (I8 r b : Nat))) := by
 have hbl := AA b
 have hnB := YC b
 refine Am fun B => ?_
 repeat' (first | refine Al ?_ | refine Ak ?_ | refine nc ?_ ?_ | (with_reducible intro _ <;> (try (exfalso; omega))) | refine Ad ?_ | (refine nd ?_ ?_ <;> intro hg <;> first | exact xo hg | rw [hg]))
 refine BT (fun z : Nat × Nat => ⟨[(9, I .i64 z.1), (8, I .i64 (8 * (AH b).length)), (1, .d (CV b)), (0, .d (Ee z.2))], [], 0⟩) (fun z => z.1 ≤ 8 * b.length ∧ z.2 = DT z.1 (r ^^^ nB b % 2 ^ z.1)) (fun z => 8 * b.length - z.1) (0, r) (AI) (by simp [DT, Nat.mod_one]) fun ⟨i, y⟩ hT => ?_
 simp only at hT ⊢
 obtain ⟨hi, hy⟩ := hT
 rcases Nat.lt_or_ge i (8 * b.length) with h1 | h1
 ·have hy' : Jd y := by
   have e : DT i (r ^^^ nB b % 2 ^ i) = DT i r ^^^ DT i (nB b % 2 ^ i) := HB _ _ _
   rw [hy, e]
   refine Nat.xor_lt_two_pow (n := 32) (Jj i hr) ?_
   exact MI i _ (Nat.mod_lt _ (Nat.pow_pos (by omega)))
  have c1 := Acm b i h1 hb
  have c2 := Aal y (nB b / 2 ^ i % 2) hy' (by omega)
  repeat' (first | refine Al ?_ | (refine Ay ?_; first | refine cz (c1) ?_ | refine cz (c2) ?_) | refine Ak ?_ | refine nc ?_ ?_ | (with_reducible intro _ <;> (try (exfalso; omega))) | refine Ad ?_ | (refine nd ?_ ?_ <;> intro hg <;> first | exact xo hg | rw [hg]))
  refine AU (i + 1, AO (y ^^^ nB b / 2 ^ i % 2)) ⟨by simp only; omega, by simp only; rw [hy, Zp]⟩ (by simp only; omega) (AI)
 ·have e : i = 8 * b.length := by omega
  repeat' (first | refine Al ?_ | refine Ak ?_ | refine nc ?_ ?_ | (with_reducible intro _ <;> (try (exfalso; omega))) | refine Ad ?_ | (refine nd ?_ ?_ <;> intro hg <;> first | exact xo hg | rw [hg]))
  rw [hy, e, R7, Nat.mod_eq_of_lt (by rw [← ZK]; exact hnB)]

set_option maxRecDepth 20000
set_option maxRecDepth 10000
theorem Zu (b : List UInt8) (hb : b.length ≤ 1000000) : VP Tryz.prog 94 [CV b] (· = .ret (Ee (E7 b : Nat))) := by
 have c1 := Oy 0 (by decide)
 have c2 := Ab3 4294967295 (by decide) b hb
 have c3 := Oy (I8 4294967295 b) (N9 b (by decide))
 rw [show ((0 : Nat) : Int) = 0 from rfl, show ((4294967295 - 0 : Nat) : Int) = ((4294967295 : Nat) : Int) from rfl] at c1
 unfold E7 cF
 generalize I8 4294967295 b = r at *
 refine Am fun B => ?_
 repeat' (first | refine Al ?_ | (refine Ay ?_; first | refine cz (c1) ?_ | refine cz (c2) ?_ | refine cz (c3) ?_ | refine Ae 150 fun _ => ?_) | refine Ak ?_ | refine nc ?_ ?_ | (with_reducible intro _ <;> (try (exfalso; omega))) | refine Ad ?_ | (refine nd ?_ ?_ <;> intro hg <;> first | exact xo hg | rw [hg]))
 all_goals rfl
theorem u8w (n : Nat) : Value.int .u8 (IntKind.u8.wrap (n : Int)) = vb (UInt8.ofNat n) := by
 rw [QS]
 simp [vb]
theorem u8m (n : Nat) : UInt8.ofNat (n % 256) = UInt8.ofNat n := UInt8.toNat_inj.1 (by rw [UInt8.toNat_ofNat', UInt8.toNat_ofNat', show 2 ^ 8 = 256 from rfl, Nat.mod_mod])
theorem LS (w : Nat) : AH (Km w) = [[.lit (vb (UInt8.ofNat w))], [.lit (vb (UInt8.ofNat (w / 256)))], [.lit (vb (UInt8.ofNat (w / 65536)))], [.lit (vb (UInt8.ofNat (w / 16777216)))]] := by
 simp only [Km, VG, AH, List.map_cons, List.map_nil, Nat.div_div_eq_div_mul, Nat.reduceMul]
theorem d32 (n k : Nat) (h : Jd n) (_ : 0 < k) : IntKind.u32.wrap ((n : Int).tdiv k) = ((n / k : Nat) : Int) := by
 have h1 := Nat.div_le_self n k
 have e : (n : Int).tdiv k = ((n / k : Nat) : Int) := by rw [Int.tdiv_eq_ediv_of_nonneg (by omega)]; exact (Int.natCast_ediv n k).symm
 rw [e]
 generalize n / k = q at *
 rw [B9 (by simp only [Im]; omega)]
theorem Ac6 (n : Nat) : (n : Int).tmod 256 = ((n % 256 : Nat) : Int) := by rw [Int.tmod_eq_emod_of_nonneg (by omega)]; omega
theorem W8 (w : Nat) (hw : Jd w) : VP Tryz.prog 93 [Ee w] (· = .own 5 1 (AH (Km w))) := by
 have e1 := d32 w 256 hw (by decide)
 have e2 := d32 w 65536 hw (by decide)
 have e3 := d32 w 16777216 hw (by decide)
 simp only [Int.cast_ofNat_Int] at e1 e2 e3
 refine Am fun B => ?_
 repeat' (first | refine Al ?_ | refine Ak ?_ | refine nc ?_ ?_ | (with_reducible intro _ <;> (try (exfalso; omega))) | refine Ad ?_ | (refine nd ?_ ?_ <;> intro hg <;> first | exact xo hg | rw [hg]))
 rw [e1, e2, e3]
 simp only [Ac6, u8w, u8m, LS, AT, Ou (w / 16777216) (by omega)]
theorem Pn (w : Nat) : (Km w).length = 4 := IT _ _
theorem W5 (b : List UInt8) (hb : b.length ≤ 1000000) : VP Tryz.prog 53 [CV b] (· = .own 5 1 (AH (AS b))) := by
 have c1 := Zu b hb
 have c2 := W8 (E7 b) (N7 b)
 have hbl := AA b
 have hf := Pn (E7 b)
 unfold AS
 rw [Dz]
 generalize Km (E7 b) = f at *
 generalize E7 b = s at *
 have hfl : (AH f).length = 4 := by rw [AA, hf]
 refine Am fun B => ?_
 repeat' (first | refine Al ?_ | (refine Ay ?_; first | refine cz (c1) ?_ | refine cz (c2) ?_) | refine Ak ?_ | refine nc ?_ ?_ | (with_reducible intro _ <;> (try (exfalso; omega))) | refine Ad ?_ | (refine nd ?_ ?_ <;> intro hg <;> first | exact xo hg | rw [hg]))
 all_goals rfl
theorem AbX {b : List UInt8} (h : 4 ≤ b.length) : ∃ hd x0 x1 x2 x3, b = hd ++ [x0, x1, x2, x3] ∧ hd = b.take (b.length - 4) ∧ b.drop (b.length - 4) = [x0, x1, x2, x3] := by
 have hl : (b.drop (b.length - 4)).length = 4 := by rw [List.length_drop]; omega
 match hd : b.drop (b.length - 4), hl with
 | [x0, x1, x2, x3], _ => exact ⟨b.take (b.length - 4), x0, x1, x2, x3, by rw [← hd, List.take_append_drop], rfl, rfl⟩

set_option maxRecDepth 20000
def Wp : IntKind → Nat
 | .u8 => 8
 | .u16 => 16
 | .u32 => 32
 | .u64 => 64
 | _ => 0
def Ke (k : IntKind) (a : Nat) : Prop := Wp k ≠ 0 ∧ a < 2 ^ Wp k
theorem MY {k : IntKind} {a : Nat} (h : Ke k a) : Im k (a : Int) ∧ (BitVec.ofInt k.bits (a : Int)).toNat = a := by
 obtain ⟨h0, h⟩ := h
 cases k <;> simp only [Wp, ne_eq, not_true_eq_false, not_false_eq_true, Nat.reducePow, Nat.reduceEqDiff] at h0 h
 all_goals (refine ⟨by simp only [Im]; omega, ?_⟩; rw [BitVec.ofInt_natCast, BitVec.toNat_ofNat]; exact Nat.mod_eq_of_lt h)
theorem QB {k : IntKind} {a b : Nat} (h : Ke k a) (hb : b < 2 ^ Wp k) : Ke k b := ⟨h.1, hb⟩
theorem T5 {P : Program} {w : World} {k : IntKind} {t : TypeId} {a b : Nat} (ha : Ke k a) (hb : Ke k b) : (binOp .xor t (.int k (a : Int)) (.int k (b : Int)) : Sem Value).run P w = .ok (.int k ((a ^^^ b : Nat) : Int)) w := by
 have h : Ke k (a ^^^ b) := QB ha (Nat.xor_lt_two_pow ha.2 hb.2)
 have e : (BitVec.ofInt k.bits (a : Int) ^^^ BitVec.ofInt k.bits (b : Int)).toNat = a ^^^ b := by rw [BitVec.toNat_xor, (MY ha).2, (MY hb).2]
 simp only [binOp, Op.intBits, ne_eq, not_true_eq_false, if_false, e, B9 (MY h).1, Sem.run_pure]
theorem T8 {P : Program} {w : World} {k : IntKind} {t : TypeId} {a b : Nat} (ha : Ke k a) (hb : Ke k b) : (binOp .and t (.int k (a : Int)) (.int k (b : Int)) : Sem Value).run P w = .ok (.int k ((a &&& b : Nat) : Int)) w := by
 have h : Ke k (a &&& b) := QB ha (Nat.lt_of_le_of_lt Nat.and_le_left ha.2)
 have e : (BitVec.ofInt k.bits (a : Int) &&& BitVec.ofInt k.bits (b : Int)).toNat = a &&& b := by rw [BitVec.toNat_and, (MY ha).2, (MY hb).2]
 simp only [binOp, Op.intBits, ne_eq, not_true_eq_false, if_false, e, B9 (MY h).1, Sem.run_pure]
theorem T6 {P : Program} {w : World} {k k2 : IntKind} {t : TypeId} {a b : Nat} (hb : b ≤ k.bits) : (binOp .shr t (.int k (a : Int)) (.int k2 (b : Int)) : Sem Value).run P w = .ok (.int k ((a / 2 ^ b : Nat) : Int)) w := by
 have e : ((a : Int)).fdiv (2 ^ b) = ((a / 2 ^ b : Nat) : Int) := by
  rw [Int.fdiv_eq_ediv_of_nonneg _ (by exact_mod_cast Nat.zero_le _)]
  exact_mod_cast (Int.natCast_ediv a (2 ^ b)).symm
 have h0 : ¬ ((b : Int) < 0) := by omega
 simp only [binOp, Op.shift, h0, if_false, Int.toNat_natCast, Nat.min_eq_left hb, e, Sem.run_pure]
theorem T7 {P : Program} {w : World} {k : IntKind} {a : Nat} (ha : Ke k a) : (Op.unary .xor (.int k (a : Int)) : Sem Value).run P w = .ok (.int k ((2 ^ Wp k - 1 - a : Nat) : Int)) w := by
 obtain ⟨h0, h⟩ := ha
 cases k <;> simp only [Wp, ne_eq, not_true_eq_false, not_false_eq_true, Nat.reducePow, Nat.reduceEqDiff] at h0 h
 all_goals
  have e : ∀ (n : Nat) (m : Int), m = ((2 ^ n - 1 : Nat) : Int) → a < 2 ^ n → (BitVec.ofInt n m ^^^ BitVec.ofInt n (a : Int)).toNat = 2 ^ n - 1 - a := fun n m hm hn => by
   have h1 : BitVec.ofNat n (2 ^ n - 1) = BitVec.allOnes n := by apply BitVec.eq_of_toNat_eq; rw [BitVec.toNat_ofNat, BitVec.toNat_allOnes, Nat.mod_eq_of_lt (Nat.sub_lt (Nat.pow_pos (by omega)) (by omega))]
   rw [hm, BitVec.ofInt_natCast, BitVec.ofInt_natCast, h1, BitVec.allOnes_xor, BitVec.toNat_not, BitVec.toNat_ofNat, Nat.mod_eq_of_lt hn]
  simp only [Op.unary, Op.intBits, IntKind.signed, Bool.false_eq_true, if_false, Sem.run_pure, Wp]
  rw [e _ _ (by rfl) h, B9 (by simp only [Im, IntKind.bits]; omega)]
  simp only [IntKind.bits]
section
variable {P : Program} {cx : Cx} {s : St}
theorem Od {op : BinOp} {t yt ty : TypeId} {x y : Operand} {k k' : IntKind} {a b : Int} {a' b' : Nat} {u : Value} (hx : Af s x = some (I k a)) (hy : Af s y = some (I k' b)) (h1 : a = (a' : Int)) (h2 : b = (b' : Int)) (hr : ∀ w, (binOp op t (.int k (a' : Int)) (.int k' (b' : Int)) : Sem Value).run P w = .ok u w) : Bn P cx (.binOp op t x y yt) ty s (.d (.lit u)) := by
 subst h1 h2; exact NL hx hy hr
theorem Yu {t yt ty : TypeId} {x y : Operand} {k : IntKind} {a b : Int} {a' b' : Nat} (hx : Af s x = some (I k a)) (hy : Af s y = some (I k b)) (h1 : a = (a' : Int)) (h2 : b = (b' : Int)) (ha : Ke k a') (hb : Ke k b') : Bn P cx (.binOp .xor t x y yt) ty s (I k ((a' ^^^ b' : Nat) : Int)) := Od hx hy h1 h2 fun _ => T5 ha hb
theorem US {t yt ty : TypeId} {x y : Operand} {k : IntKind} {a b : Int} {a' : Nat} (j : Nat) (hx : Af s x = some (I k a)) (hy : Af s y = some (I k b)) (h1 : a = (a' : Int)) (h2 : b = ((2 ^ j - 1 : Nat) : Int)) (ha : Ke k a') (hb : Ke k (2 ^ j - 1)) : Bn P cx (.binOp .and t x y yt) ty s (I k ((a' % 2 ^ j : Nat) : Int)) := by
 rw [← Nat.and_two_pow_sub_one_eq_mod]
 exact Od hx hy h1 h2 fun _ => T8 ha hb
theorem Yv {t yt ty : TypeId} {x y : Operand} {k k2 : IntKind} {a b : Int} {a' b' : Nat} (hx : Af s x = some (I k a)) (hy : Af s y = some (I k2 b)) (h1 : a = (a' : Int)) (h2 : b = (b' : Int)) (hb : Nat.ble b' k.bits = true) : Bn P cx (.binOp .shr t x y yt) ty s (I k ((a' / 2 ^ b' : Nat) : Int)) := Od hx hy h1 h2 fun _ => T6 (Nat.le_of_ble_eq_true hb)
theorem Abx {t ty : TypeId} {x : Operand} {k : IntKind} {a : Int} {a' : Nat} (hx : Af s x = some (I k a)) (h1 : a = (a' : Int)) (ha : Ke k a') : Bn P cx (.unOp .xor t x) ty s (I k ((2 ^ Wp k - 1 - a' : Nat) : Int)) := by subst h1; exact P2 hx fun _ => T7 ha
end
section
variable {P : Program} {cx : Cx} {tm : List (Nat × V)} {st : List E} {nb : Nat} {Q : VE → St → Prop} {ops rest : List Oper} {d : Tmp} {t yt ty : TypeId} {x y : Operand} {k k2 : IntKind} {a b : Int} {a' b' : Nat} {pos : String} {af : Array Edge} {gd : Option (Nat × Bool)}
theorem Ni (kk : VL P cx ops rest ⟨(d, I k ((a' ^^^ b' : Nat) : Int)) :: tm, st, nb⟩ Q) (hx : Af ⟨tm, st, nb⟩ x = some (I k a) := by rfl) (hy : Af ⟨tm, st, nb⟩ y = some (I k b) := by rfl) (h1 : a = (a' : Int) := by rfl) (h2 : b = (b' : Int) := by rfl) (ha : Ke k a' := by assumption) (hb : Ke k b' := by first | assumption | exact ⟨by decide, by decide⟩) (hd : Nat.blt d cx.N = true := by rfl)
  (hw : Wd ops tm gd := by first | exact trivial | exact A9 rfl rfl (by with_reducible rfl)) : VL P cx ops (⟨some d, .binOp .xor t x y yt, ty, pos, af, gd⟩ :: rest) ⟨tm, st, nb⟩ Q := HV kk (IB (h := Yu hx hy h1 h2 ha hb) (hd := hd) (hw := hw))
theorem WF (j : Nat) (kk : VL P cx ops rest ⟨(d, I k ((a' % 2 ^ j : Nat) : Int)) :: tm, st, nb⟩ Q) (hx : Af ⟨tm, st, nb⟩ x = some (I k a) := by rfl) (hy : Af ⟨tm, st, nb⟩ y = some (I k b) := by rfl) (h1 : a = (a' : Int) := by rfl) (h2 : b = ((2 ^ j - 1 : Nat) : Int) := by rfl) (ha : Ke k a' := by assumption) (hb : Ke k (2 ^ j - 1) := by exact ⟨by decide, by decide⟩) (hd : Nat.blt d cx.N = true := by rfl)
  (hw : Wd ops tm gd := by first | exact trivial | exact A9 rfl rfl (by with_reducible rfl)) : VL P cx ops (⟨some d, .binOp .and t x y yt, ty, pos, af, gd⟩ :: rest) ⟨tm, st, nb⟩ Q := HV kk (IB (h := US j hx hy h1 h2 ha hb) (hd := hd) (hw := hw))
theorem S8 (kk : VL P cx ops rest ⟨(d, I k ((a' / 2 ^ b' : Nat) : Int)) :: tm, st, nb⟩ Q) (hx : Af ⟨tm, st, nb⟩ x = some (I k a) := by rfl) (hy : Af ⟨tm, st, nb⟩ y = some (I k2 b) := by rfl) (h1 : a = (a' : Int) := by rfl) (h2 : b = (b' : Int) := by rfl) (hb : Nat.ble b' k.bits = true := by rfl) (hd : Nat.blt d cx.N = true := by rfl)
  (hw : Wd ops tm gd := by first | exact trivial | exact A9 rfl rfl (by with_reducible rfl)) : VL P cx ops (⟨some d, .binOp .shr t x y yt, ty, pos, af, gd⟩ :: rest) ⟨tm, st, nb⟩ Q := HV kk (IB (h := Yv hx hy h1 h2 hb) (hd := hd) (hw := hw))
theorem Tc (kk : VL P cx ops rest ⟨(d, I k ((2 ^ Wp k - 1 - a' : Nat) : Int)) :: tm, st, nb⟩ Q) (hx : Af ⟨tm, st, nb⟩ x = some (I k a) := by rfl) (h1 : a = (a' : Int) := by rfl) (ha : Ke k a' := by assumption) (hd : Nat.blt d cx.N = true := by rfl)
  (hw : Wd ops tm gd := by first | exact trivial | exact A9 rfl rfl (by with_reducible rfl)) : VL P cx ops (⟨some d, .unOp .xor t x, ty, pos, af, gd⟩ :: rest) ⟨tm, st, nb⟩ Q := HV kk (IB (h := Abx hx h1 ha) (hd := hd) (hw := hw))
end

end Go.Proofs.YtbgcjnfhadhjeaaGreat