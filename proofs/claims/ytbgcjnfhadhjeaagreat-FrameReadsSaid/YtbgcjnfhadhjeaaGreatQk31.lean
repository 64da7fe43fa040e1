/- Walks by data and names, part 31: Sums of bytes, plain: the register, what is sealed, and that what differs in 32 bits in a row is not sealed. Frames, plain: what is sealed, read, spoilt. The document's layer 12, by V: which operations may be. -/
import Derived.Test.YtbgcjnfhadhjeaaGreatQk24
import Derived.Test.YtbgcjnfhadhjeaaGreatQk30
import Derived.Test.YtbgcjnfhadhjeaaGreatQk28
namespace Go.Proofs.YtbgcjnfhadhjeaaGreat
set_option maxRecDepth 20000
def Acx : Nat := 3988292384
def AO (r : Nat) : Nat := if r % 2 = 1 then (r / 2) ^^^ Acx else r / 2
def D4 : Nat → Nat → Nat
 | 0, r => r
 | n + 1, r => D4 n (AO r)
def YZ (r : Nat) (x : UInt8) : Nat := D4 8 (r ^^^ x.toNat)
def Jj (r : Nat) (b : List UInt8) : Nat := b.foldl YZ r
def cF : Nat := 4294967295
def Fb (b : List UInt8) : Nat := cF - Jj cF b
def nB : List UInt8 → Nat
 | [] => 0
 | x :: xs => x.toNat + 256 * nB xs
def Vt : Nat → Nat → List UInt8
 | 0, _ => []
 | k + 1, n => UInt8.ofNat n :: Vt k (n / 256)
theorem KG (a b : Nat) : (a ^^^ b) % 2 = (a % 2 + b % 2) % 2 := by
 have h := Nat.testBit_xor a b 0
 simp only [Nat.testBit_zero] at h
 have e : (a ^^^ b) % 2 = 1 ↔ (decide (a % 2 = 1) ^^ decide (b % 2 = 1)) = true := by rw [← h]; simp
 by_cases h1 : a % 2 = 1 <;> by_cases h2 : b % 2 = 1 <;> simp only [h1, h2, decide_true, decide_false, Bool.xor_self, Bool.xor_true, Bool.xor_false, Bool.not_false, Bool.false_eq_true, iff_true, iff_false] at e <;> omega
theorem N9 (a b : Nat) : (a ^^^ b) / 2 = a / 2 ^^^ b / 2 := by
 have := Nat.shiftRight_xor_distrib (a := a) (b := b) (i := 1)
 simpa [Nat.shiftRight_succ] using this
theorem Wk (a b c : Nat) : (a ^^^ c) ^^^ (b ^^^ c) = a ^^^ b := by
 rw [Nat.xor_comm b c, Nat.xor_assoc, ← Nat.xor_assoc c c b, Nat.xor_self, Nat.zero_xor]
theorem WQ (a b : Nat) : AO (a ^^^ b) = AO a ^^^ AO b := by
 unfold AO
 rw [KG, N9]
 by_cases h1 : a % 2 = 1 <;> by_cases h2 : b % 2 = 1
 ·rw [if_neg (by omega), if_pos h1, if_pos h2, Wk]
 ·rw [if_pos (by omega), if_pos h1, if_neg h2, Nat.xor_assoc, Nat.xor_comm (b / 2), ← Nat.xor_assoc]
 ·rw [if_pos (by omega), if_neg h1, if_pos h2, Nat.xor_assoc]
 ·rw [if_neg (by omega), if_neg h1, if_neg h2]
theorem WR (a : Nat) : AO (2 * a) = a := by unfold AO; rw [if_neg (by omega)]; omega
theorem HM : ∀ (n a b : Nat), D4 n (a ^^^ b) = D4 n a ^^^ D4 n b
 | 0, _, _ => rfl
 | n + 1, a, b => by simp only [D4]; rw [WQ, HM n]
theorem HN : ∀ (n m a : Nat), D4 (n + m) a = D4 m (D4 n a)
 | 0, m, a => by rw [Nat.zero_add]; rfl
 | n + 1, m, a => by rw [Nat.add_right_comm]; simp only [D4]; exact HN n m _
theorem IN : ∀ (n a : Nat), D4 n (2 ^ n * a) = a
 | 0, a => by simp [D4]
 | n + 1, a => by simp only [D4]; rw [Nat.pow_succ, Nat.mul_comm (2 ^ n) 2, Nat.mul_assoc, WR]; exact IN n a
theorem TS {a : Nat} (h : a < 4294967296) : AO a < 4294967296 := by
 unfold AO
 split
 ·exact Nat.xor_lt_two_pow (n := 32) (show a / 2 < 2 ^ 32 by omega) (by decide)
 ·omega
theorem Js : ∀ (n : Nat) {a : Nat}, a < 4294967296 → D4 n a < 4294967296
 | 0, _, h => h
 | n + 1, _, h => Js n (TS h)
theorem Yp (x y : Nat) (h : x < 256) : x + 256 * y = x ^^^ 256 * y := by
 have h1 := Nat.two_pow_add_eq_or_of_lt (i := 8) (b := x) (by omega) y
 rw [show 2 ^ 8 = 256 from rfl] at h1
 rw [Nat.add_comm, h1]
 apply Nat.eq_of_testBit_eq
 intro i
 rw [Nat.testBit_or, Nat.testBit_xor, show 256 * y = 2 ^ 8 * y from rfl, Nat.testBit_two_pow_mul]
 by_cases hi : i < 8
 ·have : ¬ 8 ≤ i := by omega
  simp [this]
 ·have : x.testBit i = false := Nat.testBit_lt_two_pow (Nat.lt_of_lt_of_le h (show 2 ^ 8 ≤ 2 ^ i from Nat.pow_le_pow_right (by omega) (by omega)))
  simp [this]
theorem RL : ∀ (b : List UInt8) (r : Nat), Jj r b = D4 (8 * b.length) (r ^^^ nB b)
 | [], r => by simp [Jj, nB, D4]
 | x :: xs, r => by
  have ih := RL xs (YZ r x)
  unfold Jj at ih ⊢
  rw [List.foldl_cons, ih, List.length_cons, Nat.mul_add, Nat.mul_one, Nat.add_comm (8 * xs.length), HN, nB, Yp _ _ x.toNat_lt, ← Nat.xor_assoc]
  congr 1
  rw [HM 8 (r ^^^ x.toNat), show 256 * nB xs = 2 ^ 8 * nB xs from rfl, IN]; rfl
theorem NY : ∀ (b : List UInt8) {r : Nat}, r < 4294967296 → Jj r b < 4294967296
 | [], _, h => h
 | x :: xs, r, h => by
  unfold Jj; rw [List.foldl_cons]
  exact NY xs (Js 8 (Nat.xor_lt_two_pow (n := 32) h (Nat.lt_of_lt_of_le x.toNat_lt (by decide))))
theorem YJ : ∀ (b : List UInt8), nB b < 256 ^ b.length
 | [] => by simp [nB]
 | x :: xs => by have := YJ xs; have := x.toNat_lt; rw [nB, List.length_cons, Nat.pow_succ]; omega
theorem I3 : ∀ (k n : Nat), (Vt k n).length = k
 | 0, _ => rfl
 | k + 1, n => by rw [Vt, List.length_cons, I3]
def JH (w : Nat) : List UInt8 := Vt 4 w
def Cu (b : List UInt8) : List UInt8 := b ++ JH (Fb b)
def C3 (s : List UInt8) : Option (List UInt8) :=
 if s.length < 4 then none else if s.drop (s.length - 4) = JH (Fb (s.take (s.length - 4))) then some (s.take (s.length - 4)) else none
theorem NT (b : List UInt8) : Fb b < 4294967296 := by unfold Fb cF; omega
theorem Ss (b : List UInt8) : C3 (Cu b) = some b := by
 have hl : (Cu b).length = b.length + 4 := by simp [Cu, JH, I3]
 unfold C3
 rw [if_neg (by omega), hl, show b.length + 4 - 4 = b.length by omega]
 unfold Cu
 rw [List.take_left, List.drop_left, if_pos rfl]
theorem Sr {s b : List UInt8} (h : C3 s = some b) : s = Cu b := by
 unfold C3 at h
 split at h
 ·cases h
 ·split at h
  ·rename_i h1 h2
   cases h
   unfold Cu
   rw [← h2, List.take_append_drop]
  ·cases h
theorem ZZ (n : Nat) : 256 ^ n = 2 ^ (8 * n) := by rw [show 256 = 2 ^ 8 from rfl, ← Nat.pow_mul]

set_option maxRecDepth 10000
def ID (f : Fr) : List UInt8 × Int := if GK f then (Cu (Dv f), 0) else ([], 300)
def BG (b : List UInt8) : Fr × Int := match C3 b with
 | none => (.zero, 120)
 | some c => match G0 c with
  | none => (.zero, 300)
  | some f => (f, 0)
theorem TV (b : List UInt8) : (Cu b).length = b.length + 4 := by simp [Cu, JH, I3]
theorem K7 {f : Fr} (h : GK f = true) : BG (Cu (Dv f)) = (f, 0) := by unfold BG; rw [Ss]; show (match G0 (Dv f) with | none => _ | some f => _) = _; rw [AbJ h]

set_option maxRecDepth 20000
open Go.RowKit
set_option maxRecDepth 10000
set_option maxHeartbeats 4000000
theorem KZ (o : A5) (hl : o.px.length ≤ 1000000) : VP Tryz.prog 66 [.agg (oD o)] (· = .ret (.lit (.bool (Dr o)))) := by
 have c1 := K0 o.id
 have c2 := T8 o
 have c3 := MD (BL o) o
 have c4 := PK o hl
 have c5 := K0 o.tg
 have c6 := Q4 o.tg o.id
 simp only [Dr, LV]
 generalize J1 o.id = r1 at *
 generalize decide (BL o = o) = r3 at *
 generalize QT o = r4 at *
 generalize J1 o.tg = r5 at *
 generalize Ib o.tg o.id = r6 at *
 generalize BL o = q at *
 simp only [oD, C6, GJ] at *
 refine Al fun B => ?_
 repeat' (first | refine Ai ?_ | (refine As ?_; first | refine cz (c1) ?_ | refine cz (c2) ?_ | refine cz (c3) ?_ | refine cz (c4) ?_ | refine cz (c5) ?_ | refine cz (c6) ?_) | refine Ah ?_ | refine nc ?_ ?_ | (with_reducible intro _ <;> (try (exfalso; omega))) | refine Aa ?_ | (refine nd ?_ ?_ <;> intro hg <;> first | exact xo hg | rw [hg]))
 all_goals (try (show R.ret _ = R.ret _; clear c1 c2 c3 c4 c5 c6; simp_all; fail_if_success (focus skip)))
 all_goals (try (show R.ret _ = R.ret _; clear c1 c2 c3 c4 c5 c6; simp_all; omega))
 have hl4 : ([AQ (An o.x), AQ (An o.y), AQ (An o.x2), AQ (An o.y2)] : List (List D)).length = 4 := rfl
 refine AB 5 ?_
 repeat' (first | refine Ai ?_ | (refine As ?_; first | refine cz (c4) ?_ | refine cz (c5) ?_ | refine cz (c6) ?_) | refine Ah ?_ | refine nc ?_ ?_ | (with_reducible intro _ <;> (try (exfalso; omega))) | refine Aa ?_ | (refine nd ?_ ?_ <;> intro hg <;> first | exact xo hg | rw [hg]))
 all_goals (try (show R.ret _ = R.ret _; clear c1 c2 c3 c4 c5 c6; simp_all; fail_if_success (focus skip)))
 all_goals (try (show R.ret _ = R.ret _; clear c1 c2 c3 c4 c5 c6; simp_all; omega))

set_option maxRecDepth 20000
set_option maxRecDepth 10000
theorem RQ (a b : List UInt8) : AG (a ++ b) = AG a ++ AG b := List.map_append

set_option maxRecDepth 20000
set_option maxRecDepth 10000
instance Aa0 (l : List A5) : CO (l.map oM) (l.map oD) := BM l _ _ (fun _ => inferInstance) (fun _ => rfl)
instance Aam (l : List A5) : FN (l.map oM) := HU l _

set_option maxRecDepth 20000
set_option maxRecDepth 10000
theorem AaG (F : Nat) (l m : List A5) (cF : ∀ x z : A5, VP Tryz.prog F [.agg (oD x), .agg (oD z)] (· = .ret (.lit (.bool (decide (x = z)))))) :
  VP Tryz.prog 47 [Ek l, Ek m, .fn F [] []] (· = .ret (.lit (.bool (decide (l = m))))) := by
 rw [← NR]
 refine Al fun B => ?_
 have hl := Fj l
 have hm := Fj m
 generalize hp : (fun x y : A5 => decide (x = y)) = p
 repeat' (first | refine Ai ?_ | refine Ah ?_ | refine nc ?_ ?_ | (with_reducible intro _ <;> (try (exfalso; omega))) | refine Aa ?_ | (refine nd ?_ ?_ <;> intro hg <;> first | exact xo hg | rw [hg]))
 ·rw [KC (by omega)]
 ·refine Bo 15 l oD (fun (i : Nat) (_ : Unit) => ⟨[(17, I .i64 i), (16, I .i64 (l.map oD).length), (15, .d (Ek l)), (1, .d (Ek m)), (2, .d (.fn F [] []))], [], 0⟩) (fun i _ => MZ p l m = MZ p (l.drop i) (m.drop i)) () (AE) rfl (fun i y x hT hi hx hx' hlt hlm hlen hdr => ?_) (fun y hT hlt hlm => ?_)
  ·have hlb : i < m.length := by omega
   have hb' : m[i]? = some m[i] := List.getElem?_eq_getElem hlb
   have hbd := List.drop_eq_getElem_cons hlb
   generalize m[i] = z at *
   have hbx : (m.map oD)[((i : Nat) : Int).toNat]? = some (oD z) := by simp [hb']
   rw [hdr, hbd] at hT
   have c := cF x z
   rw [show decide (x = z) = p x z by rw [← hp]] at c
   simp only [oD, C6] at c hx' hbx ⊢
   repeat' (first | refine Ai ?_ | (refine As ?_; first | refine cz (c) ?_) | refine Ah ?_ | refine nc ?_ ?_ | (with_reducible intro _ <;> (try (exfalso; omega))) | refine Aa ?_ | (refine nd ?_ ?_ <;> intro hg <;> first | exact xo hg | rw [hg]))
   ·rw [hT]; simp_all [MZ]
   ·refine Bd () hi ?_ (AE); rw [hT]; simp_all [MZ]
  ·repeat' (first | refine Ai ?_ | refine Ah ?_ | refine nc ?_ ?_ | (with_reducible intro _ <;> (try (exfalso; omega))) | refine Aa ?_ | (refine nd ?_ ?_ <;> intro hg <;> first | exact xo hg | rw [hg]))
   rw [hT, List.drop_of_length_le (Nat.le_refl _), List.drop_of_length_le (by omega)]; rfl
theorem X4 (l m : List A5) : VP Tryz.prog 47 [Ek l, Ek m, .fn 48 [] []] (· = .ret (.lit (.bool (decide (l = m))))) := AaG _ l m Rp

set_option maxRecDepth 20000
set_option maxRecDepth 10000
abbrev Do (b o : D) (x : Fr) : List D := [An x.k, AK x.ep, An x.si, AK x.sn, An x.ix, An x.my, b, o,
 AK x.v.n0, AK x.v.n1, AK x.v.n2, AK x.v.n3, AK x.v.n4, AK x.v.n5, AK x.v.n6, AK x.v.n7, AK x.v.n8, AK x.fl, AK x.fq, AK x.pr, AK x.tl,
 AK x.w.n0, AK x.w.n1, AK x.w.n2, AK x.w.n3, AK x.w.n4, AK x.w.n5, AK x.w.n6, AK x.w.n7, AK x.w.n8]
abbrev Dn (g : Bool) (x : Fr) : List D := Do (.sl false g (AG x.bs)) (.sl false g (x.os.map (C6 g))) x
abbrev EH : D := .lit (.slice none 0 0)
def XT (b : D) (l : List UInt8) : Prop := b = BD l ∨ b = EH ∧ l = []
def XS (o : D) (l : List A5) : Prop := o = Ek l ∨ o = EH ∧ l = []
abbrev Cc (x : Fr) : List D := Dn false x
abbrev Mn (x : Fr) : List D := Dn true x
def Fl.nm : Fl → List UInt8
 | .ep => [69, 112, 111, 99, 104]
 | .si => [83, 105, 116, 101]
 | .sn => [83, 110, 97, 112]
 | .ix => [73, 110, 100, 101, 120]
 | .my => [77, 97, 110, 121]
 | .bs => [66, 121, 116, 101, 115]
 | .os => [79, 112, 115]
 | .v => [86, 101, 99, 116, 111, 114]
 | .fl => [70, 108, 111, 111, 114]
 | .fq => [70, 108, 111, 111, 114, 83, 101, 113]
 | .pr => [80, 114, 111, 112, 111, 115, 101, 100]
 | .tl => [84, 111, 108, 100]
 | .w => [66, 121]
abbrev Je (n : Fl) : D := .lit (By n.nm)
abbrev Fa (l : List Fl) : List (List D) := l.map fun n => [Je n]
theorem LA (l : List Fl) : (Fa l).length = l.length := List.length_map _
instance Acp (l : List Fl) : CO (Fa l) (Fa l) := BM l _ _ (fun _ => inferInstance) (fun _ => rfl)
instance AaX (l : List Fl) : FN (Fa l) := HU l _
def BX (k : Int) : List UInt8 := if k = 1 then [106, 111, 105, 110] else if k = 2 then [99, 104, 117, 110, 107] else if k = 3 then [111, 112, 115] else if k = 4 then [115, 116, 97, 116, 117, 115] else if k = 5 then [115, 116, 97, 116, 101] else []
theorem Kx (k : Int) : k = 1 ∨ k = 2 ∨ k = 3 ∨ k = 4 ∨ k = 5 ∨ (k ≠ 1 ∧ k ≠ 2 ∧ k ≠ 3 ∧ k ≠ 4 ∧ k ≠ 5) := by omega
theorem OH (k : Int) : VP Tryz.prog 21 [An k] (· = .ret (.sl false true (Fa (Bb k)))) := by
 refine VP.le ?_
 rcases Kx k with rfl | rfl | rfl | rfl | rfl | ⟨h1, h2, h3, h4, h5⟩
 all_goals
  refine Al fun B => ?_
  repeat' (first | refine Ai ?_ | refine Ah ?_ | refine nc ?_ ?_ | (with_reducible intro _ <;> (try (exfalso; omega))) | refine Aa ?_ | (refine nd ?_ ?_ <;> intro hg <;> first | exact xo hg | rw [hg]))
 all_goals first | exact A7 _ | (simp only [Bb]; rw [if_neg h1, if_neg h2, if_neg h3, if_neg h4, if_neg h5]; exact Qo) | (simp only [Cm]; infer_instance)
theorem Bz {v : V} {l : List V} (h : BT v = true) (k : Ca l = true) : Ca (v :: l) = true := by simp only [Ca, h, k]
theorem WV (b o : D) (hb : BT (.d b) = true) (ho : BT (.d o) = true) (f g : Fr) (n : Fl) :
  VP Tryz.prog 65 [.agg (Do b o f), .agg (Cc g), Je n] (· = .ret (.agg (Do (if n = .bs then BD g.bs else b) (if n = .os then Ek g.os else o) (II f g n)))) := by
 cases n
 all_goals
  simp only [Je, Fl.nm, II, Cc, Dn, Do, reduceCtorEq, if_false, if_true]
  refine Al fun B => ?_
  repeat' (first | refine Ai ?_ | refine Ah ?_ | refine nc ?_ ?_ | (with_reducible intro _ <;> (try (exfalso; omega))) | refine Aa ?_ | (refine nd ?_ ?_ <;> intro hg <;> first | exact xo hg | rw [hg]) | refine Gt ?_ (by (with_reducible apply Bi) <;> first | rfl | (repeat (first | exact rfl | refine Bz (by first | rfl | assumption) ?_))))
 all_goals rfl

set_option maxRecDepth 20000
set_option maxRecDepth 10000
theorem KQ (b : List UInt8) (n : Nat) : CP none (some (n : Int)) (AG b) = AG (b.take n) := by unfold AG; rw [DK]; simp
theorem HL (b : List UInt8) (n : Nat) : CP (some (n : Int)) none (AG b) = AG (b.drop n) := by unfold AG; rw [DK]; simp; rw [List.take_of_length_le (by simp)]
theorem TE (b : List UInt8) (w : Nat) (h : w ≤ b.length) (hw : w ≤ 8) : VP Tryz.prog 155 [BD b, An w] (· = .ret (.tup [AK (AV (b.take w)), BD (b.drop w), .lit (.bool true)])) := by
 have hbl := Av b
 have h1 := KQ b w
 have h2 := HL b w
 have c := BF (b.take w) (by simp; omega)
 generalize b.take w = p at *
 generalize b.drop w = q at *
 refine Al fun B => ?_
 repeat' (first | rw [h1] | rw [h2] | refine Ai ?_ | (refine As ?_; first | refine cz (c) ?_) | refine Ah ?_ | refine nc ?_ ?_ | (with_reducible intro _ <;> (try (exfalso; omega))) | refine Aa ?_ | (refine nd ?_ ?_ <;> intro hg <;> first | exact xo hg | rw [hg]))
 all_goals first | rfl | (exfalso; omega) | trace_state
theorem TF (b : List UInt8) (w : Nat) (h : b.length < w) : VP Tryz.prog 155 [BD b, An w] (· = .ret (.tup [AK 0, .lit (.slice none 0 0), .lit (.bool false)])) := by
 have hbl := Av b
 refine Al fun B => ?_
 repeat' (first | refine Ai ?_ | refine Ah ?_ | refine nc ?_ ?_ | (with_reducible intro _ <;> (try (exfalso; omega))) | refine Aa ?_ | (refine nd ?_ ?_ <;> intro hg <;> first | exact xo hg | rw [hg]))
 all_goals first | rfl | (exfalso; omega) | trace_state
theorem Dl (x : UInt8) (b : List UInt8) : VP Tryz.prog 155 [BD (x :: b), An 1] (· = .ret (.tup [AK x.toNat, BD b, .lit (.bool true)])) := by
 have c := TE (x :: b) 1 (by simp) (by decide)
 rw [show AV ((x :: b).take 1) = x.toNat by simp [AV]] at c
 exact c
theorem Dm : VP Tryz.prog 155 [BD [], An 1] (· = .ret (.tup [AK 0, .lit (.slice none 0 0), .lit (.bool false)])) := TF [] 1 (by simp)
theorem TG (x y : UInt8) (b : List UInt8) : VP Tryz.prog 155 [BD (x :: y :: b), An 2] (· = .ret (.tup [AK (256 * x.toNat + y.toNat : Nat), BD b, .lit (.bool true)])) := by
 have c := TE (x :: y :: b) 2 (by simp) (by decide)
 rw [show AV ((x :: y :: b).take 2) = 256 * x.toNat + y.toNat by simp [AV]] at c
 exact c
theorem Nj (b : List UInt8) (h : b.length < 2) : VP Tryz.prog 155 [BD b, An 2] (· = .ret (.tup [AK 0, .lit (.slice none 0 0), .lit (.bool false)])) := TF b 2 h
theorem VB (b : List UInt8) (h : b.length < 17) : VP Tryz.prog 203 [BD b] (· = .ret (.tup [.agg (GJ .zero), .lit (.slice none 0 0), .lit (.bool false)])) := by
 have hbl := Av b
 refine Al fun B => ?_
 repeat' (first | refine Ai ?_ | refine Ah ?_ | refine nc ?_ ?_ | (with_reducible intro _ <;> (try (exfalso; omega))) | refine Aa ?_ | (refine nd ?_ ?_ <;> intro hg <;> first | exact xo hg | rw [hg]))
 all_goals first | rfl | (exfalso; omega) | trace_state
theorem Vz (b : List UInt8) (h : 17 ≤ b.length) : VP Tryz.prog 203 [BD b] (· = .ret (.tup [.agg (GJ ⟨AV (b.take 8), AV ((b.drop 8).take 1), AV ((b.drop 9).take 8)⟩), BD (b.drop 17), .lit (.bool true)])) := by
 have hbl := Av b
 have h1 : CP none (some 8) (AG b) = AG (b.take 8) := KQ b 8
 have h2 : CP (some 17) none (AG b) = AG (b.drop 17) := HL b 17
 have h3 : CP (some 9) (some 17) (AG b) = AG ((b.drop 9).take 8) := by unfold AG; rw [DK]; simp [List.drop_take]
 have c1 := BF (b.take 8) (by simp; omega)
 have c2 := BF ((b.drop 9).take 8) (by simp; omega)
 obtain ⟨x, hx⟩ : ∃ x, b[8]? = some x := ⟨_, List.getElem?_eq_getElem (by omega)⟩
 have hx2 : (AG b)[((8 : Int)).toNat]? = some [.lit (.int .u8 (x.toNat : Int))] := by rw [show (8 : Int).toNat = 8 from rfl, AG, List.getElem?_map, hx]; rfl
 have h8 : AV ((b.drop 8).take 1) = x.toNat := by
  rw [List.drop_eq_getElem_cons (by omega), List.take_succ_cons, List.take_zero]
  rw [List.getElem?_eq_getElem (by omega)] at hx
  cases hx; simp [AV]
 have hx8 := x.toNat_lt
 rw [h8]
 clear h8 hx
 generalize b.take 8 = p at *
 generalize (b.drop 9).take 8 = q at *
 generalize b.drop 17 = r at *
 refine Al fun B => ?_
 repeat' (first | rw [h1] | rw [h2] | rw [h3] | refine Bw (id := 3) [0] ?_ | refine Ai ?_ | (refine As ?_; first | refine cz (c1) ?_ | refine cz (c2) ?_) | refine Ah ?_ | refine nc ?_ ?_ | (with_reducible intro _ <;> (try (exfalso; omega))) | refine Aa ?_ | (refine nd ?_ ?_ <;> intro hg <;> first | exact xo hg | rw [hg]))
 all_goals first | rfl | (exfalso; omega) | trace_state
theorem Q7 : ∀ (n : Nat) (b : List UInt8), b.length < 4 * n → EX n b = none
 | 0, b, h => by omega
 | n + 1, b, h => by
  match b, h with
  | [], _ => rfl
  | [_], _ => rfl
  | [_, _], _ => rfl
  | [_, _, _], _ => rfl
  | r :: g :: l :: a :: t, h =>
   simp only [List.length_cons] at h
   simp only [EX, Bs]
   rw [Q7 n t (by omega)]; rfl
theorem Nq : ∀ (n : Nat) (b : List UInt8), 4 * n ≤ b.length → ∃ l, EX n b = some (l, b.drop (4 * n)) ∧ l.length = n ∧ ∀ i c, l[i]? = some c → b[4 * i]? = some c.r ∧ b[4 * i + 1]? = some c.g ∧ b[4 * i + 2]? = some c.b ∧ b[4 * i + 3]? = some c.a
 | 0, b, _ => ⟨[], rfl, rfl, fun i c h => by simp at h⟩
 | n + 1, b, h => by
  match b, h with
  | [], h => simp at h
  | [_], h => simp at h; omega
  | [_, _], h => simp at h; omega
  | [_, _, _], h => simp at h; omega
  | r :: g :: l :: a :: t, h =>
   simp only [List.length_cons] at h
   obtain ⟨m, h1, h2, h3⟩ := Nq n t (by omega)
   refine ⟨⟨r, g, l, a⟩ :: m, ?_, by simp [h2], fun i c hc => ?_⟩
   ·simp only [EX, Bs]
    rw [h1, show 4 * (n + 1) = 4 * n + 4 by omega]; rfl
   ·cases i with
    | zero => simp at hc; subst hc; exact ⟨rfl, rfl, rfl, rfl⟩
    | succ i =>
     simp only [List.getElem?_cons_succ] at hc
     have := h3 i c hc
     rw [show 4 * (i + 1) = 4 * i + 1 + 1 + 1 + 1 by omega]
     simpa only [List.getElem?_cons_succ, Nat.add_assoc, Nat.reduceAdd] using this
theorem NW (b : List UInt8) (n : Nat) (hn : n ≤ 64) (h : b.length < 4 * n) : VP Tryz.prog 230 [BD b, An n] (· = .ret (.tup [.lit (.slice none 0 0), .lit (.slice none 0 0), .lit (.bool false)])) := by
 have hbl := Av b
 refine Al fun B => ?_
 repeat' (first | refine Ai ?_ | refine Ah ?_ | refine nc ?_ ?_ | (with_reducible intro _ <;> (try (exfalso; omega))) | refine Aa ?_ | (refine nd ?_ ?_ <;> intro hg <;> first | exact xo hg | rw [hg]))
 all_goals first | rfl | (exfalso; omega) | trace_state
theorem NV (b : List UInt8) (n : Nat) (hn : n ≤ 64) {l : List BO} {t : List UInt8} (h : EX n b = some (l, t)) : VP Tryz.prog 230 [BD b, An n] (· = .ret (.tup [.sl false true (l.map Cq), BD t, .lit (.bool true)])) := by
 have h4 : 4 * n ≤ b.length := Decidable.byContradiction fun hh => by rw [Q7 n b (by omega)] at h; cases h
 obtain ⟨l', e1, e2, e3⟩ := Nq n b h4
 rw [h] at e1
 cases e1
 have hbl := Av b
 have h2 : CP (some (4 * (n : Int))) none (AG b) = AG (b.drop (4 * n)) := by rw [show 4 * (n : Int) = ((4 * n : Nat) : Int) by omega]; exact HL b (4 * n)
 generalize b.drop (4 * n) = q at *
 refine VP.le ?_
 refine Al fun B => ?_
 repeat' (first | refine Ai ?_ | refine Ah ?_ | refine nc ?_ ?_ | (with_reducible intro _ <;> (try (exfalso; omega))) | refine Aa ?_ | (refine nd ?_ ?_ <;> intro hg <;> first | exact xo hg | rw [hg]))
 all_goals first | (exfalso; omega) | skip
 refine HI 7 66 4 rfl ?_
 refine BP (fun i : Nat => ⟨[(15, I .i64 i), (14, I .i64 n), (7, .row 0 0), (0, .d (BD b)), (1, .d (An n))], [.r true true 0 0 66 4 ((l.take i).map Cq)], 1⟩) (fun i => i ≤ n) (fun i => n - i) 0 (AE) (Nat.zero_le _) fun i hi => ?_
 rcases Nat.lt_or_ge i n with hlt | hge
 ·obtain ⟨c, hc⟩ : ∃ c, l[i]? = some c := ⟨_, List.getElem?_eq_getElem (by omega)⟩
  obtain ⟨k0, k1, k2, k3⟩ := e3 i c hc
  have j : ∀ (z : Nat) (y : UInt8), b[z]? = some y → (AG b)[z]? = some [.lit (.int .u8 (y.toNat : Int))] := fun z y hz => by rw [AG, List.getElem?_map, hz]; rfl
  have j0 : (AG b)[(4 * (i : Int)).toNat]? = some [.lit (.int .u8 (c.r.toNat : Int))] := by rw [show (4 * (i : Int)).toNat = 4 * i by omega]; exact j _ _ k0
  have j1 : (AG b)[(4 * (i : Int) + 1).toNat]? = some [.lit (.int .u8 (c.g.toNat : Int))] := by rw [show (4 * (i : Int) + 1).toNat = 4 * i + 1 by omega]; exact j _ _ k1
  have j2 : (AG b)[(4 * (i : Int) + 2).toNat]? = some [.lit (.int .u8 (c.b.toNat : Int))] := by rw [show (4 * (i : Int) + 2).toNat = 4 * i + 2 by omega]; exact j _ _ k2
  have j3 : (AG b)[(4 * (i : Int) + 3).toNat]? = some [.lit (.int .u8 (c.a.toNat : Int))] := by rw [show (4 * (i : Int) + 3).toNat = 4 * i + 3 by omega]; exact j _ _ k3
  have htk : (l.take (i + 1)).map Cq = (l.take i).map Cq ++ [Cq c] := by rw [List.take_add_one, hc]; simp
  have htl : ((l.take i).map Cq).length ≤ 64 := by simp; omega
  generalize (l.take i).map Cq = L at *
  repeat' (first | refine Ai ?_ | refine Ah ?_ | refine nc ?_ ?_ | (with_reducible intro _ <;> (try (exfalso; omega))) | refine Aa ?_ | (refine nd ?_ ?_ <;> intro hg <;> first | exact xo hg | rw [hg]))
  refine AP (i + 1) (by omega) (by omega) ?_
  rw [htk]
  exact (Eo [(0, _, _)])
 ·obtain rfl : i = n := by omega
  rw [List.take_of_length_le (by omega)]
  repeat' (first | rw [h2] | refine Ai ?_ | refine Ah ?_ | refine nc ?_ ?_ | (with_reducible intro _ <;> (try (exfalso; omega))) | refine Aa ?_ | (refine nd ?_ ?_ <;> intro hg <;> first | exact xo hg | rw [hg]))
  all_goals first | exact A7 _ | (simp only [Cm]; infer_instance) | trace_state

end Go.Proofs.YtbgcjnfhadhjeaaGreat