/- What FrameSpoiltProof asks for, part a: Arguments that came in, as data. The seat's functions by number (made by program). The seat's types, as the walks ask for them (made by program). -/
import Derived.Test.YtbgcjnfhadhjeaaGreatProg
import Derived.Test.YtbgcjnfhadhjeaaGreatPk3
import Derived.Test.YtbgcjnfhadhjeaaGreatPk2
import Derived.Test.YtbgcjnfhadhjeaaGreatPk25
import Derived.Test.YtbgcjnfhadhjeaaGreatPk24
import Derived.Test.YtbgcjnfhadhjeaaGreatPk26
import Derived.Test.YtbgcjnfhadhjeaaGreatPk13
import Derived.Test.YtbgcjnfhadhjeaaGreatPk14
import Derived.Test.YtbgcjnfhadhjeaaGreatPk34
import Derived.Test.YtbgcjnfhadhjeaaGreatPk30
import Derived.Test.YtbgcjnfhadhjeaaGreatPk28
import Derived.Test.YtbgcjnfhadhjeaaGreatPk49
import Derived.Test.YtbgcjnfhadhjeaaGreatPk50
import Derived.Test.YtbgcjnfhadhjeaaGreatPk53
import Derived.Test.YtbgcjnfhadhjeaaGreatPk35
namespace Go.Proofs.YtbgcjnfhadhjeaaGreat
set_option maxRecDepth 20000
open Go.RowKit
section
variable {P : Program} {t e : TypeId} {α β : Type} {p : α → Prop} {q : β → Prop} {f : α → List D} {g : β → List D}
variable {H : Type} {enc : TypeId × Value → H} {w : World} {base b0 : Nat} {spare : Nat → Bool} {held : Bool} {r : Reach} {v : Value} {d : DataW H} {ps : List MemPlace}
theorem Ade (h : EF P t p f) {n : Nat} (ht : P.underlying t = some (.array n e)) (hv : Value.okWide P w r b0 t v) (hx : DataW.Trod enc P w base spare held t v d ps) : ∃ y, p y ∧ ∀ B, drep B (fun _ => True) w (.agg (f y)) v := by
 unfold Value.okWide at hv
 rw [ht] at hv
 obtain ⟨cs, rfl, _, _⟩ := hv
 obtain ⟨fuel, hx⟩ := hx
 obtain ⟨y, k1, k2, _⟩ := h.h hx
 exact ⟨y, k1, fun B => by simp only [drep]; exact ⟨cs.toList, rfl, k2 B⟩⟩
end

instance fc4 : Fc Tryz.prog 4 Tryz.f4 88 [.tmp 2] := ⟨Tryz.func4, Tryz.ntmps4, Tryz.results4⟩
instance fc7 : Fc Tryz.prog 7 Tryz.f7 152 [.tmp 6] := ⟨Tryz.func7, Tryz.ntmps7, Tryz.results7⟩
instance Ah8 : Fc Tryz.prog 24 Tryz.f24 63 [.cell 2 28, .tmp 3] := ⟨Tryz.func24, Tryz.ntmps24, Tryz.results24⟩
instance Ah7 : Fc Tryz.prog 27 Tryz.f27 32 [.tmp 6] := ⟨Tryz.func27, Tryz.ntmps27, Tryz.results27⟩
instance Ah6 : Fc Tryz.prog 28 Tryz.f28 52 [.tmp 6, .tmp 7] := ⟨Tryz.func28, Tryz.ntmps28, Tryz.results28⟩
instance Ah5 : Fc Tryz.prog 60 Tryz.f60 37 [.tmp 2, .tmp 3] := ⟨Tryz.func60, Tryz.ntmps60, Tryz.results60⟩
instance Ah4 : Fc Tryz.prog 61 Tryz.f61 129 [.cell 6 28, .tmp 7] := ⟨Tryz.func61, Tryz.ntmps61, Tryz.results61⟩
instance Ah3 : Fc Tryz.prog 62 Tryz.f62 20 [.tmp 5] := ⟨Tryz.func62, Tryz.ntmps62, Tryz.results62⟩
instance AhU : Fc Tryz.prog 100 Tryz.f100 10 [.tmp 2, .tmp 3] := ⟨Tryz.func100, Tryz.ntmps100, Tryz.results100⟩
instance AhT : Fc Tryz.prog 101 Tryz.f101 11 [.tmp 2, .tmp 3] := ⟨Tryz.func101, Tryz.ntmps101, Tryz.results101⟩
instance AhS : Fc Tryz.prog 102 Tryz.f102 19 [.tmp 2] := ⟨Tryz.func102, Tryz.ntmps102, Tryz.results102⟩
instance AhR : Fc Tryz.prog 103 Tryz.f103 47 [.tmp 2, .tmp 3, .tmp 4] := ⟨Tryz.func103, Tryz.ntmps103, Tryz.results103⟩
instance AhQ : Fc Tryz.prog 104 Tryz.f104 15 [.cell 2 26, .tmp 3] := ⟨Tryz.func104, Tryz.ntmps104, Tryz.results104⟩
instance AhP : Fc Tryz.prog 155 Tryz.f155 18 [.tmp 4, .tmp 5, .tmp 6] := ⟨Tryz.func155, Tryz.ntmps155, Tryz.results155⟩
instance AhO : Fc Tryz.prog 156 Tryz.f156 60 [.cell 2 71, .tmp 3, .tmp 4] := ⟨Tryz.func156, Tryz.ntmps156, Tryz.results156⟩
instance AhN : Fc Tryz.prog 157 Tryz.f157 30 [.cell 2 26, .tmp 3, .tmp 4] := ⟨Tryz.func157, Tryz.ntmps157, Tryz.results157⟩
instance AhM : Fc Tryz.prog 203 Tryz.f203 22 [.cell 2 64, .tmp 3, .tmp 4] := ⟨Tryz.func203, Tryz.ntmps203, Tryz.results203⟩
instance AhL : Fc Tryz.prog 204 Tryz.f204 133 [.cell 4 71, .tmp 5, .tmp 6] := ⟨Tryz.func204, Tryz.ntmps204, Tryz.results204⟩
instance AhK : Fc Tryz.prog 230 Tryz.f230 51 [.tmp 4, .tmp 5, .tmp 6] := ⟨Tryz.func230, Tryz.ntmps230, Tryz.results230⟩
instance AhJ : Fc Tryz.prog 231 Tryz.f231 60 [.cell 2 69, .tmp 3, .tmp 4] := ⟨Tryz.func231, Tryz.ntmps231, Tryz.results231⟩

set_option maxRecDepth 10000
instance : EE Tryz.prog 56 2 3 1 := ⟨by kernel_rfl, by kernel_rfl, by decide⟩
instance : Je Tryz.prog 59 .u64 := ⟨by kernel_rfl⟩
instance : PB Tryz.prog 64 [(0, 1), (1, 1), (2, 1)] := ⟨by kernel_rfl⟩
instance : PB Tryz.prog 66 [(0, 1), (1, 1), (2, 1), (3, 1)] := ⟨by kernel_rfl⟩

set_option maxRecDepth 20000
set_option maxRecDepth 10000
theorem Adn {f : Fr} (h : Eb f = true) {n : Nat} (hn : n < (A5 f).length) : Gr ((A5 f).take n) = none := by
 cases hg : Gr ((A5 f).take n) with
 | none => rfl
 | some g =>
  exfalso
  obtain ⟨k, e⟩ := Ack hg
  have h1 : A5 f = A5 g ++ (A5 f).drop n := by rw [e, List.take_append_drop]
  have hr : (A5 f).drop n ≠ [] := fun h0 => by have := congrArg List.length h0; rw [List.length_drop] at this; simp at this; omega
  obtain ⟨⟨_, ⟨f2, f2'⟩, f3, _, _⟩, _⟩ := GA h
  obtain ⟨⟨_, ⟨g2, g2'⟩, g3, _, _⟩, _⟩ := GA k
  obtain ⟨a1, a2⟩ := kU (k := f.k) (by omega) (by omega)
  obtain ⟨c1, c2⟩ := kU (k := g.k) (by omega) (by omega)
  generalize (A5 f).drop n = r at h1 hr
  unfold A5 at h1
  rw [a1, c1] at h1
  simp only [List.cons_append, List.nil_append, List.cons.injEq] at h1
  have hk : f.k = g.k := by rw [← a2, ← c2, h1.1]
  have e1 := OT (AV f.k) { Fr.zero with k := f.k } (LC h) []
  have e2 := OT (AV g.k) { Fr.zero with k := g.k } (LC k) r
  rw [List.append_nil, h1.2, hk, e2] at e1
  simp only [Option.some.injEq, Prod.mk.injEq] at e1
  exact hr e1.2

set_option maxRecDepth 20000
theorem Abm {a b : Nat} (h : a ^^^ b = 0) : a = b := by
 have : (a ^^^ b) ^^^ b = b := by rw [h, Nat.zero_xor]
 rw [Nat.xor_assoc, Nat.xor_self, Nat.xor_zero] at this; exact this
theorem AgR {a : Nat} (h : a < 4294967296) (h0 : AO a = 0) : a = 0 := by
 unfold AO at h0
 split at h0
 ·have := Abm h0; unfold Ach at this; omega
 ·omega
theorem Acz : ∀ (n : Nat) {a : Nat}, a < 4294967296 → DT n a = 0 → a = 0
 | 0, _, _, h0 => h0
 | n + 1, _, h, h0 => AgR h (Acz n (TW h) h0)
theorem AbZ : ∀ (k n : Nat), n < 256 ^ k → nB (VG k n) = n
 | 0, n, h => by simp at h; simp [VG, nB, h]
 | k + 1, n, h => by
  have := AbZ k (n / 256) (by rw [Nat.pow_succ] at h; omega)
  rw [VG, nB, this, UInt8.toNat_ofNat', show 2 ^ 8 = 256 from rfl]; omega
theorem AaF : ∀ (b : List UInt8), VG b.length (nB b) = b
 | [] => rfl
 | x :: xs => by
  have h := x.toNat_lt
  rw [List.length_cons, VG, nB, show (x.toNat + 256 * nB xs) / 256 = nB xs by omega, AaF xs]
  congr 1
  apply UInt8.toNat_inj.1
  rw [UInt8.toNat_ofNat', show 2 ^ 8 = 256 from rfl]; omega
theorem AgW {a b : List UInt8} (hl : a.length = b.length) (h : nB a = nB b) : a = b := by rw [← AaF a, ← AaF b, hl, h]
theorem Ahm (r : Nat) (h : r < 4294967296) : cF - r = r ^^^ cF := by
 have h1 : (r ^^^ cF) < 2 ^ 32 := Nat.xor_lt_two_pow (n := 32) h (by decide)
 apply Nat.eq_of_testBit_eq
 intro i
 rw [show cF - r = 2 ^ 32 - (r + 1) by unfold cF; omega, Nat.testBit_two_pow_sub_succ h, Nat.testBit_xor, show cF = 2 ^ 32 - 1 from rfl, Nat.testBit_two_pow_sub_one]
 by_cases hi : i < 32
 ·simp [hi]
 ·have : r.testBit i = false := Nat.testBit_lt_two_pow (Nat.lt_of_lt_of_le h (show 2 ^ 32 ≤ 2 ^ i from Nat.pow_le_pow_right (by omega) (by omega)))
  simp [hi, this]
theorem Acw {s : List UInt8} (h : 4 ≤ s.length) : (∃ b, DN s = some b) ↔ I8 cF s = DT 32 cF := by
 have hs : s = s.take (s.length - 4) ++ s.drop (s.length - 4) := (List.take_append_drop _ _).symm
 have hdl : (s.drop (s.length - 4)).length = 4 := by rw [List.length_drop]; omega
 have key : I8 cF s = DT 32 (I8 cF (s.take (s.length - 4)) ^^^ nB (s.drop (s.length - 4))) := by
  have h1 := R7 (s.drop (s.length - 4)) (I8 cF (s.take (s.length - 4)))
  rw [hdl] at h1
  rw [← h1]
  unfold I8
  rw [← List.foldl_append, ← hs]
 have h0 := N9 (s.take (s.length - 4)) (r := cF) (by decide)
 have h2 := YC (s.drop (s.length - 4))
 rw [hdl] at h2
 have h3 : DN s = if s.drop (s.length - 4) = Km (E7 (s.take (s.length - 4))) then some (s.take (s.length - 4)) else none := by unfold DN; rw [if_neg (by omega)]
 have h4 : E7 (s.take (s.length - 4)) = I8 cF (s.take (s.length - 4)) ^^^ cF := by unfold E7; exact Ahm _ h0
 rw [h3, key]
 generalize s.take (s.length - 4) = hd at *
 generalize s.drop (s.length - 4) = tl at *
 constructor
 ·rintro ⟨b, hb⟩
  split at hb
  ·rename_i he
   rw [he, Km, AbZ 4 _ (N7 _), h4, ← Nat.xor_assoc, Nat.xor_self, Nat.zero_xor]
  ·cases hb
 ·intro he
  refine ⟨hd, if_pos ?_⟩
  have h5 : DT 32 ((I8 cF hd ^^^ nB tl) ^^^ cF) = 0 := by rw [HB, he, Nat.xor_self]
  have h6 := Acz 32 (Nat.xor_lt_two_pow (n := 32) (Nat.xor_lt_two_pow (n := 32) h0 h2) (by decide)) h5
  have h7 := Abm h6
  refine AgW (by rw [hdl, Km, IT]) ?_
  rw [Km, AbZ 4 _ (N7 _), h4]
  have h8 : I8 cF hd ^^^ (I8 cF hd ^^^ nB tl) = I8 cF hd ^^^ cF := by rw [h7]
  rwa [← Nat.xor_assoc, Nat.xor_self, Nat.zero_xor] at h8
theorem AcE {s t : List UInt8} (hs : ∃ b, DN s = some b) (hl : t.length = s.length) {k m : Nat} (hm : m < 4294967296) (h0 : m ≠ 0) (hk : k ≤ 8 * s.length) (hx : nB t = nB s ^^^ (2 ^ k * m)) : DN t = none := by
 cases ht : DN t with
 | none => rfl
 | some c =>
  exfalso
  obtain ⟨b, hb⟩ := hs
  have h4 : 4 ≤ s.length := by
   unfold DN at hb
   split at hb
   ·cases hb
   ·omega
  have e1 := (Acw h4).1 ⟨b, hb⟩
  have e2 := (Acw (hl ▸ h4)).1 ⟨c, ht⟩
  rw [R7, hl, hx, ← Nat.xor_assoc, HB, ← R7, e1] at e2
  have e3 : DT (8 * s.length) (2 ^ k * m) = 0 := by
   have : DT 32 cF ^^^ (DT 32 cF ^^^ DT (8 * s.length) (2 ^ k * m)) = 0 := by rw [e2, Nat.xor_self]
   rwa [← Nat.xor_assoc, Nat.xor_self, Nat.zero_xor] at this
  obtain ⟨j, hj⟩ : ∃ j, 8 * s.length = k + j := ⟨8 * s.length - k, by omega⟩
  rw [hj, HC, IC] at e3
  exact h0 (Acz j hm e3)

set_option maxRecDepth 10000
theorem AcD {f : Fr} (h : Eb f = true) {n : Nat} (hn : n < (AS (A5 f)).length) : (CY ((AS (A5 f)).take n)).1 = .zero ∧ (CY ((AS (A5 f)).take n)).2 ≠ 0 := by
 rcases PZ ((AS (A5 f)).take n) with ⟨e, _⟩ | ⟨e, _⟩ | ⟨g, e, k1, k2⟩
 ·rw [e]; exact ⟨rfl, by decide⟩
 ·rw [e]; exact ⟨rfl, by decide⟩
 ·exfalso
  have hl := congrArg List.length k2
  rw [KY] at hn
  rw [KY, List.length_take, KY, Nat.min_eq_left (by omega)] at hl
  have h1 : A5 g = (A5 f).take (n - 4) := by
   have h2 := congrArg (List.take (n - 4)) k2
   rw [show n - 4 = (A5 g).length by omega] at h2
   unfold AS at h2
   rw [List.take_left, List.take_take, Nat.min_eq_left (by omega), List.take_append_of_le_length (by omega)] at h2
   rw [h2, show (A5 g).length = n - 4 by omega]
  have h2 := Adn h (n := n - 4) (by omega)
  rw [← h1, Uq k1] at h2
  cases h2
theorem Ab0 : ∀ (k n : Nat), VG k (n % 256 ^ k) = VG k n
 | 0, _ => rfl
 | k + 1, n => by
  simp only [VG]
  rw [Nat.pow_succ, Nat.mul_comm, Nat.mod_mul_right_div_self, Ab0 k]
  congr 1
  apply UInt8.toNat_inj.1
  rw [UInt8.toNat_ofNat', UInt8.toNat_ofNat', show 2 ^ 8 = 256 from rfl, Nat.mod_mul_right_mod]
theorem Acx (k n : Nat) : nB (VG k n) = n % 256 ^ k := by rw [← Ab0, AbZ k _ (Nat.mod_lt _ (Nat.pow_pos (by omega)))]
def AaA (b : List UInt8) (k m : Nat) : List UInt8 := VG b.length (nB b ^^^ 2 ^ k * m)
theorem AaC (b : List UInt8) (k m : Nat) : (AaA b k m).length = b.length := IT _ _
theorem Ado (b : List UInt8) (k : Nat) : AaA b k 0 = b := by unfold AaA; rw [Nat.mul_zero, Nat.xor_zero, AaF]
theorem Afz (b : List UInt8) (k m : Nat) (hk : k ≤ 8 * b.length) : nB (AaA b k m) = nB b ^^^ 2 ^ k * (m % 2 ^ (8 * b.length - k)) := by
 unfold AaA
 have h := YC b
 rw [Acx, ZK] at *
 have e : 2 ^ k * (m % 2 ^ (8 * b.length - k)) = (2 ^ k * m) % 2 ^ (8 * b.length) := by
  rw [show 8 * b.length = k + (8 * b.length - k) by omega, Nat.pow_add, Nat.mul_mod_mul_left]; simp
 rw [e, Nat.xor_mod_two_pow, Nat.mod_eq_of_lt h]
theorem Ac3 {b : List UInt8} {k m : Nat} (hk : k ≤ 8 * (AS b).length) (hm : m < 4294967296) (h0 : m % 2 ^ (8 * (AS b).length - k) ≠ 0) : DN (AaA (AS b) k m) = none :=
 AcE ⟨b, Jt b⟩ (AaC _ _ _) (Nat.lt_of_le_of_lt (Nat.mod_le _ _) hm) h0 hk (Afz _ _ _ hk)

set_option maxRecDepth 20000
set_option maxRecDepth 10000
theorem AfB {x m : Nat} (h : m ≠ 0) : x ^^^ m ≠ x := fun e => h (by
 have h2 : x ^^^ (x ^^^ m) = 0 := by rw [e, Nat.xor_self]
 rwa [← Nat.xor_assoc, Nat.xor_self, Nat.zero_xor] at h2)
def AaD (c : List UInt8) (i m : Nat) : List UInt8 := c.set i (UInt8.ofNat ((c.getD i 0).toNat ^^^ m))
theorem Acr (c : List UInt8) (i m : Nat) : (AaD c i m).length = c.length := List.length_set
theorem Acy {c : List UInt8} {i m : Nat} (hi : i < c.length) (hm : m < 256) : AaD c i m = c ↔ m = 0 := by
 have hx := (c.getD i 0).toNat_lt
 have hg : c[i] = c.getD i 0 := by rw [List.getD_eq_getElem?_getD, List.getElem?_eq_getElem hi]; rfl
 constructor
 ·intro h
  refine Decidable.byContradiction fun hn => ?_
  have h1 : (AaD c i m)[i]? = c[i]? := by rw [h]
  unfold AaD at h1
  rw [List.getElem?_set_self hi, List.getElem?_eq_getElem hi, hg] at h1
  have h2 := congrArg UInt8.toNat (Option.some.inj h1)
  have h3 : (c.getD i 0).toNat ^^^ m < 256 := Nat.xor_lt_two_pow (n := 8) hx hm
  rw [UInt8.toNat_ofNat', Nat.mod_eq_of_lt h3] at h2
  exact AfB hn h2
 ·rintro rfl
  unfold AaD
  rw [Nat.xor_zero, UInt8.ofNat_toNat, ← hg, List.set_getElem_self]
theorem Ac8 {f g : Fr} {i m : Nat} (hf : Eb f = true) (hg : Eb g = true) (hi : i < (A5 f).length) (hm : m < 256) (h : AS (A5 g) = AS (AaD (A5 f) i m)) : decide (f = g) = decide (m = 0) := by
 have h1 := TZ h
 refine decide_eq_decide.2 ⟨fun e => ?_, fun e => ?_⟩
 ·rw [e] at hi h1
  exact (Acy hi hm).1 h1.symm
 ·rw [(Acy hi hm).2 e] at h1
  exact (Aac hg hf h1).symm
theorem Acu (a : Int) (n : Nat) (h0 : 0 < n) (hn : n ≤ 1000000000) : ∃ k : Nat, k < n ∧ IntKind.i64.wrap ((IntKind.u64.wrap a).tmod (n : Int)) = (k : Int) := by
 have h1 : 0 ≤ IntKind.u64.wrap a := by
  have : IntKind.u64.wrap a = a % 18446744073709551616 := by simp [IntKind.wrap, IntKind.bits, IntKind.signed]
  omega
 generalize IntKind.u64.wrap a = u at *
 have h2 := Int.emod_nonneg u (show (n : Int) ≠ 0 by omega)
 have h3 := Int.emod_lt_of_pos u (show (0 : Int) < (n : Int) by omega)
 refine ⟨(u % (n : Int)).toNat, by omega, ?_⟩
 rw [Int.tmod_eq_emod_of_nonneg h1, B9 (by simp only [Im]; omega)]
 omega

set_option maxRecDepth 20000
theorem AfC (x t k : Nat) (hx : x < 256) (hk : k < 8) : (x + 256 * t) ^^^ 2 ^ k = (x ^^^ 2 ^ k) + 256 * t := by
 have h8 : 2 ^ k < 256 := by have := Nat.pow_lt_pow_right (a := 2) (by omega) hk; simpa using this
 have e1 := Nat.xor_mod_two_pow (a := x + 256 * t) (b := 2 ^ k) (n := 8)
 have e2 := Nat.xor_div_two_pow (a := x + 256 * t) (b := 2 ^ k) (n := 8)
 simp only [Nat.reducePow] at e1 e2
 rw [show (x + 256 * t) % 256 = x by omega, Nat.mod_eq_of_lt h8] at e1
 rw [show (x + 256 * t) / 256 = t by omega, Nat.div_eq_of_lt h8, Nat.xor_zero] at e2
 omega
theorem AfD (x t k : Nat) (hx : x < 256) : (x + 256 * t) ^^^ 2 ^ (k + 8) = x + 256 * (t ^^^ 2 ^ k) := by
 have e1 := Nat.xor_mod_two_pow (a := x + 256 * t) (b := 2 ^ (k + 8)) (n := 8)
 have e2 := Nat.xor_div_two_pow (a := x + 256 * t) (b := 2 ^ (k + 8)) (n := 8)
 have h : 2 ^ (k + 8) = 2 ^ k * 256 := by rw [Nat.pow_add]
 simp only [Nat.reducePow] at e1 e2
 rw [h] at e1 e2 ⊢
 rw [show (x + 256 * t) % 256 = x by omega, Nat.mul_mod_left, Nat.xor_zero] at e1
 rw [show (x + 256 * t) / 256 = t by omega, Nat.mul_div_cancel _ (by omega)] at e2
 omega
theorem AcF : ∀ (L : List UInt8) (k : Nat), k < 8 * L.length → VG L.length (nB L ^^^ 2 ^ k) = L.set (k / 8) (UInt8.ofNat ((L.getD (k / 8) 0).toNat ^^^ 2 ^ (k % 8)))
 | [], k, h => by simp at h
 | x :: xs, k, h => by
  have hx := x.toNat_lt
  simp only [List.length_cons] at h
  rw [List.length_cons, nB, VG]
  rcases Nat.lt_or_ge k 8 with hk | hk
  ·rw [AfC _ _ _ hx hk]
   have h8 : 2 ^ k < 256 := by have := Nat.pow_lt_pow_right (a := 2) (by omega) hk; simpa using this
   have hy : x.toNat ^^^ 2 ^ k < 256 := Nat.xor_lt_two_pow (n := 8) hx h8
   rw [show k / 8 = 0 by omega, Nat.mod_eq_of_lt hk]
   simp only [List.set_cons_zero, List.getD_cons_zero]
   generalize x.toNat ^^^ 2 ^ k = y at *
   rw [show (y + 256 * nB xs) / 256 = nB xs by omega, AaF]
   congr 1
   apply UInt8.toNat_inj.1
   rw [UInt8.toNat_ofNat', UInt8.toNat_ofNat', show 2 ^ 8 = 256 from rfl]; omega
  ·obtain ⟨j, rfl⟩ : ∃ j, k = j + 8 := ⟨k - 8, by omega⟩
   rw [AfD _ _ _ hx]
   have ih := AcF xs j (by omega)
   rw [show (x.toNat + 256 * (nB xs ^^^ 2 ^ j)) / 256 = nB xs ^^^ 2 ^ j by omega, ih, show (j + 8) / 8 = j / 8 + 1 by omega, show (j + 8) % 8 = j % 8 by omega]
   simp only [List.set_cons_succ, List.getD_cons_succ]
   congr 1
   apply UInt8.toNat_inj.1
   rw [UInt8.toNat_ofNat', show 2 ^ 8 = 256 from rfl]; omega
theorem Adg (b : List UInt8) (k m j : Nat) : VG b.length ((nB b ^^^ 2 ^ k * m) ^^^ 2 ^ j) = if j < 8 * b.length then (AaA b k m).set (j / 8) (UInt8.ofNat (((AaA b k m).getD (j / 8) 0).toNat ^^^ 2 ^ (j % 8))) else AaA b k m := by
 have h1 : VG b.length ((nB b ^^^ 2 ^ k * m) ^^^ 2 ^ j) = VG b.length (nB (AaA b k m) ^^^ (2 ^ j % 256 ^ b.length)) := by
  rw [← Ab0, show 256 ^ b.length = 2 ^ (8 * b.length) by rw [Nat.pow_mul], Nat.xor_mod_two_pow, ← show 256 ^ b.length = 2 ^ (8 * b.length) by rw [Nat.pow_mul]]
  congr 2
  unfold AaA
  rw [Acx]
 rw [h1]
 split
 ·rename_i h
  rw [Nat.mod_eq_of_lt (by rw [show 256 ^ b.length = 2 ^ (8 * b.length) by rw [Nat.pow_mul]]; exact Nat.pow_lt_pow_right (by omega) h)]
  have := AcF (AaA b k m) j (by rw [AaC]; exact h)
  rw [AaC] at this
  exact this
 ·rename_i h
  have : 2 ^ j % 256 ^ b.length = 0 := by
   rw [show 256 ^ b.length = 2 ^ (8 * b.length) by rw [Nat.pow_mul]]
   exact Nat.mod_eq_zero_of_dvd (Nat.pow_dvd_pow 2 (by omega))
  rw [this, Nat.xor_zero]
  have h2 := AaF (AaA b k m)
  rw [AaC] at h2
  exact h2
theorem AcP (b : List UInt8) (k m i : Nat) : AaA b k (m % 2 ^ (i + 1)) = if m / 2 ^ i % 2 = 1 ∧ k + i < 8 * b.length then (AaA b k (m % 2 ^ i)).set ((k + i) / 8) (UInt8.ofNat (((AaA b k (m % 2 ^ i)).getD ((k + i) / 8) 0).toNat ^^^ 2 ^ ((k + i) % 8))) else AaA b k (m % 2 ^ i) := by
 have hm : m % 2 ^ (i + 1) = m % 2 ^ i + 2 ^ i * (m / 2 ^ i % 2) := Nat.mod_pow_succ
 rcases Nat.mod_two_eq_zero_or_one (m / 2 ^ i) with h | h
 ·rw [hm, h, Nat.mul_zero, Nat.add_zero, if_neg (by omega)]
 ·have hd : 2 ^ k * (m % 2 ^ (i + 1)) = (2 ^ k * (m % 2 ^ i)) ^^^ 2 ^ (k + i) := by
   rw [hm, h, Nat.mul_one, Nat.mul_add, ← Nat.pow_add]
   have hlt : 2 ^ k * (m % 2 ^ i) < 2 ^ (k + i) := by
    rw [Nat.pow_add]; exact Nat.mul_lt_mul_of_pos_left (Nat.mod_lt _ (Nat.pow_pos (by omega))) (Nat.pow_pos (by omega))
   generalize 2 ^ k * (m % 2 ^ i) = a at *
   have e1 := Nat.xor_mod_two_pow (a := a) (b := 2 ^ (k + i)) (n := k + i)
   have e2 := Nat.xor_div_two_pow (a := a) (b := 2 ^ (k + i)) (n := k + i)
   have hp : 0 < 2 ^ (k + i) := Nat.pow_pos (by omega)
   rw [Nat.mod_eq_of_lt hlt, Nat.mod_self, Nat.xor_zero] at e1
   rw [Nat.div_eq_of_lt hlt, Nat.div_self hp, Nat.zero_xor] at e2
   have := Nat.div_add_mod (a ^^^ 2 ^ (k + i)) (2 ^ (k + i))
   rw [e1, e2] at this
   omega
  have e := Adg b k (m % 2 ^ i) (k + i)
  unfold AaA at e ⊢
  rw [hd, ← Nat.xor_assoc]
  rw [e]
  simp only [h, true_and]

set_option maxRecDepth 10000
set_option maxHeartbeats 8000000
theorem Adm {P : Program} {w : World} {k2 : IntKind} {t : TypeId} {s : Nat} (hs : s < 8) : (binOp .shl t (.int .u8 1) (.int k2 (s : Int)) : Sem Value).run P w = .ok (.int .u8 ((2 ^ s : Nat) : Int)) w := by
 have h0 : ¬ ((s : Int) < 0) := by omega
 have h8 : 2 ^ s < 256 := by have := Nat.pow_lt_pow_right (a := 2) (by omega) hs; simpa using this
 have hm : min s IntKind.u8.bits = s := by show min s 8 = s; omega
 have e : (1 : Int) * 2 ^ s = ((2 ^ s : Nat) : Int) := by rw [Int.one_mul]; norm_cast
 have hw0 : ∀ p : Nat, p < 256 → IntKind.u8.wrap (p : Int) = (p : Int) := fun p hp => B9 (by simp only [Im]; omega)
 have hw := hw0 _ h8
 simp only [binOp, Op.shift, h0, if_false, Int.toNat_natCast, hm, e, hw, Sem.run_pure]
section
variable {P : Program} {cx : Cx} {s : St}
theorem AgT {t yt ty : TypeId} {x y : Operand} {k' : IntKind} {b : Int} {b' : Nat} (hx : Af s x = some (I .u8 1)) (hy : Af s y = some (I k' b)) (h2 : b = (b' : Int)) (hs : b' < 8) : Bn P cx (.binOp .shl t x y yt) ty s (I .u8 ((2 ^ b' : Nat) : Int)) := by
 subst h2; exact NL hx hy fun _ => Adm hs
theorem AgV {t yt ty : TypeId} {x y : Operand} {a : Int} {a' : Nat} (hx : Af s x = some (I .i64 a)) (hy : Af s y = some (I .i64 8)) (h1 : a = (a' : Int)) (hs : a' < 9223372036854775808) : Bn P cx (.binOp .quo t x y yt) ty s (I .i64 ((a' / 8 : Nat) : Int)) := by
 subst h1
 refine NL hx hy fun w => ?_
 have e : ((a' : Int)).tdiv 8 = ((a' / 8 : Nat) : Int) := rfl
 have hw : IntKind.i64.wrap ((a' : Int) / 8) = (a' : Int) / 8 := B9 (by simp only [Im]; omega)
 simp [binOp, Op.intDiv, e, hw]
theorem AgU {t yt ty : TypeId} {x y : Operand} {a : Int} {a' : Nat} (hx : Af s x = some (I .i64 a)) (hy : Af s y = some (I .i64 8)) (h1 : a = (a' : Int)) : Bn P cx (.binOp .rem t x y yt) ty s (I .i64 ((a' % 8 : Nat) : Int)) := by
 subst h1
 refine NL hx hy fun w => ?_
 have e : ((a' : Int)).tmod 8 = ((a' % 8 : Nat) : Int) := rfl
 simp [binOp, Op.intDiv, e]
end
theorem AcQ (m L i : Nat) : decide (m % 2 ^ (i + 1) % 2 ^ L ≠ 0) = (decide (m % 2 ^ i % 2 ^ L ≠ 0) || decide (m / 2 ^ i % 2 = 1 ∧ i < L)) := by
 have hm : m % 2 ^ (i + 1) = m % 2 ^ i + 2 ^ i * (m / 2 ^ i % 2) := Nat.mod_pow_succ
 rw [← Bool.decide_or]
 apply decide_eq_decide.2
 rcases Nat.lt_or_ge i L with h | h
 ·have h1 : m % 2 ^ (i + 1) % 2 ^ L = m % 2 ^ (i + 1) := Nat.mod_eq_of_lt (Nat.lt_of_lt_of_le (Nat.mod_lt _ (Nat.pow_pos (by omega))) (Nat.pow_le_pow_right (by omega) h))
  have h2 : m % 2 ^ i % 2 ^ L = m % 2 ^ i := Nat.mod_eq_of_lt (Nat.lt_of_lt_of_le (Nat.mod_lt _ (Nat.pow_pos (by omega))) (Nat.pow_le_pow_right (by omega) (by omega)))
  rw [h1, h2, hm]
  have hp : 0 < 2 ^ i := Nat.pow_pos (by omega)
  rcases Nat.mod_two_eq_zero_or_one (m / 2 ^ i) with e | e
  ·rw [e, Nat.mul_zero]; simp
  ·rw [e, Nat.mul_one]
   constructor
   ·intro _; exact .inr ⟨rfl, h⟩
   ·intro _; omega
 ·have h1 : m % 2 ^ (i + 1) % 2 ^ L = m % 2 ^ i % 2 ^ L := by
   rw [hm, Nat.add_mod, show 2 ^ i * (m / 2 ^ i % 2) % 2 ^ L = 0 from Nat.mod_eq_zero_of_dvd (Nat.dvd_trans (Nat.pow_dvd_pow 2 h) (Nat.dvd_mul_right _ _)), Nat.add_zero, Nat.mod_mod]
  rw [h1]
  constructor
  ·exact .inl
  ·rintro (h2 | ⟨_, h2⟩)
   ·exact h2
   ·omega

set_option maxRecDepth 20000
set_option maxRecDepth 10000
def Acv (b : List UInt8) (k m : Nat) : D := if m % 2 ^ (8 * b.length - k) ≠ 0 then .tup [.sl false true (AH (AaA b k m)), Ar 0] else .tup [.sl false true [], Ar 2]
theorem Adl (b : List UInt8) (k m : Nat) (hb : b.length ≤ 1000000) (hk : k < 8 * b.length) (hm : m < 4294967296) : VP Tryz.prog 28 [CV b, Ar k, .lit (.int .u32 (m : Int))] (· = .ret (Acv b k m)) := by
 have hbl := AA b
 refine VP.le ?_
 refine Am fun B => ?_
 refine AC ?_
 repeat' (first | refine Al ?_ | ((fail_if_success (with_reducible refine AC ?_)); refine Ak ?_) | refine nc ?_ ?_ | (with_reducible intro _ <;> (try (exfalso; omega))) | refine Ad ?_ | (refine nd ?_ ?_ <;> intro hg <;> first | exact xo hg | rw [hg]))
 refine AC ?_
 refine AC ?_
 repeat' (first | refine Al ?_ | ((fail_if_success (with_reducible refine AC ?_)); refine Ak ?_) | refine nc ?_ ?_ | (with_reducible intro _ <;> (try (exfalso; omega))) | refine Ad ?_ | (refine nd ?_ ?_ <;> intro hg <;> first | exact xo hg | rw [hg]))
 all_goals first | (exfalso; omega) | skip
 refine AC ?_
 repeat' (first | refine Al ?_ | ((fail_if_success (with_reducible refine AC ?_)); refine Ak ?_) | refine nc ?_ ?_ | (with_reducible intro _ <;> (try (exfalso; omega))) | refine Ad ?_ | (refine nd ?_ ?_ <;> intro hg <;> first | exact xo hg | rw [hg]))
 refine AC ?_
 repeat' (first | refine Al ?_ | ((fail_if_success (with_reducible refine AC ?_)); refine Ak ?_) | refine nc ?_ ?_ | (with_reducible intro _ <;> (try (exfalso; omega))) | refine Ad ?_ | (refine nd ?_ ?_ <;> intro hg <;> first | exact xo hg | rw [hg]))
 refine AC ?_
 repeat' (first | refine Al ?_ | ((fail_if_success (with_reducible refine AC ?_)); refine Ak ?_) | refine nc ?_ ?_ | (with_reducible intro _ <;> (try (exfalso; omega))) | refine Ad ?_ | (refine nd ?_ ?_ <;> intro hg <;> first | exact xo hg | rw [hg]))
 refine AC ?_
 repeat' (first | refine Al ?_ | ((fail_if_success (with_reducible refine AC ?_)); refine Ak ?_) | refine nc ?_ ?_ | (with_reducible intro _ <;> (try (exfalso; omega))) | refine Ad ?_ | (refine nd ?_ ?_ <;> intro hg <;> first | exact xo hg | rw [hg]))
 refine AC ?_
 refine AC ?_
 repeat' (first | refine Al ?_ | ((fail_if_success (with_reducible refine AC ?_)); refine Ak ?_) | refine nc ?_ ?_ | (with_reducible intro _ <;> (try (exfalso; omega))) | refine Ad ?_ | (refine nd ?_ ?_ <;> intro hg <;> first | exact xo hg | rw [hg]))
 refine BT (fun i : Nat => ⟨[(28, .d (.lit (.int .i64 (i : Int)))), (10, .d (.lit (.bool (decide (m % 2 ^ i % 2 ^ (8 * b.length - k) ≠ 0))))), (9, .row 3 0), (8, .fn (.func 62) [] [.ptr 2 0, .ptr 1 0, .ptr 0 0]), (4, .ptr 1 0)],
  [.r true true 3 0 5 1 (AH (AaA b k (m % 2 ^ i))), .c 2 0 [.d (.lit (.int .u32 (m : Int)))], .c 1 0 [.d (Ar k)], .c 0 0 [.d (CV b)]], 4⟩) (fun i => i ≤ 32) (fun i => 32 - i) 0 (by
   simp only [Nat.pow_zero, Nat.mod_one, Nat.zero_mod, ne_eq, not_true_eq_false, decide_false, Ado]
   exact (AI)) (by omega) fun i hi => ?_
 rcases Nat.lt_or_ge i 32 with h | h
 ·have hst := AcP b k m i
  have hso := AcQ m (8 * b.length - k) i
  have hu : Ke .u32 m := ⟨by decide, hm⟩
  have hu2 : Ke .u32 (m / 2 ^ i) := QB hu (Nat.lt_of_le_of_lt (Nat.div_le_self _ _) hm)
  have htl := AaC b k (m % 2 ^ i)
  have htl2 := AA (AaA b k (m % 2 ^ i))
  obtain ⟨L, hL⟩ : ∃ L, AaA b k (m % 2 ^ i) = L := ⟨_, rfl⟩
  rw [hL] at hst htl htl2 ⊢
  obtain ⟨s0, hs0⟩ : ∃ s0, decide (m % 2 ^ i % 2 ^ (8 * b.length - k) ≠ 0) = s0 := ⟨_, rfl⟩
  rw [hs0] at hso ⊢
  have hbi : Nat.ble i IntKind.u32.bits = true := Nat.ble_eq_true_of_le (by show i ≤ 32; omega)
  have hj : k + i < 9223372036854775808 := by omega
  by_cases hin : k + i < 8 * b.length
  ·obtain ⟨x, hx⟩ : ∃ x, L[(k + i) / 8]? = some x := ⟨_, List.getElem?_eq_getElem (by omega)⟩
   have hx2 : (AH L)[(((k + i) / 8 : Nat) : Int).toNat]? = some [.lit (.int .u8 (x.toNat : Int))] := by rw [Int.toNat_natCast, AH, List.getElem?_map, hx]; rfl
   have hux : Ke .u8 x.toNat := ⟨by decide, x.toNat_lt⟩
   have hup : Ke .u8 (2 ^ ((k + i) % 8)) := ⟨by decide, show 2 ^ ((k + i) % 8) < 2 ^ 8 from Nat.pow_lt_pow_right (by omega) (Nat.mod_lt (k + i) (by decide))⟩
   repeat' (first | refine S8 (b' := i) ?_ (hb := hbi) | refine WF 1 ?_ | refine WK ?_ (h := fun _ => AgV (a' := k + i) rfl rfl rfl hj) | refine WK ?_ (h := fun _ => AgU (a' := k + i) rfl rfl rfl) | refine WK ?_ (h := fun _ => AgT rfl rfl rfl (Nat.mod_lt _ (by decide))) | refine WK ?_ (h := fun _ => Yu (a' := x.toNat) rfl rfl rfl rfl hux hup) | refine Ni (a' := x.toNat) ?_ (ha := hux) (hb := hup) | refine Al ?_ | (refine Ay ?_; first | refine Ae 62 fun _ => ?_) | refine Ak ?_ | refine nc ?_ ?_ | (with_reducible intro _ <;> (try (exfalso; omega))) | refine Ad ?_ | (refine nd ?_ ?_ <;> intro hg <;> first | exact xo hg | rw [hg]))
   have hb1 : m / 2 ^ i % 2 = 1 := by omega
   rw [if_pos ⟨hb1, hin⟩] at hst
   have hL2 : (AH L).set (((k + i) / 8 : Nat) : Int).toNat [.lit (.int .u8 ((x.toNat ^^^ 2 ^ ((k + i) % 8) : Nat) : Int))] = AH (AaA b k (m % 2 ^ (i + 1))) := by
    have hg : L.getD ((k + i) / 8) 0 = x := by rw [List.getD_eq_getElem?_getD, hx]; rfl
    have hlt : x.toNat ^^^ 2 ^ ((k + i) % 8) < 256 := Nat.xor_lt_two_pow (n := 8) hux.2 hup.2
    rw [hst, hg, Int.toNat_natCast, AH, AH, List.map_set]
    generalize x.toNat ^^^ 2 ^ ((k + i) % 8) = v at *
    have hv : (UInt8.ofNat v).toNat = v := by rw [UInt8.toNat_ofNat']; exact Nat.mod_eq_of_lt hlt
    simp only [vb, hv]
   ·have hf : decide (m % 2 ^ (i + 1) % 2 ^ (8 * b.length - k) ≠ 0) = true := by rw [hso, decide_eq_true (show m / 2 ^ i % 2 = 1 ∧ i < 8 * b.length - k from ⟨hb1, by omega⟩), Bool.or_true]
    refine AU (i + 1) (by omega) (by omega) ?_
    try simp only []
    rw [show (DD [D.lit (Value.int IntKind.u8 (x.toNat : Int))] 0 (AT (D.lit (Value.int IntKind.u8 ((x.toNat ^^^ 2 ^ ((k + i) % 8) : Nat) : Int))))) = [.lit (.int .u8 ((x.toNat ^^^ 2 ^ ((k + i) % 8) : Nat) : Int))] from rfl, hL2, hf, show (((i + 1 : Nat)) : Int) = (i : Int) + 1 from rfl]
    exact (AI)
   all_goals
    rw [if_neg (fun h => by omega)] at hst
    have hf : decide (m % 2 ^ (i + 1) % 2 ^ (8 * b.length - k) ≠ 0) = s0 := by rw [hso, decide_eq_false (fun h => by omega), Bool.or_false]
    refine AU (i + 1) (by omega) (by omega) ?_
    try simp only []
    rw [hst, hf, show (((i + 1 : Nat)) : Int) = (i : Int) + 1 from rfl]
    exact (AI)
  ·rw [if_neg (fun h => hin h.2)] at hst
   have hf : decide (m % 2 ^ (i + 1) % 2 ^ (8 * b.length - k) ≠ 0) = s0 := by rw [hso, decide_eq_false (fun h => by omega), Bool.or_false]
   repeat' (first | refine S8 (b' := i) ?_ (hb := hbi) | refine WF 1 ?_ | refine Al ?_ | (refine Ay ?_; first | refine Ae 62 fun _ => ?_) | refine Ak ?_ | refine nc ?_ ?_ | (with_reducible intro _ <;> (try (exfalso; omega))) | refine Ad ?_ | (refine nd ?_ ?_ <;> intro hg <;> first | exact xo hg | rw [hg]))
   all_goals first | (exfalso; omega) | skip
   all_goals
    refine AU (i + 1) (by omega) (by omega) ?_
    try simp only []
    rw [hst, hf, show (((i + 1 : Nat)) : Int) = (i : Int) + 1 from rfl]
    exact (AI)
 ·obtain rfl : i = 32 := by omega
  rw [show m % 2 ^ 32 = m from Nat.mod_eq_of_lt hm]
  unfold Acv
  by_cases hz : m % 2 ^ (8 * b.length - k) ≠ 0
  ·rw [decide_eq_true hz, if_pos hz]
   repeat' (first | refine Al ?_ | refine Ak ?_ | refine nc ?_ ?_ | (with_reducible intro _ <;> (try (exfalso; omega))) | refine Ad ?_ | (refine nd ?_ ?_ <;> intro hg <;> first | exact xo hg | rw [hg]))
   exact AP _
  ·rw [decide_eq_false hz, if_neg hz]
   repeat' (first | refine Al ?_ | refine Ak ?_ | refine nc ?_ ?_ | (with_reducible intro _ <;> (try (exfalso; omega))) | refine Ad ?_ | (refine nd ?_ ?_ <;> intro hg <;> first | exact xo hg | rw [hg]))
   simp only [HN]
   infer_instance

set_option maxRecDepth 20000
set_option maxRecDepth 10000
set_option maxHeartbeats 4000000
theorem AfE (b : List UInt8) (n : Nat) : Fv none (some (n : Int)) (AH b) = AH (b.take n) := by unfold AH; rw [GD]; simp

end Go.Proofs.YtbgcjnfhadhjeaaGreat