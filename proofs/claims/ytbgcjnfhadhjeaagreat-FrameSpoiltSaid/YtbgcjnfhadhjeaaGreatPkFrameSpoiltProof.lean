/- FrameSpoilt: for every input the law returns true, and turns nothing that was there; no condition. -/
import Derived.Test.YtbgcjnfhadhjeaaGreatRows
import Derived.Test.YtbgcjnfhadhjeaaGreatPkFrameSpoiltProofa
import Derived.Test.YtbgcjnfhadhjeaaGreatPk34
import Derived.Test.YtbgcjnfhadhjeaaGreatPk30
import Derived.Test.YtbgcjnfhadhjeaaGreatPk28
import Derived.Test.YtbgcjnfhadhjeaaGreatPk26
import Derived.Test.YtbgcjnfhadhjeaaGreatPk49
import Derived.Test.YtbgcjnfhadhjeaaGreatPk53
import Derived.Test.YtbgcjnfhadhjeaaGreatPk50
import Derived.Test.YtbgcjnfhadhjeaaGreatPk35
namespace Go.Proofs.YtbgcjnfhadhjeaaGreat
set_option maxRecDepth 20000
open Go.RowKit
set_option maxRecDepth 10000
set_option maxHeartbeats 8000000
theorem Ahh {P : Program} {cx : Cx} {s : St} {t yt ty : TypeId} {x y : Operand} {k : IntKind} {a b : Int} (hx : Af s x = some (I k a)) (hy : Af s y = some (I k b)) (hb : b ≠ 0) : Bn P cx (.binOp .rem t x y yt) ty s (I k (a.tmod b)) := NL hx hy fun w => by simp [binOp, Op.intDiv, hb]
theorem Acs {P : Program} {cx : Cx} {ops rest : List Oper} {tm : List (Nat × V)} {st : List E} {nb : Nat} {Q : VE → St → Prop} {d : Tmp} {t yt ty : TypeId} {x y : Operand} {k : IntKind} {a b : Int} {pos : String} {af : Array Edge} (kk : VL P cx ops rest ⟨(d, I k (a.tmod b)) :: tm, st, nb⟩ Q)
  (hx : Af ⟨tm, st, nb⟩ x = some (I k a) := by rfl) (hy : Af ⟨tm, st, nb⟩ y = some (I k b) := by rfl) (hb : b ≠ 0 := by omega) (hd : Nat.blt d cx.N = true := by rfl) : VL P cx ops (⟨some d, .binOp .rem t x y yt, ty, pos, af, none⟩ :: rest) ⟨tm, st, nb⟩ Q := HV kk (IB (h := Ahh hx hy hb) (hd := hd))
theorem AfA (c : List UInt8) (i m : Nat) (x : UInt8) (hx : c[i]? = some x) (hm : m < 256) : (AH c).set i [.lit (.int .u8 ((x.toNat ^^^ m : Nat) : Int))] = AH (AaD c i m) := by
 have hg : c.getD i 0 = x := by rw [List.getD_eq_getElem?_getD, hx]; rfl
 have hlt : x.toNat ^^^ m < 256 := Nat.xor_lt_two_pow (n := 8) x.toNat_lt hm
 rw [AaD, hg, AH, AH, List.map_set]
 generalize x.toNat ^^^ m = v at *
 have hv : (UInt8.ofNat v).toNat = v := by rw [UInt8.toNat_ofNat']; exact Nat.mod_eq_of_lt hlt
 simp only [vb, hv]
abbrev spT (q : List UInt8) (m : Nat) : List (Nat × V) := [(8, .d (.sl false true (AH q))), (7, .ptr 2 0), (4, .ptr 1 0), (2, .d (.lit (.int .u32 (m : Int))))]
abbrev spE (f : Fr) (a0 a1 : Int) : List E := [.c 2 0 ((Gl f).map .d), .c 1 0 [.d (Ar a0), .d (Ar a1)]]
theorem Ahb (f : Fr) (hf : Eb f = true) (m i : Nat) (hi : i < (A5 f).length) (B : Nat) : VW Tryz.prog ⟨152, none, B, 0, some B, []⟩ (Mk 11 (Ja Tryz.f7)) ⟨[(17, .row 5 0), (7, .ptr 2 0), (2, .d (.lit (.int .u32 (m : Int))))], [.r true true 5 0 5 1 (AH (AS (AaD (A5 f) i (m % 256)))), .c 2 0 ((Gl f).map .d)], 6⟩ (Ff Tryz.prog [.tmp 6] (· = .ret (.lit (.bool true)))) := by
 have hm8 : m % 256 < 256 := Nat.mod_lt _ (by decide)
 have hml := Acr (A5 f) i (m % 256)
 have hil := KX hf
 rw [KY] at hil
 have hl : (AS (AaD (A5 f) i (m % 256))).length ≤ 1204 := by rw [KY]; omega
 have hsame := fun g (hg : Eb g = true) => Ac8 hf hg hi hm8
 have hos := Jt (AaD (A5 f) i (m % 256))
 generalize AS (AaD (A5 f) i (m % 256)) = q at *
 have hw : IntKind.u8.wrap (m : Int) = ((m % 256 : Nat) : Int) := QS m
 have c1 := Jp q (by omega)
 rcases PZ q with ⟨_, e⟩ | ⟨e, _⟩ | ⟨g, e, hg, hs⟩
 ·rw [e] at hos; cases hos
 ·simp only [e] at c1
  simp only [Gl, Bx, Cj, Db, Fr.zero, Vc.zero, Ye, List.map_nil, Int.ofNat_zero, Int.cast_ofNat_Int] at c1
  refine AC ?_
  repeat' (first | refine Al ?_ | (refine Ay ?_; first | refine cz (c1) ?_) | refine Ak ?_ | refine nc ?_ ?_ | (with_reducible intro _ <;> (try (exfalso; omega))) | refine Ad ?_ | (refine nd ?_ ?_ <;> intro hg <;> first | exact xo hg | rw [hg]))
  all_goals first | rfl | (exfalso; omega) | trace_state
 ·have c2 := FG g (Aah hg)
  unfold ER at c2
  rw [if_pos hg, hs] at c2
  have c3 := HR q q
  rw [decide_eq_true rfl] at c3
  have c4 := Dx f g
  rw [hsame g hg hs] at c4
  obtain ⟨n, hn⟩ : ∃ n, m % 256 = n := ⟨_, rfl⟩
  rw [hn] at hw c4
  rw [show decide (n = 0) = decide ((n : Int) = 0) from decide_eq_decide.2 (by omega)] at c4
  simp only [e] at c1
  simp only [Gl, Bx, Cj, Db] at c1 c2 c4 ⊢
  refine AC ?_
  repeat' (first | rw [hw] | refine Al ?_ | (refine Ay ?_; first | refine cz (c1) ?_ | refine cz (c2) ?_ | refine cz (c3) ?_ | refine cz (c4) ?_) | refine Ak ?_ | refine nc ?_ ?_ | (with_reducible intro _ <;> (try (exfalso; omega))) | refine Ad ?_ | (refine nd ?_ ?_ <;> intro hg <;> first | exact xo hg | rw [hg]))
  all_goals first | rfl | (exfalso; omega) | (rw [decide_eq_true rfl]) | trace_state
theorem AgX (L : List (List D)) (n : Nat) : Fv (some (n : Int)) none L = L.drop n := by rw [GD]; simp
theorem Ahc (f : Fr) (hf : Eb f = true) (a0 a1 : Int) (m : Nat) (B : Nat) : VW Tryz.prog ⟨152, none, B, 0, some B, []⟩ (Mk 7 (Ja Tryz.f7)) ⟨spT (AS (A5 f)) m, spE f a0 a1, 3⟩ (Ff Tryz.prog [.tmp 6] (· = .ret (.lit (.bool true)))) := by
 have hil := KX hf
 rw [KY] at hil
 have hpos : 0 < (A5 f).length := by simp only [A5, List.length_append, As]; omega
 obtain ⟨i, hi, hkk⟩ := Acu a1 (A5 f).length hpos (by omega)
 have h4 := fun hi => Ahb f hf m i hi B
 have hm8 : m % 256 < 256 := Nat.mod_lt _ (by decide)
 have hw : IntKind.u8.wrap (m : Int) = ((m % 256 : Nat) : Int) := QS m
 unfold AS
 generalize A5 f = c at *
 specialize h4 hi
 have hbl := AA c
 have cs := ID (AaD c i (m % 256)) (by rw [Acr]; omega)
 simp only [spT]
 rw [Dz, LS]
 have c1 := TP c (by omega)
 have c2 := R3 (E7 c) (N7 c)
 generalize E7 c = s at *
 have hcut : Fv none (some ((((AH c).length + 4 : Nat) : Int) - 4)) (AH c ++ [[.lit (vb (UInt8.ofNat s))], [.lit (vb (UInt8.ofNat (s / 256)))], [.lit (vb (UInt8.ofNat (s / 65536)))], [.lit (vb (UInt8.ofNat (s / 16777216)))]]) = AH c := by
  rw [show (((AH c).length + 4 : Nat) : Int) - 4 = (((AH c).length : Nat) : Int) by omega, GD]; simp
 have hcut2 : Fv (some ((((AH c).length + 4 : Nat) : Int) - 4)) none (AH c ++ [[.lit (vb (UInt8.ofNat s))], [.lit (vb (UInt8.ofNat (s / 256)))], [.lit (vb (UInt8.ofNat (s / 65536)))], [.lit (vb (UInt8.ofNat (s / 16777216)))]]) = [[.lit (vb (UInt8.ofNat s))], [.lit (vb (UInt8.ofNat (s / 256)))], [.lit (vb (UInt8.ofNat (s / 65536)))], [.lit (vb (UInt8.ofNat (s / 16777216)))]] := by
  rw [show (((AH c).length + 4 : Nat) : Int) - 4 = (((AH c).length : Nat) : Int) by omega, AgX, List.drop_left]
 generalize UInt8.ofNat s = y0 at *
 generalize UInt8.ofNat (s / 256) = y1 at *
 generalize UInt8.ofNat (s / 65536) = y2 at *
 generalize UInt8.ofNat (s / 16777216) = y3 at *
 obtain ⟨x, hx⟩ : ∃ x, c[i]? = some x := ⟨_, List.getElem?_eq_getElem hi⟩
 have hx2 : (AH c)[((i : Nat) : Int).toNat]? = some [.lit (.int .u8 (x.toNat : Int))] := by rw [Int.toNat_natCast, AH, List.getElem?_map, hx]; rfl
 have hset := AfA c i (m % 256) x hx hm8
 rw [← hbl] at hkk hi
 obtain ⟨n, hn⟩ : ∃ n, m % 256 = n := ⟨_, rfl⟩
 rw [hn] at hw hset cs h4 hm8
 have hux : Ke .u8 x.toNat := ⟨by decide, x.toNat_lt⟩
 have hun : Ke .u8 n := ⟨by decide, hm8⟩
 obtain ⟨ys, hyl, hys, g0, g1, g2, g3⟩ : ∃ ys : List (List D), ys.length = 4 ∧ ([[.lit (vb y0)], [.lit (vb y1)], [.lit (vb y2)], [.lit (vb y3)]] : List (List D)) = ys ∧ ys[(0 : Int).toNat]? = some [.lit (vb y0)] ∧ ys[((0 : Int) + 1).toNat]? = some [.lit (vb y1)] ∧ ys[((0 : Int) + 1 + 1).toNat]? = some [.lit (vb y2)] ∧ ys[((0 : Int) + 1 + 1 + 1).toNat]? = some [.lit (vb y3)] := ⟨_, rfl, rfl, rfl, rfl, rfl, rfl⟩
 rw [hys] at hcut hcut2 ⊢
 have hLl : (AH c ++ ys).length = (AH c).length + 4 := by rw [List.length_append, hyl]
 have hsz : ∀ y ∈ AH c ++ ys, y.length = 1 := by
  rw [← hys]
  intro y hy
  rcases List.mem_append.1 hy with hy | hy
  ·simp only [AH, List.mem_map] at hy
   obtain ⟨_, _, rfl⟩ := hy
   rfl
  ·simp only [List.mem_cons, List.not_mem_nil, or_false] at hy
   rcases hy with rfl | rfl | rfl | rfl <;> rfl
 have hsz2 : ∀ y ∈ ys, y.length = 1 := fun y hy => hsz y (List.mem_append.2 (.inr hy))
 generalize AH c ++ ys = L at *
 rw [← hLl] at hcut hcut2
 refine AC ?_
 repeat' (first | rw [hcut] | rw [hcut2] | refine CW ?_ | refine GU ?_ | refine Al ?_ | (refine Ay ?_; first | refine Ae 29 fun _ => ?_ | refine cz (c1) ?_ | refine cz (c2) ?_ | refine Ae 16 fun _ => ?_ | refine Bg ?_ | refine On ?_) | refine Ak ?_ | refine nc ?_ ?_ | (with_reducible intro _ <;> (try (exfalso; omega))) | refine Ad ?_ | (refine nd ?_ ?_ <;> intro hg <;> first | exact xo hg | rw [hg]))
 refine AF 5 ?_
 repeat' (first | rw [List.nil_append] | rw [hcut] | rw [hw] | rw [hkk] | refine Acs ?_ | refine Ni (a' := x.toNat) (b' := n) ?_ (ha := hux) (hb := hun) | refine WK ?_ (h := fun _ => Ry rfl rfl (by omega) (by omega)) | refine Al ?_ | refine Ak ?_ | refine nc ?_ ?_ | (with_reducible intro _ <;> (try (exfalso; omega))) | refine Ad ?_ | (refine nd ?_ ?_ <;> intro hg <;> first | exact xo hg | rw [hg]))
 all_goals first | (exfalso; omega) | skip
 rw [show DD [D.lit (Value.int IntKind.u8 (x.toNat : Int))] 0 (AT (D.lit (Value.int IntKind.u8 ((x.toNat ^^^ n : Nat) : Int)))) = [.lit (.int .u8 ((x.toNat ^^^ n : Nat) : Int))] from rfl, Int.toNat_natCast, hset]
 repeat' (first | refine Al ?_ | (refine Ay ?_; first | refine cz (cs) ?_) | ((fail_if_success (with_reducible refine AC ?_)); refine Ak ?_) | refine nc ?_ ?_ | (with_reducible intro _ <;> (try (exfalso; omega))) | refine Ad ?_ | (refine nd ?_ ?_ <;> intro hg <;> first | exact xo hg | rw [hg]))
 exact Y0 (AI) h4
theorem Ahd (f : Fr) (hf : Eb f = true) (a0 a1 : Int) (m : Nat) (B : Nat) : VW Tryz.prog ⟨152, none, B, 0, some B, []⟩ (Mk 6 (Ja Tryz.f7)) ⟨spT (AS (A5 f)) m, spE f a0 a1, 3⟩ (Ff Tryz.prog [.tmp 6] (· = .ret (.lit (.bool true)))) := by
 have h3 := Ahc f hf a0 a1 m B
 have hil := KX hf
 have hpos : 0 < (AS (A5 f)).length := by rw [KY]; omega
 obtain ⟨i, hi, hkk⟩ := Acu a1 (AS (A5 f)).length hpos (by omega)
 have hfr := AcD hf hi
 have c1 := Jp ((AS (A5 f)).take i) (by simp; omega)
 obtain ⟨⟨g, e⟩, hge⟩ : ∃ z, CY ((AS (A5 f)).take i) = z := ⟨_, rfl⟩
 rw [hge] at hfr c1
 obtain ⟨rfl, he⟩ := hfr
 have c2 := Dx .zero .zero
 rw [decide_eq_true rfl] at c2
 have hcut := AfE (AS (A5 f)) i
 have hbl := AA (AS (A5 f))
 rw [← hbl] at hkk hi hpos hil
 clear hge
 simp only at he c1
 generalize AS (A5 f) = q at *
 simp only [Gl, Bx, Cj, Db, Fr.zero, Vc.zero, Ye, List.map_nil, Int.ofNat_zero, Int.cast_ofNat_Int] at c1 c2
 refine Ec (fun _ : Unit => ⟨spT q m, spE f a0 a1, 3⟩) (fun _ => True) ?_ fun _ _ => h3
 repeat' (first | rw [hkk] | rw [hcut] | refine Acs ?_ | refine Al ?_ | (refine Ay ?_; first | refine cz (c1) ?_ | refine cz (c2) ?_) | refine Ak ?_ | refine nc ?_ ?_ | (with_reducible intro _ <;> (try (exfalso; omega))) | refine Ad ?_ | (refine nd ?_ ?_ <;> intro hg <;> first | exact xo hg | rw [hg]))
 all_goals first | (exfalso; omega) | exact DG () trivial (AI) | trace_state
theorem Ahe (f : Fr) (hf : Eb f = true) (a0 a1 : Int) (m : Nat) (hm : m < 4294967296) (B : Nat) : VW Tryz.prog ⟨152, none, B, 0, some B, []⟩ (Mk 5 (Ja Tryz.f7)) ⟨spT (AS (A5 f)) m, spE f a0 a1, 3⟩ (Ff Tryz.prog [.tmp 6] (· = .ret (.lit (.bool true)))) := by
 have h2 := Ahd f hf a0 a1 m B
 have hil := KX hf
 have hpos : 0 < (AS (A5 f)).length := by rw [KY]; omega
 obtain ⟨k, hk, hkk⟩ := Acu a0 (8 * (AS (A5 f)).length) (by omega) (by omega)
 have cs := Adl (AS (A5 f)) k m (by omega) hk hm
 have hot := Ac3 (b := A5 f) (k := k) (m := m) (by omega) hm
 have c1 := Jp (AaA (AS (A5 f)) k m) (by rw [AaC]; omega)
 have c2 := Dx .zero .zero
 rw [decide_eq_true rfl] at c2
 have hbl := AA (AS (A5 f))
 rw [Int.natCast_mul, ← hbl, Int.cast_ofNat_Int] at hkk
 unfold Acv at cs
 rw [← hbl] at hil
 simp only [Ar] at cs
 by_cases hz : m % 2 ^ (8 * (AS (A5 f)).length - k) ≠ 0
 ·rw [if_pos hz] at cs
  have e : CY (AaA (AS (A5 f)) k m) = (.zero, 120) := by unfold CY; rw [hot hz]
  rw [e] at c1
  clear hot e hz
  generalize AaA (AS (A5 f)) k m = u at *
  generalize AS (A5 f) = q at *
  simp only [Gl, Bx, Cj, Db, Fr.zero, Vc.zero, Ye, List.map_nil, Int.ofNat_zero, Int.cast_ofNat_Int] at c1 c2
  refine Ec (fun _ : Unit => ⟨spT q m, spE f a0 a1, 3⟩) (fun _ => True) ?_ fun _ _ => h2
  repeat' (first | rw [hkk] | refine Acs ?_ | refine Al ?_ | (refine Ay ?_; first | refine cz (cs) ?_ | refine cz (c1) ?_ | refine cz (c2) ?_) | refine Ak ?_ | refine nc ?_ ?_ | (with_reducible intro _ <;> (try (exfalso; omega))) | refine Ad ?_ | (refine nd ?_ ?_ <;> intro hg <;> first | exact xo hg | rw [hg]))
  all_goals first | (exfalso; omega) | exact DG () trivial (AI) | trace_state
 ·rw [if_neg hz] at cs
  clear hot hz c1
  generalize AS (A5 f) = q at *
  refine Ec (fun _ : Unit => ⟨spT q m, spE f a0 a1, 3⟩) (fun _ => True) ?_ fun _ _ => h2
  repeat' (first | rw [hkk] | refine Acs ?_ | refine Al ?_ | (refine Ay ?_; first | refine cz (cs) ?_) | refine Ak ?_ | refine nc ?_ ?_ | (with_reducible intro _ <;> (try (exfalso; omega))) | refine Ad ?_ | (refine nd ?_ ?_ <;> intro hg <;> first | exact xo hg | rw [hg]))
  all_goals first | (exfalso; omega) | exact DG () trivial (AI) | trace_state
theorem Aha (x : Fr) (a0 a1 : Int) (m : Nat) (hm : m < 4294967296) : VP Tryz.prog 7 [.agg (Bx x), .agg [Ar a0, Ar a1], .lit (.int .u32 (m : Int))] (· = .ret (.lit (.bool true))) := by
 have cw := Jg
 have co := HF x
 have hp := IL x
 generalize NM x = f at *
 have c1 := FG f hp
 have c3 := Dk f hp
 unfold ER at c1
 simp only [Bx, Gl, Cj, Db] at co c1 c3 ⊢
 refine Am fun B => ?_
 refine AC ?_
 repeat' (first | refine Al ?_ | ((fail_if_success (with_reducible refine AC ?_)); refine Ak ?_) | refine nc ?_ ?_ | (with_reducible intro _ <;> (try (exfalso; omega))) | refine Ad ?_ | (refine nd ?_ ?_ <;> intro hg <;> first | exact xo hg | rw [hg]))
 refine AC ?_
 refine AC ?_
 repeat' (first | refine Al ?_ | (refine Ay ?_; first | refine cz (cw) ?_) | ((fail_if_success (with_reducible refine AC ?_)); refine Ak ?_) | refine nc ?_ ?_ | (with_reducible intro _ <;> (try (exfalso; omega))) | refine Ad ?_ | (refine nd ?_ ?_ <;> intro hg <;> first | exact xo hg | rw [hg]))
 refine AC ?_
 repeat' (first | refine Al ?_ | (refine Ay ?_; first | refine cz (co) ?_) | ((fail_if_success (with_reducible refine AC ?_)); refine Ak ?_) | refine nc ?_ ?_ | (with_reducible intro _ <;> (try (exfalso; omega))) | refine Ad ?_ | (refine nd ?_ ?_ <;> intro hg <;> first | exact xo hg | rw [hg]))
 clear cw co
 by_cases hf : Eb f = true
 ·simp only [if_pos hf] at c1
  have h1 := Ahe f hf a0 a1 m hm B
  have hbl := AA (AS (A5 f))
  generalize AS (A5 f) = q at *
  refine AC ?_
  repeat' (first | refine Al ?_ | (refine Ay ?_; first | refine cz (c1) ?_) | ((fail_if_success (with_reducible refine AC ?_)); refine Ak ?_) | refine nc ?_ ?_ | (with_reducible intro _ <;> (try (exfalso; omega))) | refine Ad ?_ | (refine nd ?_ ?_ <;> intro hg <;> first | exact xo hg | rw [hg]))
  refine AC ?_
  refine AC ?_
  repeat' (first | refine Al ?_ | ((fail_if_success (with_reducible refine AC ?_)); refine Ak ?_) | refine nc ?_ ?_ | (with_reducible intro _ <;> (try (exfalso; omega))) | refine Ad ?_ | (refine nd ?_ ?_ <;> intro hg <;> first | exact xo hg | rw [hg]))
  all_goals first | (exfalso; omega) | exact Y0 (AI) h1 | trace_state
 ·simp only [if_neg hf] at c1 c3
  have hb0 : (AH []).length = 0 := rfl
  repeat' (first | refine Al ?_ | (refine Ay ?_; first | refine cz (c1) ?_ | refine cz (c3) ?_) | refine Ak ?_ | refine nc ?_ ?_ | (with_reducible intro _ <;> (try (exfalso; omega))) | refine Ad ?_ | (refine nd ?_ ?_ <;> intro hg <;> first | exact xo hg | rw [hg]))
  all_goals first | rfl | (exfalso; omega) | trace_state

set_option maxRecDepth 20000
theorem Afy : EF Tryz.prog 56 (fun _ : Int × Int => True) (fun z => [Ar z.1, Ar z.2]) :=
 (EF.array (n := 2) CR Tryz.underlying56 (by kernel_rfl)).map (fun y h => by
  obtain ⟨h1, _⟩ := h
  match y, h1 with
  | [a, b], _ => exact ⟨(a, b), trivial, rfl⟩) (fun z hz => by rw [show Tryz.prog.cellsOf 56 = 2 by kernel_rfl]; rfl)
theorem Afx : EF Tryz.prog 57 (fun n : Int => 0 ≤ n ∧ n < 4294967296) (fun n => [.lit (.int .u32 n)]) :=
 (EF.int Tryz.underlying57 (by kernel_rfl)).map (fun y h => ⟨y, by have := bounds_u32 h; omega, rfl⟩) (fun _ _ => by rw [show Tryz.prog.cellsOf 57 = 1 by kernel_rfl]; rfl)
theorem Adp (x : Fr) (z : Int × Int) (n : Int) (hn : 0 ≤ n ∧ n < 4294967296) : VP Tryz.prog 7 [.agg (Bx x), .agg [Ar z.1, Ar z.2], .lit (.int .u32 n)] (· = .ret (.lit (.bool true))) := by
 have h := Aha x z.1 z.2 n.toNat (by omega)
 rw [Int.toNat_of_nonneg hn.1] at h
 exact h

open Go.ChangeShapes Go.WideShapes Go.ChangeAt Go.RowKit
set_option maxRecDepth 100000
set_option maxRecDepth 100000 in
theorem AaK (os : Os) (started : os.Started) (H : Type) (enc : TypeId × Value → H) :
  ReturnsInHanded {} Tryz.checked os 7 .any (Rows.frameSpoiltSpec.pre6 enc Tryz.prog Tryz.f7 Rows.frameSpoiltRow.domain false) (Rows.frameSpoiltSpec.post enc Tryz.prog Tryz.f7 false true false false) := by
 refine returnsInHanded_of_change (C := Tryz.checked) VJ started (by kernel_rfl) Tryz.func7
  (ChangeSpec.witness6 (enc := enc) (C := Tryz.checked) false ⟨#[], #[.agg #[.int .i64 0, .int .u64 0, .int .i64 0, .int .u64 0, .int .i64 0, .int .i64 0, .slice none 0 0, .slice none 0 0, .int .u64 0, .int .u64 0, .int .u64 0, .int .u64 0, .int .u64 0, .int .u64 0, .int .u64 0, .int .u64 0, .int .u64 0, .int .u64 0, .int .u64 0, .int .u64 0, .int .u64 0, .int .u64 0, .int .u64 0, .int .u64 0, .int .u64 0, .int .u64 0, .int .u64 0, .int .u64 0, .int .u64 0, .int .u64 0], .agg #[.int .i64 0, .int .i64 0], .int .u32 0], []⟩ 8 (by kernel_rfl) (by kernel_rfl) (by kernel_rfl) (by kernel_rfl)) ?_
 intro W base args ds gs before hval0 hW hcnd _
 have hval : ∀ (j : Nat) t v, Tryz.f7.params[j]? = some t → args[j]? = some v → Value.okWide Tryz.prog W .any base t v := hval0
 have hW' := hW
 obtain ⟨p, q, hA0, hV, rfl, hfz, hnd⟩ := hW
 have hA : DataW.TrodAll enc Tryz.prog W 0 (fun _ => true) true Tryz.f7.params.toList args.toList ds p := hA0
 rw [Tryz.params7] at hA hval
 obtain ⟨v0, vs0, e0, ds0, p0, q0, hargs, rfl, rfl, h0, r0⟩ := trodAll_cons hA
 obtain ⟨v1, vs1, e1, ds1, p1, q1, rfl, rfl, rfl, h1, r1⟩ := trodAll_cons r0
 obtain ⟨v2, vs2, e2, ds2, p2, q2, rfl, rfl, rfl, h2, r2⟩ := trodAll_cons r1
 obtain ⟨rfl, rfl, rfl⟩ := trodAll_nil r2
 obtain rfl : args = #[v0, v1, v2] := by cases args; simp_all
 obtain ⟨rfl, rfl⟩ := trodVars_none hV
 have k0 := h0
 have lt0 : ∀ x ∈ p0, x.block < W.heap.size := by obtain ⟨m, hm⟩ := k0; exact DataW.trod_lt m _ _ _ hm
 obtain ⟨y0, z0, d0⟩ := Fp Lm Tryz.underlying28 (hval 0 28 v0 rfl rfl) h0
 have k1 := h1
 have lt1 : ∀ x ∈ p1, x.block < W.heap.size := by obtain ⟨m, hm⟩ := k1; exact DataW.trod_lt m _ _ _ hm
 obtain ⟨y1, z1, d1⟩ := Ade Afy Tryz.underlying56 (hval 1 56 v1 rfl rfl) h1
 have k2 := h2
 have lt2 : ∀ x ∈ p2, x.block < W.heap.size := by obtain ⟨m, hm⟩ := k2; exact DataW.trod_lt m _ _ _ hm
 obtain ⟨a2, rfl⟩ := okWide_int Tryz.underlying57 (hval 2 57 v2 rfl rfl)
 obtain ⟨y2, z2, d2⟩ := Pw Afx rfl h2
 clear hA0 hval0
 refine ((Adp y0 y1 y2 z2).2 (fun _ => True) W _ (by simp only [dreps]; exact ⟨_, _, rfl, d0 _, ⟨_, _, rfl, d1 _, ⟨_, _, rfl, d2 _, rfl⟩⟩⟩)).mono fun e W' ⟨bel, r, he, hr⟩ => ?_
 subst he
 obtain ⟨u, rfl, hu⟩ := hr
 simp only [drep] at hu
 subst hu
 exact ⟨_, rfl, _, _, _, [], _, [], hW', trodAll_mk1 (shut_bool Tryz.underlying4 _), (trodAll_cons_mk (Below.trod CM (by kernel_rfl) (of_decide_eq_true (by kernel_rfl)) k0 bel lt0) (trodAll_cons_mk (Below.trod CM (by kernel_rfl) (of_decide_eq_true (by kernel_rfl)) k1 bel lt1) (trodAll_cons_mk (Below.trod CM (by kernel_rfl) (of_decide_eq_true (by kernel_rfl)) k2 bel lt2) trodAll_mk0))), rfl, bel.frame _, fun h => by cases h⟩
theorem AaM : (Rows.frameSpoiltRow.inPlace == Tryz.prog.inPlace 7) = true := by kernel_rfl
theorem AaE : (Rows.frameSpoiltRow.unfollowed == Tryz.prog.unfollowed 7) = true := by kernel_rfl
theorem Abq : (Rows.frameSpoiltRow.recurses == Tryz.prog.recurses 7) = true := by
 have h : Tryz.prog.unfollowed 7 = true := (beq_iff_eq.1 AaE).symm
 unfold Program.recurses; rw [h]; rfl
theorem Abc : (Rows.frameSpoiltRow.named == Tryz.prog.varsNamed 7) = true := by kernel_rfl
theorem Abg : (Rows.frameSpoiltRow.plainKeys == Tryz.prog.plainKeys) = true := by rw [QA]; rfl
theorem Acq : (Rows.frameSpoiltRow.lifted == Tryz.prog.liftsFinal) = true := Lt
theorem Acl : (Tryz.prog.make == some Rows.frameSpoiltRow.make) = true := Qz
theorem AaL : joinedFacts Tryz.prog 7 Tryz.f7 Rows.frameSpoiltSpec Rows.frameSpoiltRow = true := by
 unfold joinedFacts
 simp only [Bool.and_eq_true]
 repeat' refine And.intro ?_ ?_
 all_goals first | with_reducible exact CM | with_reducible exact Hg | with_reducible exact NU | with_reducible exact NV | with_reducible exact AaM | with_reducible exact AaE | with_reducible exact Abq | with_reducible exact Abc | with_reducible exact Abg | with_reducible exact Acq | with_reducible exact Acl | kernel_rfl
theorem Abf : Rows.frameSpoiltRow.holds Tryz.pinned (OpenSpec.ofChange Rows.frameSpoiltSpec) :=
 OpenClaim.holds_of_wide 7 Tryz.f7 rfl rfl rfl rfl rfl rfl rfl ⟨rfl, rfl, rfl, rfl, rfl⟩ rfl rfl rfl rfl rfl (by kernel_rfl) Tryz.func7 AaL
  (of_decide_eq_true (by kernel_rfl)) (by unfold Func.isWrapper; first | (rw [if_pos (by decide +kernel)]; kernel_rfl) | (rw [if_neg (by decide +kernel)]; exact ⟨rfl, rfl⟩))
  (fun os started H enc _ => AaK os started H enc)
theorem frameSpoilt_holds : Rows.FrameSpoiltSaid := Abf
#print axioms frameSpoilt_holds

end Go.Proofs.YtbgcjnfhadhjeaaGreat