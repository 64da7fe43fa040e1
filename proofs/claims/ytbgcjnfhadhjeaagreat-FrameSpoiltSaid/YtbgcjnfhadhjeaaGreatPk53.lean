/- Walks by data and names, part 53: Layer 20, by V: the layer does something. Ways that are joined behind a block. Layer 20, by V: FrameBack. -/
import Derived.ShutString
import Derived.ChangeOld
import Derived.JoinedOf
import Derived.Test.YtbgcjnfhadhjeaaGreatPk51
import Derived.Test.YtbgcjnfhadhjeaaGreatPk47
import Derived.Test.YtbgcjnfhadhjeaaGreatPk52
import Derived.Test.YtbgcjnfhadhjeaaGreatPk26
import Derived.Test.YtbgcjnfhadhjeaaGreatPk3
namespace Go.Proofs.YtbgcjnfhadhjeaaGreat
set_option maxRecDepth 20000
open Go.RowKit
set_option maxRecDepth 10000
set_option maxHeartbeats 8000000
def wS : Fr := { Fr.zero with k := 5, ep := 1 }
def wC : Fr := { Fr.zero with k := 2, si := 1, ix := 4, my := 4, bs := [1] }
theorem AcK : ER Cz = (AS (A5 Cz), 0) := by unfold ER; rw [if_pos (by decide +kernel)]
theorem AcJ : ER wS = (AS (A5 wS), 0) := by unfold ER; rw [if_pos (by decide +kernel)]
theorem AaQ : CY (AS (A5 Cz)) = (Cz, 0) := Ih (by decide +kernel)
theorem AaP : CY (AS (A5 wS)) = (wS, 0) := Ih (by decide +kernel)
theorem AaS : (AS (A5 Cz)).length = 23 := by decide +kernel
theorem AaR : (AS (A5 wS)).length = 157 := by decide +kernel
theorem AcI : CY ((AS (A5 Cz)).take 22) = (.zero, 120) := by
 unfold CY; rw [show DN ((AS (A5 Cz)).take 22) = none by decide +kernel]
theorem AcL : CY [0, 0, 0, 0] = (.zero, 300) := by
 unfold CY; rw [show DN [0, 0, 0, 0] = some [] by decide +kernel]
 simp only [show Gr [] = none by decide +kernel]
theorem AcH : CY [] = (.zero, 120) := by
 unfold CY; rw [show DN [] = none by decide +kernel]
theorem AcG : H5 4 = [69, 112, 111, 99, 104, 44, 32, 83, 105, 116, 101, 44, 32, 86, 101, 99, 116, 111, 114, 44, 32, 70, 108, 111, 111, 114, 44, 32, 70, 108, 111, 111, 114, 83, 101, 113] := by decide +kernel
theorem Ye : AH [] = [] := rfl
theorem Jg : VP Tryz.prog 8 [] (· = .ret (.lit (.bool true))) := by
 have c1 := VN
 have c2 := FG Cz (by decide)
 have c3 := FG wS (by decide)
 simp only [AcK] at c2
 simp only [AcJ] at c3
 have rJ := AaQ
 have rS := AaP
 have lJ := AaS
 have lS := AaR
 have rC := AcI
 have ok : IN [AS (A5 Cz), AS (A5 wS), []] = [Cz, wS] := by
  simp only [IN, List.flatMap_cons, List.flatMap_nil, rJ, rS, AcH]; rfl
 generalize AS (A5 Cz) = bJ at *
 generalize AS (A5 wS) = bS at *
 simp only [Bx, Cj, Db, wS, Fr.zero, Vc.zero, List.map_nil, Int.cast_ofNat_Int] at c3
 have c4 := Jp bJ (by omega)
 simp only [rJ] at c4
 have c5 := Jp (bJ.take 22) (by simp; omega)
 simp only [rC] at c5
 have c6 := Jp [0, 0, 0, 0] (by decide)
 simp only [AcL] at c6
 have hrep : List.replicate (Int.toNat 4) (List.map D.lit [Value.int IntKind.u8 0]) = AH [0, 0, 0, 0] := rfl
 have c7 := Un [bJ, bS, []] (by simp) (by intro b hb; simp only [List.mem_cons, List.not_mem_nil, or_false] at hb; rcases hb with rfl | rfl | rfl <;> first | omega | decide)
 rw [ok] at c7
 have hLL : ([Cz, wS].map Gl).length = 2 := rfl
 simp only [List.length_cons, List.length_nil, List.map_cons, List.map_nil, K2] at c7
 rw [show ((0 + 1 + 1 + 1 : Nat) : Int) - ((0 + 1 + 1 : Nat) : Int) = 1 from rfl, show CV [] = .sl false false [] from rfl] at c7
 simp only [List.map_cons, List.map_nil] at hLL
 have hN : FI [Gl Cz, Gl wS] := SC [Cz, wS]
 generalize [Gl Cz, Gl wS] = LL at *
 have c8 := Dx Cz Cz
 rw [decide_eq_true rfl] at c8
 have c9 := Q5 4
 rw [AcG] at c9
 simp only at c9
 have c10 := GR 6
 rw [show Bp 6 = [] by decide] at c10
 have c11 := Dk wC (by decide)
 rw [if_neg (c := Eb wC = true) (by decide +kernel)] at c11
 simp only [Bx, Cj, Db, wC, Fr.zero, Vc.zero, List.map_nil, List.map_cons, Int.cast_ofNat_Int] at c11
 rw [show vb 1 = .int .u8 1 from rfl] at c11
 have bl := AA bJ
 have bl2 := AA bS
 have hcut : Fv none (some 22) (AH bJ) = AH (bJ.take 22) := by
  unfold AH; rw [GD]; simp
 have h7 : [AT (D.sl false true (AH bJ)), AT (D.sl false true (AH bS)), AT (D.lit (Value.slice none 0 0))] = [[D.sl false true (AH bJ)], [D.sl false true (AH bS)], [D.lit (Value.slice none 0 0)]] := rfl
 simp only [Gl, Bx, Cj, Db] at c1 c2 c4 c5 c6 c8
 refine Am fun B => ?_
 repeat' (first | rw [hcut] | rw [hrep] | rw [h7] | refine CW ?_ | refine GU ?_ | refine Al ?_ | (refine Ay ?_; first | refine cz (c1) ?_ | refine cz (c2) ?_ | refine cz (c3) ?_ | refine cz (c4) ?_ | refine cz (c5) ?_ | refine cz (c6) ?_ | refine cz (c7) ?_ | refine cz (c8) ?_ | refine cz (c9) ?_ | refine cz (c10) ?_ | refine cz (c11) ?_) | refine Ak ?_ | refine nc ?_ ?_ | (with_reducible intro _ <;> (try (exfalso; omega))) | refine Ad ?_ | (refine nd ?_ ?_ <;> intro hg <;> first | exact xo hg | rw [hg]))
 all_goals first | rfl | exact absurd hg (by decide) | trace_state

set_option maxRecDepth 20000
def Ja (f : Func) : Code := f.body.getD .skip
def Mk : Nat → Code → Code
 | 0, c => c
 | n + 1, .seq _ y => Mk n y
 | _, c => c
section
variable {P : Program} {cx : Cx} {s : St} {Q : VE → St → Prop}
end

set_option maxRecDepth 10000
theorem IL (x : Fr) : ∀ o ∈ (NM x).os, o.px.length ≤ 1000000 := by
 intro o ho
 obtain ⟨p, _, rfl⟩ := List.mem_map.1 ho
 simp only [Xw, List.length_take]; omega
theorem AbE {o : Bb} (h : Da o = true) : o.px.length ≤ 64 := by
 obtain ⟨_, _, hp, _, _, h6, _⟩ := EM h
 by_cases hk : o.k = 6
 ·obtain ⟨s1, s2, s3⟩ := JR (h6 hk)
  simp only [Bv, Bool.and_eq_true, decide_eq_true_eq] at s1 s2
  rw [s3]
  exact Nat.mul_le_mul (show o.w.toNat ≤ 8 by omega) (show o.h.toNat ≤ 8 by omega)
 ·have e := congrArg Bb.px hp
  simp only [Bw, decide_eq_false hk, Bool.false_eq_true, if_false] at e
  rw [← e]; exact Nat.zero_le _
theorem Aah {f : Fr} (h : Eb f = true) : ∀ o ∈ f.os, o.px.length ≤ 1000000 := by
 obtain ⟨⟨_, ⟨h1, h2⟩, hp, _, _⟩, hk⟩ := GA h
 intro o ho
 by_cases k3 : f.k = 3
 ·obtain ⟨_, _, h4, _⟩ := (QE hk).2.2.1 k3
  exact Nat.le_trans (AbE (h4 o ho).1) (by decide)
 ·have e := congrArg Fr.os hp
  rcases Jy h1 h2 with k | k | k | k | k
  all_goals first | exact absurd k k3 | (simp [Eo, AV, k, Ko, Fr.zero] at e; rw [e] at ho; cases ho)
theorem KX {f : Fr} (h : Eb f = true) : (AS (A5 f)).length ≤ 1204 := by
 have := VO h
 rw [KY]; omega
theorem Aay (b : List UInt8) (B : Nat) : VW Tryz.prog ⟨74, none, B, 0, some B, []⟩ (Mk 4 (Ja Tryz.f5)) ⟨[(1, .d (CV b)), (5, .ptr 1 0)], [.c 1 0 Py], 2⟩ (Ff Tryz.prog [.tmp 4] (· = .ret (.lit (.bool true)))) := by
 refine AC ?_
 have hcut : Fv none (some (min ((AH b).length : Int) 2100)) (AH b) = AH (b.take 2100) := V6 _ b 2100
 have hbl := AA b
 have hl : (b.take 2100).length ≤ 2100 := by simp; omega
 generalize b.take 2100 = q at *
 have c1 := Jp q (by omega)
 have c2 := Dx .zero .zero
 rw [decide_eq_true rfl] at c2
 have c4 := HR q q
 rw [decide_eq_true rfl] at c4
 rcases PZ q with ⟨e, _⟩ | ⟨e, _⟩ | ⟨f, e, hf, hs⟩
 ·simp only [e] at c1
  simp only [Gl, Bx, Cj, Db, Fr.zero, Vc.zero, List.map_nil, Int.cast_ofNat_Int] at c1 c2
  repeat' (first | rw [hcut] | refine Al ?_ | (refine Ay ?_; first | refine cz (c1) ?_ | refine cz (c2) ?_) | refine Ak ?_ | refine nc ?_ ?_ | (with_reducible intro _ <;> (try (exfalso; omega))) | refine Ad ?_ | (refine nd ?_ ?_ <;> intro hg <;> first | exact xo hg | rw [hg]))
  all_goals first | rfl | (exfalso; omega) | trace_state
 ·simp only [e] at c1
  simp only [Gl, Bx, Cj, Db, Fr.zero, Vc.zero, List.map_nil, Int.cast_ofNat_Int] at c1 c2
  repeat' (first | rw [hcut] | refine Al ?_ | (refine Ay ?_; first | refine cz (c1) ?_ | refine cz (c2) ?_) | refine Ak ?_ | refine nc ?_ ?_ | (with_reducible intro _ <;> (try (exfalso; omega))) | refine Ad ?_ | (refine nd ?_ ?_ <;> intro hg <;> first | exact xo hg | rw [hg]))
  all_goals first | rfl | (exfalso; omega) | trace_state
 ·simp only [e] at c1
  have c3 := FG f (Aah hf)
  unfold ER at c3
  rw [if_pos hf, hs] at c3
  simp only [Gl, Bx, Cj, Db] at c1 c3
  repeat' (first | rw [hcut] | refine Al ?_ | (refine Ay ?_; first | refine cz (c1) ?_ | refine cz (c3) ?_ | refine cz (c4) ?_) | refine Ak ?_ | refine nc ?_ ?_ | (with_reducible intro _ <;> (try (exfalso; omega))) | refine Ad ?_ | (refine nd ?_ ?_ <;> intro hg <;> first | exact xo hg | rw [hg]))
  all_goals first | rfl | (exfalso; omega) | trace_state
theorem Aax (x : Fr) (b : List UInt8) : VP Tryz.prog 5 [.agg (Bx x), CV b] (· = .ret (.lit (.bool true))) := by
 have cw := Jg
 have co := HF x
 have hp := IL x
 generalize NM x = f at *
 have c1 := FG f hp
 have c2 := Dx f f
 rw [decide_eq_true rfl] at c2
 have c3 := Dk f hp
 unfold ER at c1
 simp only [Bx, Gl, Cj, Db] at co c1 c2 c3 ⊢
 refine Am fun B => ?_
 refine AC ?_
 repeat' (first | refine Al ?_ | ((fail_if_success (with_reducible refine AC ?_)); refine Ak ?_) | refine nc ?_ ?_ | (with_reducible intro _ <;> (try (exfalso; omega))) | refine Ad ?_ | (refine nd ?_ ?_ <;> intro hg <;> first | exact xo hg | rw [hg]))
 refine AC ?_
 refine AC ?_
 repeat' (first | refine Al ?_ | (refine Ay ?_; first | refine cz (cw) ?_) | ((fail_if_success (with_reducible refine AC ?_)); refine Ak ?_) | refine nc ?_ ?_ | (with_reducible intro _ <;> (try (exfalso; omega))) | refine Ad ?_ | (refine nd ?_ ?_ <;> intro hg <;> first | exact xo hg | rw [hg]))
 refine AC ?_
 repeat' (first | refine Al ?_ | (refine Ay ?_; first | refine cz (co) ?_) | ((fail_if_success (with_reducible refine AC ?_)); refine Ak ?_) | refine nc ?_ ?_ | (with_reducible intro _ <;> (try (exfalso; omega))) | refine Ad ?_ | (refine nd ?_ ?_ <;> intro hg <;> first | exact xo hg | rw [hg]))
 refine Ec (fun _ : Unit => ⟨[(1, .d (CV b)), (5, .ptr 1 0)], [.c 1 0 Py], 2⟩) (fun _ => True) ?_ fun _ _ => Aay b B
 by_cases hf : Eb f = true
 ·simp only [if_pos hf] at c1 c3
  have c4 := Jp (AS (A5 f)) (by have := KX hf; omega)
  simp only [Ih hf] at c4
  have hl := KX hf
  have hbl := AA (AS (A5 f))
  generalize AS (A5 f) = q at *
  simp only [Gl, Cj, Db] at c4
  repeat' (first | refine Al ?_ | (refine Ay ?_; first | refine cz (c1) ?_ | refine cz (c2) ?_ | refine cz (c3) ?_ | refine cz (c4) ?_) | refine Ak ?_ | refine nc ?_ ?_ | (with_reducible intro _ <;> (try (exfalso; omega))) | refine Ad ?_ | (refine nd ?_ ?_ <;> intro hg <;> first | exact xo hg | rw [hg]))
  all_goals first | exact DG () trivial (AI) | (exfalso; omega) | trace_state
 ·simp only [if_neg hf] at c1 c3
  repeat' (first | refine Al ?_ | (refine Ay ?_; first | refine cz (c1) ?_) | refine Ak ?_ | refine nc ?_ ?_ | (with_reducible intro _ <;> (try (exfalso; omega))) | refine Ad ?_ | (refine nd ?_ ?_ <;> intro hg <;> first | exact xo hg | rw [hg]))
  all_goals first | exact DG () trivial (AI) | (exfalso; omega) | trace_state

set_option maxRecDepth 20000
theorem Below.up {a b c : World} (h : Below a.heap.size a b) (k : Below b.heap.size b c) : Below a.heap.size a c := h.trans (k.mono h.size)
theorem Below.new (w : World) (o : Obj) : Below w.heap.size w (w.alloc o) := (Below.refl _ _).alloc (Nat.le_refl _) o
theorem H3.up {w w' : World} {b : Nat} {cs : Array Value} {t : TypeId} (h : H3 w b cs t) (hb : Below w.heap.size w w') : H3 w' b cs t := h.below hb h.lt
theorem C8.part {w : World} {a : Option Addr} {n n' c k : Nat} {cs cs' : List Value} (h : C8 w (.slice a n c) n' cs) (hk : k ≤ n) (hcs : ∀ (j : Nat) (u : Value), cs'[j]? = some u → cs[j]? = some u) : C8 w (.slice a k c) k cs' := by
 obtain ⟨a', c', e, h1, h2, h3, h4⟩ := h
 cases e
 exact ⟨a, c, rfl, by omega, h2, h3, fun j u hu => h4 j u (hcs j u hu)⟩
theorem FJ.part {w : World} {a : Option Addr} {n c k : Nat} {l : List UInt8} (h : FJ w (.slice a n c) l) (hk : k ≤ l.length) : FJ w (.slice a k c) (l.take k) := by
 have h' := h
 obtain ⟨a', c', e, h1, h2, h3, h4⟩ := h'
 cases e
 have := C8.part (k := k) (cs' := (l.take k).map vb) h hk (fun j u hu => by
  rw [List.map_take, List.getElem?_take] at hu
  split at hu
  ·exact hu
  ·cases hu)
 unfold FJ
 rw [List.length_take, Nat.min_eq_left hk]
 exact this

open Go.ChangeShapes Go.WideShapes Go.ChangeAt Go.RowKit
theorem VJ : ownKnob Tryz.prog.godebug = none := by kernel_rfl
theorem CM : laidOutB Tryz.prog = true := by kernel_rfl
theorem Hg : mapsRowed Tryz.prog = true := by kernel_rfl
theorem QA : Tryz.prog.plainKeys = true := by kernel_rfl
theorem NU : Tryz.prog.stopsHeard = true := by kernel_rfl
theorem NV : Tryz.prog.mayEnter = true := by kernel_rfl
theorem Lt : (({ program := "", sum := "", func := "", spec := "" } : OpenClaim).lifted == Tryz.prog.liftsFinal) = true := by kernel_rfl
theorem Qz : (Tryz.prog.make == some ({ program := "", sum := "", func := "", spec := "" } : OpenClaim).make) = true := by kernel_rfl

end Go.Proofs.YtbgcjnfhadhjeaaGreat