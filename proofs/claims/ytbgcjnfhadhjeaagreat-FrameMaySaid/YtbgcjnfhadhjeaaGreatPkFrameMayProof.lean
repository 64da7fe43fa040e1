/- FrameMay: for every input the law returns true, and turns nothing that was there; no condition. -/
import Derived.SizedLaws
import Derived.ProofKit
import Derived.Deep.Slices
import Derived.Test.YtbgcjnfhadhjeaaGreatRows
import Derived.Test.YtbgcjnfhadhjeaaGreatPk53
import Derived.Test.YtbgcjnfhadhjeaaGreatPkFrameMayProofa
import Derived.Test.YtbgcjnfhadhjeaaGreatPk35
namespace Go.Proofs.YtbgcjnfhadhjeaaGreat
set_option maxRecDepth 20000
open Go.RowKit
set_option maxRecDepth 10000
set_option maxHeartbeats 8000000
def F8 (n : Int) : List D := [Ar n]
theorem Pb (l : List Int) : (l.map F8).length = l.length := List.length_map _
theorem MC (k : Int) : ((AV k).map Fl.nm).length ≤ 140737488355328 ∧ (H5 k).length ≤ 200 := by
 unfold H5 AV
 repeat' split
 all_goals decide
theorem AbS (x f : Fr) (ks : List Int) (hks : ks.length * 8 ≤ 140737488351232) (hx : NM x = f) (B : Nat) : VW Tryz.prog ⟨105, none, B, 0, some B, []⟩ (Mk 10 (Ja Tryz.f3)) ⟨[(7, .ptr 2 0), (3, .ptr 0 0), (2, .d (.sl false false (ks.map F8)))], [.c 2 0 ((Gl f).map .d), .c 0 0 ((Bx x).map .d)], 4⟩ (Ff Tryz.prog [.tmp 6] (· = .ret (.lit (.bool true)))) := by
 have hkl := Pb ks
 have hk1 : ∀ y ∈ ks.map F8, y.length = 1 := fun y hy => by obtain ⟨z, _, rfl⟩ := List.mem_map.1 hy; rfl
 have co := HF x
 rw [hx] at co
 have c2 := Ef f f
 rw [decide_eq_true rfl] at c2
 simp only [Gl, Bx, Cj, Db] at co c2 ⊢
 refine AC ?_
 refine AC ?_
 repeat' (first | refine Al ?_ | ((fail_if_success (with_reducible refine AC ?_)); refine Ak ?_) | refine nc ?_ ?_ | (with_reducible intro _ <;> (try (exfalso; omega))) | refine Ad ?_ | (refine nd ?_ ?_ <;> intro hg <;> first | exact xo hg | rw [hg]))
 have hL : [AT (Ar f.k), AT (D.lit (Value.int IntKind.i64 0))] ++ ks.map F8 = (f.k :: 0 :: ks).map F8 := rfl
 have hLl : ((f.k :: 0 :: ks).map F8).length = ks.length + 2 := by simp
 rw [hL]
 generalize f.k :: 0 :: ks = m at *
 refine BT (fun i : Int => ⟨[(78, I .i64 i), (77, I .i64 (m.map F8).length), (76, .row 4 1), (7, .ptr 2 0), (3, .ptr 0 0)], [.r true true 4 1 3 1 (m.map F8), .c 2 0 ((Gl f).map .d), .c 0 0 ((Bx x).map .d)], 5⟩) (fun i => 0 ≤ i ∧ i ≤ (m.map F8).length) (fun i => (((m.map F8).length : Int) - i).toNat) 0 (AI) ⟨Int.le_refl _, by omega⟩ fun i hi => ?_
 obtain ⟨hi0, hi⟩ := hi
 rcases Int.lt_or_le i (m.map F8).length with h | h
 ·have hm2 : i.toNat < m.length := by rw [Pb] at h; omega
  obtain ⟨n, hn⟩ : ∃ n, (m.map F8)[i.toNat]? = some [Ar n] := ⟨m[i.toNat], by simp [hm2, F8]⟩
  have c3 := GR n
  have c4 := W0 n
  have c5 := Q5 n
  have c6 := K3 n
  have c7 := Rf false false ((AV n).map Fl.nm) [44, 32] (MC n).1 (by have := (MC n).2; unfold H5 at this; omega)
  rw [show TS ((AV n).map Fl.nm) = EN (AV n) from List.map_map] at c7
  change VP _ _ _ (· = .ret (.lit (Bl (H5 n)))) at c7
  generalize Bp n = w1 at *
  generalize H5 n = w2 at *
  clear co c2 hL hx
  repeat' (first | refine Al ?_ | (refine Ay ?_; first | refine cz (c3) ?_ | refine cz (c4) ?_ | refine cz (c5) ?_ | refine cz (c6) ?_ | refine cz (c7) ?_) | refine Ak ?_ | refine nc ?_ ?_ | (with_reducible intro _ <;> (try (exfalso; omega))) | refine Ad ?_ | (refine nd ?_ ?_ <;> intro hg <;> first | exact xo hg | rw [hg]))
  all_goals first | (rename_i h; exact absurd rfl h) | exact AU (i + 1) (⟨by omega, by omega⟩) (by omega) (AI) | trace_state
 ·obtain rfl : i = ((m.map F8).length : Int) := by omega
  repeat' (first | refine Al ?_ | (refine Ay ?_; first | refine cz (co) ?_ | refine cz (c2) ?_) | refine Ak ?_ | refine nc ?_ ?_ | (with_reducible intro _ <;> (try (exfalso; omega))) | refine Ad ?_ | (refine nd ?_ ?_ <;> intro hg <;> first | exact xo hg | rw [hg]))
  all_goals first | rfl | trace_state
theorem Aai (x y : Fr) (ks : List Int) (hks : ks.length * 8 ≤ 140737488351232) : VP Tryz.prog 3 [.agg (Bx x), .agg (Bx y), .sl false false (ks.map F8)] (· = .ret (.lit (.bool true))) := by
 have cw := Jg
 have co := HF x
 have co2 := HF y
 have hp := IL x
 have hp2 := IL y
 obtain ⟨f, hf⟩ : ∃ f, NM x = f := ⟨_, rfl⟩
 rw [hf] at co hp
 generalize NM y = g at *
 have m2 := AbS x f ks hks hf
 have c1 := PT f hp
 have c2 := Dk f hp
 have c3 := Dx f g
 have c4 := Ef f g
 have c5 := Dx f f
 rw [decide_eq_true rfl] at c5
 have c6 := FG f hp
 have c8 := HR (AS (A5 f)) (AS (A5 f))
 rw [decide_eq_true rfl] at c8
 have c9 := HR [] []
 rw [decide_eq_true rfl] at c9
 unfold ER at c6
 generalize decide (f = g) = r at *
 simp only [Bx, Gl, Cj, Db] at co co2 c1 c2 c3 c4 c5 c6 m2 ⊢
 refine Am fun B => ?_
 refine AC ?_
 repeat' (first | refine Al ?_ | ((fail_if_success (with_reducible refine AC ?_)); refine Ak ?_) | refine nc ?_ ?_ | (with_reducible intro _ <;> (try (exfalso; omega))) | refine Ad ?_ | (refine nd ?_ ?_ <;> intro hg <;> first | exact xo hg | rw [hg]))
 refine AC ?_
 refine AC ?_
 repeat' (first | refine Al ?_ | (refine Ay ?_; first | refine cz (cw) ?_) | ((fail_if_success (with_reducible refine AC ?_)); refine Ak ?_) | refine nc ?_ ?_ | (with_reducible intro _ <;> (try (exfalso; omega))) | refine Ad ?_ | (refine nd ?_ ?_ <;> intro hg <;> first | exact xo hg | rw [hg]))
 refine AC ?_
 repeat' (first | refine Al ?_ | (refine Ay ?_; first | refine cz (co) ?_ | refine cz (co2) ?_) | ((fail_if_success (with_reducible refine AC ?_)); refine Ak ?_) | refine nc ?_ ?_ | (with_reducible intro _ <;> (try (exfalso; omega))) | refine Ad ?_ | (refine nd ?_ ?_ <;> intro hg <;> first | exact xo hg | rw [hg]))
 clear cw co2
 by_cases hb : Eb f = true
 ·simp only [hb, if_true] at c1 c2 c6
  have c7 := P0 f hb
  simp only [Bx, Cj, Db] at c7
  clear c9
  generalize AS (A5 f) = q at *
  refine AC ?_
  repeat' (first | refine Al ?_ | (refine Ay ?_; first | refine cz (c1) ?_) | ((fail_if_success (with_reducible refine AC ?_)); refine Ak ?_) | refine nc ?_ ?_ | (with_reducible intro _ <;> (try (exfalso; omega))) | refine Ad ?_ | (refine nd ?_ ?_ <;> intro hg <;> first | exact xo hg | rw [hg]))
  refine Ec (fun _ : Unit => ⟨[(9, .d (.lit (.bool true))), (7, .ptr 2 0), (3, .ptr 0 0), (2, .d (.sl false false (ks.map F8)))], [.c 2 0 (List.map V.d (Gl f)), .c 0 0 (List.map V.d (Bx x))], 4⟩) (fun _ => True) ?_ fun _ _ => ?_
  ·cases r
   all_goals repeat' (first | refine Al ?_ | (refine Ay ?_; first | refine cz (c2) ?_ | refine cz (c3) ?_ | refine cz (c4) ?_ | refine cz (c5) ?_ | refine cz (co) ?_) | refine Ak ?_ | refine nc ?_ ?_ | (with_reducible intro _ <;> (try (exfalso; omega))) | refine Ad ?_ | (refine nd ?_ ?_ <;> intro hg <;> first | exact xo hg | rw [hg]))
   all_goals first | exact DG () trivial (AI) | exact absurd hg (by decide) | (rename_i h; exact absurd rfl h) | trace_state
  ·refine AC ?_
   repeat' (first | refine Al ?_ | (refine Ay ?_; first | refine cz (c6) ?_) | ((fail_if_success (with_reducible refine AC ?_)); refine Ak ?_) | refine nc ?_ ?_ | (with_reducible intro _ <;> (try (exfalso; omega))) | refine Ad ?_ | (refine nd ?_ ?_ <;> intro hg <;> first | exact xo hg | rw [hg]))
   refine AC ?_
   repeat' (first | refine Al ?_ | ((fail_if_success (with_reducible refine AC ?_)); refine Ak ?_) | refine nc ?_ ?_ | (with_reducible intro _ <;> (try (exfalso; omega))) | refine Ad ?_ | (refine nd ?_ ?_ <;> intro hg <;> first | exact xo hg | rw [hg]))
   refine AC ?_
   repeat' (first | refine Al ?_ | ((fail_if_success (with_reducible refine AC ?_)); refine Ak ?_) | refine nc ?_ ?_ | (with_reducible intro _ <;> (try (exfalso; omega))) | refine Ad ?_ | (refine nd ?_ ?_ <;> intro hg <;> first | exact xo hg | rw [hg]))
   refine AC ?_
   refine AC ?_
   repeat' (first | refine Al ?_ | (refine Ay ?_; first | refine cz (c7) ?_) | ((fail_if_success (with_reducible refine AC ?_)); refine Ak ?_) | refine nc ?_ ?_ | (with_reducible intro _ <;> (try (exfalso; omega))) | refine Ad ?_ | (refine nd ?_ ?_ <;> intro hg <;> first | exact xo hg | rw [hg]))
   refine Ec (fun _ : Unit => ⟨[(7, .ptr 2 0), (3, .ptr 0 0), (2, .d (.sl false false (ks.map F8)))], [.c 2 0 (List.map V.d (Gl f)), .c 0 0 (List.map V.d (Bx x))], 4⟩) (fun _ => True) ?_ fun _ _ => m2 B
   repeat' (first | refine Al ?_ | (refine Ay ?_; first | refine cz (c8) ?_) | refine Ak ?_ | refine nc ?_ ?_ | (with_reducible intro _ <;> (try (exfalso; omega))) | refine Ad ?_ | (refine nd ?_ ?_ <;> intro hg <;> first | exact xo hg | rw [hg]))
   all_goals first | exact DG () trivial (AI) | (exfalso; omega) | (rename_i h; exact absurd rfl h) | trace_state
 ·rw [Bool.not_eq_true] at hb
  simp only [hb, Bool.false_eq_true, if_false, Ye, CV] at c1 c2 c6 c9
  refine AC ?_
  repeat' (first | refine Al ?_ | (refine Ay ?_; first | refine cz (c1) ?_) | ((fail_if_success (with_reducible refine AC ?_)); refine Ak ?_) | refine nc ?_ ?_ | (with_reducible intro _ <;> (try (exfalso; omega))) | refine Ad ?_ | (refine nd ?_ ?_ <;> intro hg <;> first | exact xo hg | rw [hg]))
  refine Ec (fun _ : Unit => ⟨[(9, .d (.lit (.bool false))), (7, .ptr 2 0), (3, .ptr 0 0), (2, .d (.sl false false (ks.map F8)))], [.c 2 0 (List.map V.d (Gl f)), .c 0 0 (List.map V.d (Bx x))], 4⟩) (fun _ => True) ?_ fun _ _ => ?_
  ·cases r
   all_goals repeat' (first | refine Al ?_ | (refine Ay ?_; first | refine cz (c2) ?_ | refine cz (c3) ?_ | refine cz (c4) ?_ | refine cz (c5) ?_ | refine cz (co) ?_) | refine Ak ?_ | refine nc ?_ ?_ | (with_reducible intro _ <;> (try (exfalso; omega))) | refine Ad ?_ | (refine nd ?_ ?_ <;> intro hg <;> first | exact xo hg | rw [hg]))
   all_goals first | exact DG () trivial (AI) | exact absurd hg (by decide) | (rename_i h; exact absurd rfl h) | trace_state
  ·refine AC ?_
   repeat' (first | refine Al ?_ | (refine Ay ?_; first | refine cz (c6) ?_) | ((fail_if_success (with_reducible refine AC ?_)); refine Ak ?_) | refine nc ?_ ?_ | (with_reducible intro _ <;> (try (exfalso; omega))) | refine Ad ?_ | (refine nd ?_ ?_ <;> intro hg <;> first | exact xo hg | rw [hg]))
   refine AC ?_
   repeat' (first | refine Al ?_ | ((fail_if_success (with_reducible refine AC ?_)); refine Ak ?_) | refine nc ?_ ?_ | (with_reducible intro _ <;> (try (exfalso; omega))) | refine Ad ?_ | (refine nd ?_ ?_ <;> intro hg <;> first | exact xo hg | rw [hg]))
   refine AC ?_
   repeat' (first | refine Al ?_ | ((fail_if_success (with_reducible refine AC ?_)); refine Ak ?_) | refine nc ?_ ?_ | (with_reducible intro _ <;> (try (exfalso; omega))) | refine Ad ?_ | (refine nd ?_ ?_ <;> intro hg <;> first | exact xo hg | rw [hg]))
   refine AC ?_
   refine AC ?_
   repeat' (first | refine Al ?_ | ((fail_if_success (with_reducible refine AC ?_)); refine Ak ?_) | refine nc ?_ ?_ | (with_reducible intro _ <;> (try (exfalso; omega))) | refine Ad ?_ | (refine nd ?_ ?_ <;> intro hg <;> first | exact xo hg | rw [hg]))
   refine Ec (fun _ : Unit => ⟨[(7, .ptr 2 0), (3, .ptr 0 0), (2, .d (.sl false false (ks.map F8)))], [.c 2 0 (List.map V.d (Gl f)), .c 0 0 (List.map V.d (Bx x))], 4⟩) (fun _ => True) ?_ fun _ _ => m2 B
   repeat' (first | refine Al ?_ | (refine Ay ?_; first | refine cz (c9) ?_) | refine Ak ?_ | refine nc ?_ ?_ | (with_reducible intro _ <;> (try (exfalso; omega))) | refine Ad ?_ | (refine nd ?_ ?_ <;> intro hg <;> first | exact xo hg | rw [hg]))
   all_goals first | exact DG () trivial (AI) | (exfalso; omega) | (rename_i h; exact absurd rfl h) | trace_state

set_option maxRecDepth 20000
theorem U4 : EF Tryz.prog 29 (fun _ : List Int => True) (fun l => [.sl false false (l.map F8)]) :=
 (EF.slice CR Tryz.underlying29 (by rw [show Tryz.prog.cellsOf 3 = 1 by kernel_rfl]; omega) (by kernel_rfl)).map (fun y h => ⟨y, trivial, rfl⟩) (fun z hz => by rw [show Tryz.prog.cellsOf 29 = 1 by kernel_rfl]; rfl)

theorem TX {H : Type} {enc : TypeId × Value → H} {P : Program} {w : World} {base : Nat} {spare : Nat → Bool} {held : Bool} {t e : TypeId} {x : DataW H} {p : List MemPlace} {a : Option Addr} {n c : Nat} (ht : P.underlying t = some (.slice e))
  (hx : ∃ fuel, DataW.trod enc P w base spare held fuel t [.slice a n c] = some (x, p)) {ts : List TypeId} {ds : List (DataW H)} {j : Nat} (hts : ts[j]? = some t) (hds : ds[j]? = some x) (hsz : (DataW.weightsEach P ts ds).all (· ≤ reachBytes) = true) : n * P.bytesOf e ≤ 140737488351232 := by
 obtain ⟨fuel, hx⟩ := hx
 rcases Deep.open_slice ht hx with ⟨h, _⟩ | ⟨ad, len, cap, m, k, D, Pl, h, _, _, _, _, hd, _⟩
 ·simp only [List.cons.injEq, Value.slice.injEq] at h
  rw [h.1.2.1]; simp
 ·simp only [List.cons.injEq, Value.slice.injEq] at h
  cases hd
  have := sized_slice hsz hts hds ht
  simp only [List.length_map, List.length_range, reachBytes] at this
  rw [h.1.2.1]
  rw [Nat.add_mul] at this
  omega

open Go.ChangeShapes Go.WideShapes Go.ChangeAt Go.RowKit
set_option maxRecDepth 100000
set_option maxRecDepth 100000 in
theorem Ki (os : Os) (started : os.Started) (H : Type) (enc : TypeId × Value → H) :
  ReturnsInHanded {} Tryz.checked os 3 .any (Rows.frameMaySpec.pre6 enc Tryz.prog Tryz.f3 Rows.frameMayRow.domain false) (Rows.frameMaySpec.post enc Tryz.prog Tryz.f3 false true false false) := by
 refine returnsInHanded_of_change_sized (C := Tryz.checked) VJ started (by kernel_rfl) Tryz.func3
  (ChangeSpec.witness6 (enc := enc) (C := Tryz.checked) false ⟨#[], #[.agg #[.int .i64 0, .int .u64 0, .int .i64 0, .int .u64 0, .int .i64 0, .int .i64 0, .slice none 0 0, .slice none 0 0, .int .u64 0, .int .u64 0, .int .u64 0, .int .u64 0, .int .u64 0, .int .u64 0, .int .u64 0, .int .u64 0, .int .u64 0, .int .u64 0, .int .u64 0, .int .u64 0, .int .u64 0, .int .u64 0, .int .u64 0, .int .u64 0, .int .u64 0, .int .u64 0, .int .u64 0, .int .u64 0, .int .u64 0, .int .u64 0], .agg #[.int .i64 0, .int .u64 0, .int .i64 0, .int .u64 0, .int .i64 0, .int .i64 0, .slice none 0 0, .slice none 0 0, .int .u64 0, .int .u64 0, .int .u64 0, .int .u64 0, .int .u64 0, .int .u64 0, .int .u64 0, .int .u64 0, .int .u64 0, .int .u64 0, .int .u64 0, .int .u64 0, .int .u64 0, .int .u64 0, .int .u64 0, .int .u64 0, .int .u64 0, .int .u64 0, .int .u64 0, .int .u64 0, .int .u64 0, .int .u64 0], .slice none 0 0], []⟩ 8 (by kernel_rfl) (by kernel_rfl) (by kernel_rfl) (by kernel_rfl)) ?_
 intro W base args ds gs before hval0 hW _ hsz0 _
 have hval : ∀ (j : Nat) t v, Tryz.f3.params[j]? = some t → args[j]? = some v → Value.okWide Tryz.prog W .any base t v := hval0
 have hW' := hW
 obtain ⟨p, q, hA0, hV, rfl, hfz, hnd⟩ := hW
 have hA : DataW.TrodAll enc Tryz.prog W 0 (fun _ => true) true Tryz.f3.params.toList args.toList ds p := hA0
 rw [Tryz.params3] at hA hval
 obtain ⟨v0, vs0, e0, ds0, p0, q0, hargs, rfl, rfl, h0, r0⟩ := trodAll_cons hA
 obtain ⟨v1, vs1, e1, ds1, p1, q1, rfl, rfl, rfl, h1, r1⟩ := trodAll_cons r0
 obtain ⟨v2, vs2, e2, ds2, p2, q2, rfl, rfl, rfl, h2, r2⟩ := trodAll_cons r1
 obtain ⟨rfl, rfl, rfl⟩ := trodAll_nil r2
 obtain rfl : args = #[v0, v1, v2] := by cases args; simp_all
 obtain ⟨rfl, rfl⟩ := trodVars_none hV
 have k0 := h0
 have lt0 : ∀ x ∈ p0, x.block < W.heap.size := by obtain ⟨m, hm⟩ := k0; exact DataW.trod_lt m _ _ _ hm
 obtain ⟨y0, z0, d0⟩ := Fp Lm Tryz.underlying28 (hval 0 28 v0 rfl rfl) h0
 have k1 := h1
 have lt1 : ∀ x ∈ p1, x.block < W.heap.size := by obtain ⟨m, hm⟩ := k1; exact DataW.trod_lt m _ _ _ hm
 obtain ⟨y1, z1, d1⟩ := Fp Lm Tryz.underlying28 (hval 1 28 v1 rfl rfl) h1
 have k2 := h2
 have lt2 : ∀ x ∈ p2, x.block < W.heap.size := by obtain ⟨m, hm⟩ := k2; exact DataW.trod_lt m _ _ _ hm
 obtain ⟨a2, n2, c2, rfl⟩ := okWide_slice Tryz.underlying29 (hval 2 29 v2 rfl rfl)
 obtain ⟨y2, z2, d2⟩ := Pw U4 rfl h2
 have hsz : (DataW.weightsEach Tryz.prog [28, 28, 29] [e0, e1, e2]).all (fun x => decide (x ≤ reachBytes)) = true := hsz0
 have hlen := TX Tryz.underlying29 h2 (j := 2) rfl rfl hsz
 rw [show Tryz.prog.bytesOf 3 = 8 by kernel_rfl] at hlen
 have hy2 : y2.length = n2 := by
  have := d2 0
  simp only [drep] at this
  obtain ⟨_, _, _, hq, _⟩ := this
  simp only [Value.slice.injEq, List.length_map] at hq
  exact hq.2.1.symm
 clear hA0 hval0
 refine ((Aai y0 y1 y2 (by omega)).2 (fun _ => True) W _ (by simp only [dreps]; exact ⟨_, _, rfl, d0 _, ⟨_, _, rfl, d1 _, ⟨_, _, rfl, d2 _, rfl⟩⟩⟩)).mono fun e W' ⟨bel, r, he, hr⟩ => ?_
 subst he
 obtain ⟨u, rfl, hu⟩ := hr
 simp only [drep] at hu
 subst hu
 exact ⟨_, rfl, _, _, _, [], _, [], hW', trodAll_mk1 (shut_bool Tryz.underlying4 _), (trodAll_cons_mk (Below.trod CM (by kernel_rfl) (of_decide_eq_true (by kernel_rfl)) k0 bel lt0) (trodAll_cons_mk (Below.trod CM (by kernel_rfl) (of_decide_eq_true (by kernel_rfl)) k1 bel lt1) (trodAll_cons_mk (Below.trod CM (by kernel_rfl) (of_decide_eq_true (by kernel_rfl)) k2 bel lt2) trodAll_mk0))), rfl, bel.frame _, fun h => by cases h⟩
theorem Ly : (Rows.frameMayRow.inPlace == Tryz.prog.inPlace 3) = true := by kernel_rfl
theorem I3 : (Rows.frameMayRow.unfollowed == Tryz.prog.unfollowed 3) = true := by kernel_rfl
theorem N1 : (Rows.frameMayRow.recurses == Tryz.prog.recurses 3) = true := by
 have h : Tryz.prog.unfollowed 3 = true := (beq_iff_eq.1 I3).symm
 unfold Program.recurses; rw [h]; rfl
theorem Lz : (Rows.frameMayRow.named == Tryz.prog.varsNamed 3) = true := by kernel_rfl
theorem Mt : (Rows.frameMayRow.plainKeys == Tryz.prog.plainKeys) = true := by rw [QA]; rfl
theorem Pm : (Rows.frameMayRow.lifted == Tryz.prog.liftsFinal) = true := Lt
theorem Pk : (Tryz.prog.make == some Rows.frameMayRow.make) = true := Qz
theorem Kj : joinedFacts Tryz.prog 3 Tryz.f3 Rows.frameMaySpec Rows.frameMayRow = true := by
 unfold joinedFacts
 simp only [Bool.and_eq_true]
 repeat' refine And.intro ?_ ?_
 all_goals first | with_reducible exact CM | with_reducible exact Hg | with_reducible exact NU | with_reducible exact NV | with_reducible exact Ly | with_reducible exact I3 | with_reducible exact N1 | with_reducible exact Lz | with_reducible exact Mt | with_reducible exact Pm | with_reducible exact Pk | kernel_rfl
theorem Ms : Rows.frameMayRow.holds Tryz.pinned (OpenSpec.ofChange Rows.frameMaySpec) :=
 OpenClaim.holds_of_wide 3 Tryz.f3 rfl rfl rfl rfl rfl rfl rfl ⟨rfl, rfl, rfl, rfl, rfl⟩ rfl rfl rfl rfl rfl (by kernel_rfl) Tryz.func3 Kj
  (of_decide_eq_true (by kernel_rfl)) (by unfold Func.isWrapper; first | (rw [if_pos (by decide +kernel)]; kernel_rfl) | (rw [if_neg (by decide +kernel)]; exact ⟨rfl, rfl⟩))
  (fun os started H enc _ => Ki os started H enc)
theorem frameMay_holds : Rows.FrameMaySaid := Ms
#print axioms frameMay_holds

end Go.Proofs.YtbgcjnfhadhjeaaGreat