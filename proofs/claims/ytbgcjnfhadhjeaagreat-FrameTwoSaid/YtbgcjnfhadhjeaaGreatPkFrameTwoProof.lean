/- FrameTwo: for every input the law returns true, and turns nothing that was there; no condition. -/
import Derived.Test.YtbgcjnfhadhjeaaGreatRows
import Derived.Test.YtbgcjnfhadhjeaaGreatPk53
import Derived.Test.YtbgcjnfhadhjeaaGreatPk49
import Derived.Test.YtbgcjnfhadhjeaaGreatPk35
namespace Go.Proofs.YtbgcjnfhadhjeaaGreat
set_option maxRecDepth 20000
open Go.RowKit
set_option maxRecDepth 10000
set_option maxHeartbeats 8000000
def CS (f : Fr) : Fr := { f with ep := f.ep ^^^ 1 }
theorem AaO (n : Nat) : ∃ m, n ^^^ 1 = m ∧ m ≠ n ∧ (n % 2 = 0 ∧ m = n + 1 ∨ n % 2 = 1 ∧ m + 1 = n) := by
 have h1 := Nat.xor_mod_two_pow (a := n) (b := 1) (n := 1)
 have h2 : (n ^^^ 1) / 2 = n / 2 := by
  have := Nat.xor_div_two_pow (a := n) (b := 1) (n := 1)
  simpa using this
 refine ⟨_, rfl, ?_⟩
 generalize n ^^^ 1 = m at *
 rcases Nat.mod_two_eq_zero_or_one n with h | h
 ·simp [h] at h1
  omega
 ·simp [h] at h1
  omega
theorem Aak {f : Fr} (h : Eb f = true) (hn : f.ep ≠ 4611686018427387904) : Eb (CS f) = true := by
 obtain ⟨⟨h1, ⟨h2, h2'⟩, h3, h4, h5⟩, h6⟩ := GA h
 have ht := PO h1
 obtain ⟨m, hm, hx⟩ := AaO f.ep
 have k1 : WW (CS f) = true := by
  simp only [WW, Og, CS, hm, Bool.and_eq_true, decide_eq_true_eq]
  omega
 have k2 : Eo (CS f) = CS f := by
  have e : Eo (CS f) = CS (Eo f) := by
   rcases Jy h2 h2' with k | k | k | k | k
   all_goals simp [Eo, CS, AV, k, Ko, Fr.zero]
  rw [e, h3]
 have k3 : Mv (CS f) = true := h6
 simp only [Eb, Bool.and_eq_true, decide_eq_true_eq]
 exact ⟨⟨⟨⟨⟨⟨k1, h2⟩, h2'⟩, k2⟩, h4⟩, h5⟩, k3⟩
theorem R4 (f : Fr) : f ≠ CS f := fun e => by
 obtain ⟨m, hm, hx, _⟩ := AaO f.ep
 have := congrArg Fr.ep e
 simp only [CS, hm] at this
 exact hx this.symm
theorem VT (f : Fr) : (A5 (CS f)).length = (A5 f).length := by
 have h : ∀ ns : List Fl, (BM (CS f) ns).length = (BM f ns).length := by
  intro ns
  induction ns with
  | nil => rfl
  | cons n ns ih => cases n <;> simp_all [BM, A0, As, CS]
 simp only [A5, List.length_append, As]
 exact congrArg _ (h _)
theorem Abi (f : Fr) (hp : ∀ o ∈ f.os, o.px.length ≤ 1000000) (hf : Eb f = true) (B : Nat) : VW Tryz.prog ⟨88, none, B, 0, some B, []⟩ (Mk 7 (Ja Tryz.f6)) ⟨[(7, .d (.sl false true (AH (AS (A5 f))))), (6, .ptr 3 0), (5, .ptr 2 0)], [.c 3 0 Py, .c 2 0 ((Gl f).map .d)], 4⟩ (Ff Tryz.prog [.tmp 4] (· = .ret (.lit (.bool true)))) := by
 refine AC ?_
 have hep := (PO (GA hf).1.1).1
 have hu : Ke .u64 f.ep := ⟨by decide, show f.ep < 2 ^ 64 by omega⟩
 have c1 := FG (CS f) hp
 have c2 := Dx f (CS f)
 rw [decide_eq_false (R4 f)] at c2
 have c3 := HR (AS (A5 f)) (AS (A5 (CS f)))
 have hl : (AS (A5 f)).length = (AS (A5 (CS f))).length := by rw [KY, KY, VT]
 unfold ER at c1
 have hbl := AA (AS (A5 f))
 have hbl2 := AA (AS (A5 (CS f)))
 by_cases hg : Eb (CS f) = true
 ·simp only [if_pos hg] at c1
  rw [decide_eq_false fun e => R4 f ((Nb hf hg).1 e)] at c3
  generalize AS (A5 f) = q at *
  generalize AS (A5 (CS f)) = q2 at *
  simp only [Bx, Gl, Cj, Db, CS] at c1 c2 ⊢
  repeat' (first | refine Ni ?_ | refine Al ?_ | (refine Ay ?_; first | refine cz (c1) ?_ | refine cz (c2) ?_ | refine cz (c3) ?_) | refine Ak ?_ | refine nc ?_ ?_ | (with_reducible intro _ <;> (try (exfalso; omega))) | refine Ad ?_ | (refine nd ?_ ?_ <;> intro hg <;> first | exact xo hg | rw [hg]))
  all_goals first | rfl | (exfalso; omega) | trace_state
 ·have he : f.ep = 4611686018427387904 := Decidable.byContradiction fun h => hg (Aak hf h)
  simp only [if_neg hg] at c1
  generalize AS (A5 f) = q at *
  generalize AS (A5 (CS f)) = q2 at *
  simp only [Bx, Gl, Cj, Db, CS] at c1 c2 ⊢
  repeat' (first | refine Ni ?_ | refine Al ?_ | (refine Ay ?_; first | refine cz (c1) ?_) | refine Ak ?_ | refine nc ?_ ?_ | (with_reducible intro _ <;> (try (exfalso; omega))) | refine Ad ?_ | (refine nd ?_ ?_ <;> intro hg <;> first | exact xo hg | rw [hg]))
  all_goals first | (exfalso; omega) | (rw [decide_eq_true (by omega)]) | trace_state
theorem Abh (x y : Fr) : VP Tryz.prog 6 [.agg (Bx x), .agg (Bx y)] (· = .ret (.lit (.bool true))) := by
 have cw := Jg
 have co := HF x
 have co2 := HF y
 have hp := IL x
 have hp2 := IL y
 generalize NM x = f at *
 generalize NM y = g at *
 have c1 := FG f hp
 have c2 := FG g hp2
 have c3 := Dx f g
 unfold ER at c1 c2
 simp only [Bx, Gl, Cj, Db] at co co2 c1 c2 c3 ⊢
 refine Am fun B => ?_
 refine AC ?_
 repeat' (first | refine Al ?_ | ((fail_if_success (with_reducible refine AC ?_)); refine Ak ?_) | refine nc ?_ ?_ | (with_reducible intro _ <;> (try (exfalso; omega))) | refine Ad ?_ | (refine nd ?_ ?_ <;> intro hg <;> first | exact xo hg | rw [hg]))
 refine AC ?_
 refine AC ?_
 repeat' (first | refine Al ?_ | (refine Ay ?_; first | refine cz (cw) ?_) | ((fail_if_success (with_reducible refine AC ?_)); refine Ak ?_) | refine nc ?_ ?_ | (with_reducible intro _ <;> (try (exfalso; omega))) | refine Ad ?_ | (refine nd ?_ ?_ <;> intro hg <;> first | exact xo hg | rw [hg]))
 refine AC ?_
 repeat' (first | refine Al ?_ | (refine Ay ?_; first | refine cz (co) ?_ | refine cz (co2) ?_) | ((fail_if_success (with_reducible refine AC ?_)); refine Ak ?_) | refine nc ?_ ?_ | (with_reducible intro _ <;> (try (exfalso; omega))) | refine Ad ?_ | (refine nd ?_ ?_ <;> intro hg <;> first | exact xo hg | rw [hg]))
 clear co co2 cw
 have hb0 : (AH []).length = 0 := rfl
 by_cases hf : Eb f = true
 ·by_cases hg : Eb g = true
  ·have t2 := Abi f hp hf B
   obtain ⟨r, hr⟩ : ∃ r, decide (f = g) = r := ⟨_, rfl⟩
   have c4 : VP Tryz.prog 16 [CV (AS (A5 f)), CV (AS (A5 g))] (· = .ret (.lit (.bool r))) := by
    have h := HR (AS (A5 f)) (AS (A5 g))
    rw [decide_eq_decide.2 (Nb hf hg), hr] at h
    exact h
   rw [hr] at c3
   clear hr
   simp only [if_pos hf] at c1
   simp only [if_pos hg] at c2
   simp only [Gl, Cj, Db] at t2
   generalize AS (A5 f) = q1 at *
   generalize AS (A5 g) = q2 at *
   refine AC ?_
   repeat' (first | refine Al ?_ | (refine Ay ?_; first | refine cz (c1) ?_) | ((fail_if_success (with_reducible refine AC ?_)); refine Ak ?_) | refine nc ?_ ?_ | (with_reducible intro _ <;> (try (exfalso; omega))) | refine Ad ?_ | (refine nd ?_ ?_ <;> intro hg <;> first | exact xo hg | rw [hg]))
   refine AC ?_
   repeat' (first | refine Al ?_ | (refine Ay ?_; first | refine cz (c2) ?_) | ((fail_if_success (with_reducible refine AC ?_)); refine Ak ?_) | refine nc ?_ ?_ | (with_reducible intro _ <;> (try (exfalso; omega))) | refine Ad ?_ | (refine nd ?_ ?_ <;> intro hg <;> first | exact xo hg | rw [hg]))
   refine AC ?_
   refine AC ?_
   repeat' (first | refine Al ?_ | ((fail_if_success (with_reducible refine AC ?_)); refine Ak ?_) | refine nc ?_ ?_ | (with_reducible intro _ <;> (try (exfalso; omega))) | refine Ad ?_ | (refine nd ?_ ?_ <;> intro hg <;> first | exact xo hg | rw [hg]))
   all_goals first | (exfalso; omega) | skip
   refine Ec (fun _ : Unit => ⟨[(7, .d (.sl false true (AH q1))), (6, .ptr 3 0), (5, .ptr 2 0)], [.c 3 0 Py, .c 2 0 (List.map V.d (Gl f))], 4⟩) (fun _ => True) ?_ fun _ _ => t2
   cases r
   all_goals
    repeat' (first | refine Al ?_ | (refine Ay ?_; first | refine cz (c3) ?_ | refine cz (c4) ?_) | refine Ak ?_ | refine nc ?_ ?_ | (with_reducible intro _ <;> (try (exfalso; omega))) | refine Ad ?_ | (refine nd ?_ ?_ <;> intro hg <;> first | exact xo hg | rw [hg]))
   all_goals first | exact DG () trivial (AI) | (rename_i h; exact absurd rfl h) | trace_state
  ·simp only [if_pos hf] at c1
   simp only [if_neg hg] at c2
   generalize AS (A5 f) = q1 at *
   repeat' (first | refine Al ?_ | (refine Ay ?_; first | refine cz (c1) ?_ | refine cz (c2) ?_) | refine Ak ?_ | refine nc ?_ ?_ | (with_reducible intro _ <;> (try (exfalso; omega))) | refine Ad ?_ | (refine nd ?_ ?_ <;> intro hg <;> first | exact xo hg | rw [hg]))
   all_goals first | rfl | (exfalso; omega) | trace_state
 ·simp only [if_neg hf] at c1
  by_cases hg : Eb g = true
  ·simp only [if_pos hg] at c2
   generalize AS (A5 g) = q2 at *
   repeat' (first | refine Al ?_ | (refine Ay ?_; first | refine cz (c1) ?_ | refine cz (c2) ?_) | refine Ak ?_ | refine nc ?_ ?_ | (with_reducible intro _ <;> (try (exfalso; omega))) | refine Ad ?_ | (refine nd ?_ ?_ <;> intro hg <;> first | exact xo hg | rw [hg]))
   all_goals first | rfl | (exfalso; omega) | trace_state
  ·simp only [if_neg hg] at c2
   repeat' (first | refine Al ?_ | (refine Ay ?_; first | refine cz (c1) ?_ | refine cz (c2) ?_) | refine Ak ?_ | refine nc ?_ ?_ | (with_reducible intro _ <;> (try (exfalso; omega))) | refine Ad ?_ | (refine nd ?_ ?_ <;> intro hg <;> first | exact xo hg | rw [hg]))
   all_goals first | rfl | (exfalso; omega) | trace_state

set_option maxRecDepth 20000
open Go.ChangeShapes Go.WideShapes Go.ChangeAt Go.RowKit
set_option maxRecDepth 100000
set_option maxRecDepth 100000 in
theorem Kg (os : Os) (started : os.Started) (H : Type) (enc : TypeId × Value → H) :
  ReturnsInHanded {} Tryz.checked os 6 .any (Rows.frameTwoSpec.pre6 enc Tryz.prog Tryz.f6 Rows.frameTwoRow.domain false) (Rows.frameTwoSpec.post enc Tryz.prog Tryz.f6 false true false false) := by
 refine returnsInHanded_of_change (C := Tryz.checked) VJ started (by kernel_rfl) Tryz.func6
  (ChangeSpec.witness6 (enc := enc) (C := Tryz.checked) false ⟨#[], #[.agg #[.int .i64 0, .int .u64 0, .int .i64 0, .int .u64 0, .int .i64 0, .int .i64 0, .slice none 0 0, .slice none 0 0, .int .u64 0, .int .u64 0, .int .u64 0, .int .u64 0, .int .u64 0, .int .u64 0, .int .u64 0, .int .u64 0, .int .u64 0, .int .u64 0, .int .u64 0, .int .u64 0, .int .u64 0, .int .u64 0, .int .u64 0, .int .u64 0, .int .u64 0, .int .u64 0, .int .u64 0, .int .u64 0, .int .u64 0, .int .u64 0], .agg #[.int .i64 0, .int .u64 0, .int .i64 0, .int .u64 0, .int .i64 0, .int .i64 0, .slice none 0 0, .slice none 0 0, .int .u64 0, .int .u64 0, .int .u64 0, .int .u64 0, .int .u64 0, .int .u64 0, .int .u64 0, .int .u64 0, .int .u64 0, .int .u64 0, .int .u64 0, .int .u64 0, .int .u64 0, .int .u64 0, .int .u64 0, .int .u64 0, .int .u64 0, .int .u64 0, .int .u64 0, .int .u64 0, .int .u64 0, .int .u64 0]], []⟩ 8 (by kernel_rfl) (by kernel_rfl) (by kernel_rfl) (by kernel_rfl)) ?_
 intro W base args ds gs before hval0 hW hcnd _
 have hval : ∀ (j : Nat) t v, Tryz.f6.params[j]? = some t → args[j]? = some v → Value.okWide Tryz.prog W .any base t v := hval0
 have hW' := hW
 obtain ⟨p, q, hA0, hV, rfl, hfz, hnd⟩ := hW
 have hA : DataW.TrodAll enc Tryz.prog W 0 (fun _ => true) true Tryz.f6.params.toList args.toList ds p := hA0
 rw [Tryz.params6] at hA hval
 obtain ⟨v0, vs0, e0, ds0, p0, q0, hargs, rfl, rfl, h0, r0⟩ := trodAll_cons hA
 obtain ⟨v1, vs1, e1, ds1, p1, q1, rfl, rfl, rfl, h1, r1⟩ := trodAll_cons r0
 obtain ⟨rfl, rfl, rfl⟩ := trodAll_nil r1
 obtain rfl : args = #[v0, v1] := by cases args; simp_all
 obtain ⟨rfl, rfl⟩ := trodVars_none hV
 have k0 := h0
 have lt0 : ∀ x ∈ p0, x.block < W.heap.size := by obtain ⟨m, hm⟩ := k0; exact DataW.trod_lt m _ _ _ hm
 obtain ⟨y0, z0, d0⟩ := Fp Lm Tryz.underlying28 (hval 0 28 v0 rfl rfl) h0
 have k1 := h1
 have lt1 : ∀ x ∈ p1, x.block < W.heap.size := by obtain ⟨m, hm⟩ := k1; exact DataW.trod_lt m _ _ _ hm
 obtain ⟨y1, z1, d1⟩ := Fp Lm Tryz.underlying28 (hval 1 28 v1 rfl rfl) h1
 clear hA0 hval0
 refine ((Abh y0 y1).2 (fun _ => True) W _ (by simp only [dreps]; exact ⟨_, _, rfl, d0 _, ⟨_, _, rfl, d1 _, rfl⟩⟩)).mono fun e W' ⟨bel, r, he, hr⟩ => ?_
 subst he
 obtain ⟨u, rfl, hu⟩ := hr
 simp only [drep] at hu
 subst hu
 exact ⟨_, rfl, _, _, _, [], _, [], hW', trodAll_mk1 (shut_bool Tryz.underlying4 _), (trodAll_cons_mk (Below.trod CM (by kernel_rfl) (of_decide_eq_true (by kernel_rfl)) k0 bel lt0) (trodAll_cons_mk (Below.trod CM (by kernel_rfl) (of_decide_eq_true (by kernel_rfl)) k1 bel lt1) trodAll_mk0)), rfl, bel.frame _, fun h => by cases h⟩
theorem Lw : (Rows.frameTwoRow.inPlace == Tryz.prog.inPlace 6) = true := by kernel_rfl
theorem I2 : (Rows.frameTwoRow.unfollowed == Tryz.prog.unfollowed 6) = true := by kernel_rfl
theorem N0 : (Rows.frameTwoRow.recurses == Tryz.prog.recurses 6) = true := by
 have h : Tryz.prog.unfollowed 6 = true := (beq_iff_eq.1 I2).symm
 unfold Program.recurses; rw [h]; rfl
theorem Lx : (Rows.frameTwoRow.named == Tryz.prog.varsNamed 6) = true := by kernel_rfl
theorem Mr : (Rows.frameTwoRow.plainKeys == Tryz.prog.plainKeys) = true := by rw [QA]; rfl
theorem Pj : (Rows.frameTwoRow.lifted == Tryz.prog.liftsFinal) = true := Lt
theorem Pi : (Tryz.prog.make == some Rows.frameTwoRow.make) = true := Qz
theorem Kh : joinedFacts Tryz.prog 6 Tryz.f6 Rows.frameTwoSpec Rows.frameTwoRow = true := by
 unfold joinedFacts
 simp only [Bool.and_eq_true]
 repeat' refine And.intro ?_ ?_
 all_goals first | with_reducible exact CM | with_reducible exact Hg | with_reducible exact NU | with_reducible exact NV | with_reducible exact Lw | with_reducible exact I2 | with_reducible exact N0 | with_reducible exact Lx | with_reducible exact Mr | with_reducible exact Pj | with_reducible exact Pi | kernel_rfl
theorem Mq : Rows.frameTwoRow.holds Tryz.pinned (OpenSpec.ofChange Rows.frameTwoSpec) :=
 OpenClaim.holds_of_wide 6 Tryz.f6 rfl rfl rfl rfl rfl rfl rfl ⟨rfl, rfl, rfl, rfl, rfl⟩ rfl rfl rfl rfl rfl (by kernel_rfl) Tryz.func6 Kh
  (of_decide_eq_true (by kernel_rfl)) (by unfold Func.isWrapper; first | (rw [if_pos (by decide +kernel)]; kernel_rfl) | (rw [if_neg (by decide +kernel)]; exact ⟨rfl, rfl⟩))
  (fun os started H enc _ => Kg os started H enc)
theorem frameTwo_holds : Rows.FrameTwoSaid := Mq
#print axioms frameTwo_holds

end Go.Proofs.YtbgcjnfhadhjeaaGreat