/- CodecOne: for every input the law returns true, and turns nothing that was there; no condition. -/
import Derived.Test.YtnjaohdadaifhaaGreatRows
import Derived.Test.YtnjaohdadaifhaaGreatPk39
import Derived.Test.YtnjaohdadaifhaaGreatPk40
import Derived.Test.YtnjaohdadaifhaaGreatPk34
import Derived.Test.YtnjaohdadaifhaaGreatPk28
import Derived.Test.YtnjaohdadaifhaaGreatPk41
import Derived.Test.YtnjaohdadaifhaaGreatPk33
import Derived.Test.YtnjaohdadaifhaaGreatPk35
namespace Go.Proofs.YtnjaohdadaifhaaGreat
set_option maxRecDepth 20000
theorem rdOps_e : ∀ {n : Nat} {b : List UInt8} {e : Int}, rdOps n b = .error e → e = 110 ∨ e = 290
  | 0, b, e, h => by simp [rdOps] at h
  | n + 1, b, e, h => by
    simp only [rdOps] at h
    split at h
    · rename_i h1; cases h; exact rdOp_e h1
    · split at h
      · rename_i h1; cases h; exact rdOps_e h1
      · cases h
theorem rdRow_e {b : List UInt8} {e : Int} (h : rdRow b = .error e) : e = 110 ∨ e = 290 := by
  match b, h with
  | [], h => simp [rdRow] at h; exact .inl h.symm
  | n :: b, h =>
    simp only [rdRow] at h
    split at h
    · exact rdOps_e h
    · cases h; exact .inr rfl
theorem id_one (b : List UInt8) : (∃ e, takeIdE b = (.zero, 0, e) ∧ e ≠ 0) ∨ ∃ i, takeIdE b = (i, 17, 0) ∧ idB i = true ∧ idBy i = b.take 17 ∧ 17 ≤ b.length := by
  unfold takeIdE
  split
  · exact .inl ⟨_, rfl, by decide⟩
  · rename_i i t h
    split
    · rename_i hi
      have h1 := by_id h hi
      refine .inr ⟨_, rfl, hi, ?_, ?_⟩
      · rw [← h1, List.take_left' (idBy_len i)]
      · rw [← h1, List.length_append, idBy_len]; omega
    · exact .inl ⟨_, rfl, by decide⟩
theorem op_one (b : List UInt8) : (∃ e, takeOp b = (.zero, 0, e) ∧ e ≠ 0) ∨ ∃ o, takeOp b = (o, ((opBy o).length : Int), 0) ∧ opB o = true ∧ opBy o = b.take (opBy o).length ∧ (opBy o).length ≤ b.length := by
  unfold takeOp
  split
  · rename_i e h
    exact .inl ⟨_, rfl, by rcases rdOp_e h with rfl | rfl <;> decide⟩
  · rename_i o t h
    obtain ⟨h1, h2⟩ := by_op h
    have h3 : b.length = (opBy o).length + t.length := by rw [← h2, List.length_append]
    refine .inr ⟨o, ?_, h1, ?_, by omega⟩
    · rw [h3]; simp only [Prod.mk.injEq, true_and, and_true]; omega
    · rw [← h2, List.take_left]
theorem row_one (b : List UInt8) : (∃ e, takeOps b = ([], 0, e) ∧ e ≠ 0) ∨ ∃ l, takeOps b = (l, ((opsBy l).length : Int), 0) ∧ (∀ o ∈ l, opB o = true) ∧ l.length ≤ 64 ∧ opsBy l = b.take (opsBy l).length ∧ (opsBy l).length ≤ b.length := by
  unfold takeOps
  split
  · rename_i e h
    exact .inl ⟨_, rfl, by rcases rdRow_e h with rfl | rfl <;> decide⟩
  · rename_i l t h
    obtain ⟨h1, hl, h2⟩ := by_row h
    have h3 : b.length = (opsBy l).length + t.length := by rw [← h2, List.length_append]
    refine .inr ⟨l, ?_, h1, hl, ?_, by omega⟩
    · rw [h3]; simp only [Prod.mk.injEq, true_and, and_true]; omega
    · rw [← h2, List.take_left]
theorem lay_id8 {X : List UInt8} (h : X.length = 8) : layN 8 (numN X) = X := by have := layN_numN X; rwa [h] at this
theorem cut_on8 (X : List UInt8) (m : Nat) : X.take m ++ (X.take (m + 8)).drop m = X.take (m + 8) := by
  have h := List.take_append_drop m (X.take (m + 8))
  rwa [List.take_take, show min m (m + 8) = m by omega] at h
theorem vc_own8 {X : List UInt8} (h : 64 ≤ X.length) : vcBy (vcOf X) = X.take 64 := by
  simp only [vcBy, vcOf]
  rw [lay_id8 (X := X.take 8) (by simp; omega), lay_id8 (X := (X.take 16).drop 8) (by simp; omega), lay_id8 (X := (X.take 24).drop 16) (by simp; omega), lay_id8 (X := (X.take 32).drop 24) (by simp; omega),
    lay_id8 (X := (X.take 40).drop 32) (by simp; omega), lay_id8 (X := (X.take 48).drop 40) (by simp; omega), lay_id8 (X := (X.take 56).drop 48) (by simp; omega), lay_id8 (X := (X.take 64).drop 56) (by simp; omega)]
  rw [cut_on8 X 8, cut_on8 X 16, cut_on8 X 24, cut_on8 X 32, cut_on8 X 40, cut_on8 X 48, cut_on8 X 56]
theorem vcOf_in (X : List UInt8) : (vcOf X).in := by
  unfold vcOf Vc.in
  refine ⟨by simp only; omega, ?_⟩
  simp only
  refine ⟨?_, ?_, ?_, ?_, ?_, ?_, ?_, ?_⟩ <;> exact numN_u64 _ (by simp; omega)
theorem vc_one (b : List UInt8) : (∃ e, take19 b = (.zero, 0, e) ∧ e ≠ 0) ∨ ∃ v, take19 b = (v, 64, 0) ∧ vcB v = true ∧ v.in ∧ vcBy v = b.take 64 ∧ 64 ≤ b.length := by
  unfold take19
  split
  · exact .inl ⟨_, rfl, by decide⟩
  · split
    · rename_i h1 h2
      exact .inr ⟨_, rfl, h2, vcOf_in b, vc_own8 (by omega), by omega⟩
    · exact .inl ⟨_, rfl, by decide⟩
end Go.Proofs.YtnjaohdadaifhaaGreat

namespace Go.Proofs.YtnjaohdadaifhaaGreat
set_option maxRecDepth 20000
open Go.RowKit
set_option maxRecDepth 10000
set_option maxHeartbeats 4000000
theorem opB_px {o : Opp} (h : opB o = true) : o.px.length ≤ 1000000 := by
  obtain ⟨_, _, hp, _, _, hs, _⟩ := opB_in h
  by_cases k6 : o.k = 6
  · obtain ⟨h1, h2, h3⟩ := st_in (hs k6)
    simp only [sideB, Bool.and_eq_true, decide_eq_true_eq] at h1 h2
    have : o.px.length ≤ 8 * 8 := by rw [h3]; exact Nat.mul_le_mul (show o.w.toNat ≤ 8 by omega) (show o.h.toNat ≤ 8 by omega)
    omega
  · have := congrArg (fun z : Opp => z.px.length) hp
    simp [plainO, k6] at this
    omega
theorem cutNN (b : List UInt8) (n : Nat) : cutL none (some (n : Int)) (byD b) = byD (b.take n) := by
  rw [cutL_eq]; simp [byD, List.map_take]
noncomputable abbrev oneD : Code := sndC 6 (bodyC Tryz.f4)
theorem one_d (B : Nat) (b : List UInt8) (hb : b.length ≤ 2000) : VW Tryz.prog ⟨133, none, B, 0, some B, []⟩ oneD ⟨[(0, .d (bsD b))], [], 0⟩ (retQ Tryz.prog [.tmp 2] (· = .ret (.lit (.bool true)))) := by
  have c1 := takeOps_v b (by omega)
  have hbl := byD_len b
  refine vw_seq ?_
  rcases row_one b with ⟨e, he, h0⟩ | ⟨l, he, hl, h64, hby, hle⟩
  · rw [he] at c1
    simp only [List.map_nil] at c1
    repeat' (first | refine nz1 ?_ | (refine vid ?_; first | refine cz (c1) ?_) | refine nzo ?_ | refine nc ?_ ?_ | (with_reducible intro _ <;> (try (exfalso; omega))) | refine nnil ?_ | (refine nd ?_ ?_ <;> intro hg <;> first | exact xo hg | rw [hg]))
    all_goals first | rfl | (exfalso; simp_all; done) | trace_state
  · rw [he] at c1
    have c2 := opsC_v l fun o ho => opB_px (hl o ho)
    have hal : l.all opB = true := List.all_eq_true.2 hl
    have hlm : (l.map oM).length = l.length := List.length_map _
    simp only [opsE, if_neg (show ¬ 64 < l.length by omega), hal, if_true] at c2
    have ce := equal_v (opsBy l) (opsBy l)
    rw [decide_eq_true rfl] at ce
    have hcut := cutNN b (opsBy l).length
    rw [← hby] at hcut
    generalize opsBy l = L at *
    clear hl hal he hby
    simp only at c1
    repeat' (first | rw [hcut] | refine nz1 ?_ | (refine vid ?_; first | refine cz (c1) ?_ | refine cz (c2) ?_ | refine cz (ce) ?_) | refine nzo ?_ | refine nc ?_ ?_ | (with_reducible intro _ <;> (try (exfalso; omega))) | refine nnil ?_ | (refine nd ?_ ?_ <;> intro hg <;> first | exact xo hg | rw [hg]))
    all_goals first | rfl | (exfalso; simp_all; done) | trace_state
end Go.Proofs.YtnjaohdadaifhaaGreat

namespace Go.Proofs.YtnjaohdadaifhaaGreat
set_option maxRecDepth 20000
open Go.RowKit
set_option maxRecDepth 10000
set_option maxHeartbeats 4000000
noncomputable abbrev oneC : Code := sndC 5 (bodyC Tryz.f4)
noncomputable abbrev oneB : Code := sndC 4 (bodyC Tryz.f4)
noncomputable abbrev oneA : Code := sndC 3 (bodyC Tryz.f4)
theorem one_c (B : Nat) (b : List UInt8) (hb : b.length ≤ 2000) : VW Tryz.prog ⟨133, none, B, 0, some B, []⟩ oneC ⟨[(0, .d (bsD b))], [], 0⟩ (retQ Tryz.prog [.tmp 2] (· = .ret (.lit (.bool true)))) := by
  have hend := one_d B b hb
  have c1 := takeOp_v b (by omega)
  have hbl := byD_len b
  refine vw_cut (fun _ : Unit => ⟨[(0, .d (bsD b))], [], 0⟩) (fun _ => True) ?_ fun _ _ => hend
  clear hend
  rcases op_one b with ⟨e, he, h0⟩ | ⟨o, he, hB, hby, hle⟩
  · rw [he] at c1
    simp only [oM, oDf] at c1
    repeat' (first | refine nz1 ?_ | (refine vid ?_; first | refine cz (c1) ?_) | refine nzo ?_ | refine nc ?_ ?_ | (with_reducible intro _ <;> (try (exfalso; omega))) | refine nnil ?_ | (refine nd ?_ ?_ <;> intro hg <;> first | exact xo hg | rw [hg]))
    all_goals first | with_reducible refine nx_cut () trivial ?_ | (exfalso; simp_all; done) | trace_state
    all_goals first | exact (sub_z) | trace_state
  · rw [he] at c1
    have c2 := opC_v o (opB_px hB)
    have c3 := ocheck_v o (opB_px hB)
    rw [if_pos hB] at c3
    simp only [hB, if_true] at c2
    clear he hB
    have ce := equal_v (opBy o) (opBy o)
    rw [decide_eq_true rfl] at ce
    have hcut := cutNN b (opBy o).length
    rw [← hby] at hcut
    generalize opBy o = L at *
    simp only [oD, oM, oDf] at *
    repeat' (first | rw [hcut] | refine nz1 ?_ | (refine vid ?_; first | refine cz (c1) ?_ | refine cz (c2) ?_ | refine cz (c3) ?_ | refine cz (ce) ?_) | refine nzo ?_ | refine nc ?_ ?_ | (with_reducible intro _ <;> (try (exfalso; omega))) | refine nnil ?_ | (refine nd ?_ ?_ <;> intro hg <;> first | exact xo hg | rw [hg]))
    all_goals first | with_reducible refine nx_cut () trivial ?_ | (exfalso; simp_all; done) | trace_state
    all_goals first | exact (sub_z) | trace_state
theorem one_b (B : Nat) (b : List UInt8) (hb : b.length ≤ 2000) : VW Tryz.prog ⟨133, none, B, 0, some B, []⟩ oneB ⟨[(0, .d (bsD b))], [], 0⟩ (retQ Tryz.prog [.tmp 2] (· = .ret (.lit (.bool true)))) := by
  have hend := one_c B b hb
  have c1 := takeC_v b (by omega)
  have hbl := byD_len b
  refine vw_cut (fun _ : Unit => ⟨[(0, .d (bsD b))], [], 0⟩) (fun _ => True) ?_ fun _ _ => hend
  clear hend
  rcases vc_one b with ⟨e, he, h0⟩ | ⟨v, he, hB, hin, hby, hle⟩
  · rw [he] at c1
    simp only [vcD] at c1
    repeat' (first | refine nz1 ?_ | (refine vid ?_; first | refine cz (c1) ?_) | refine nzo ?_ | refine nc ?_ ?_ | (with_reducible intro _ <;> (try (exfalso; omega))) | refine nnil ?_ | (refine nd ?_ ?_ <;> intro hg <;> first | exact xo hg | rw [hg]))
    all_goals first | with_reducible refine nx_cut () trivial ?_ | (exfalso; simp_all; done) | trace_state
    all_goals first | exact (sub_z) | trace_state
  · rw [he] at c1
    have c2 := vectorC_v v hin
    simp only [hB, if_true] at c2
    clear he hB hin
    have ce := equal_v (vcBy v) (vcBy v)
    rw [decide_eq_true rfl] at ce
    have hcut := cutNN b 64
    rw [show ((64 : Nat) : Int) = 64 from rfl] at hcut
    rw [← hby] at hcut
    generalize vcBy v = L at *
    simp only [vcD] at *
    repeat' (first | rw [hcut] | refine nz1 ?_ | (refine vid ?_; first | refine cz (c1) ?_ | refine cz (c2) ?_ | refine cz (ce) ?_) | refine nzo ?_ | refine nc ?_ ?_ | (with_reducible intro _ <;> (try (exfalso; omega))) | refine nnil ?_ | (refine nd ?_ ?_ <;> intro hg <;> first | exact xo hg | rw [hg]))
    all_goals first | with_reducible refine nx_cut () trivial ?_ | (exfalso; simp_all; done) | trace_state
    all_goals first | exact (sub_z) | trace_state
theorem one_a (B : Nat) (b : List UInt8) (hb : b.length ≤ 2000) : VW Tryz.prog ⟨133, none, B, 0, some B, []⟩ oneA ⟨[(0, .d (bsD b))], [], 0⟩ (retQ Tryz.prog [.tmp 2] (· = .ret (.lit (.bool true)))) := by
  have hend := one_b B b hb
  have c1 := takeI_v b (by omega)
  have hbl := byD_len b
  refine vw_cut (fun _ : Unit => ⟨[(0, .d (bsD b))], [], 0⟩) (fun _ => True) ?_ fun _ _ => hend
  clear hend
  rcases id_one b with ⟨e, he, h0⟩ | ⟨i, he, hB, hby, hle⟩
  · rw [he] at c1
    simp only [idD] at c1
    repeat' (first | refine nz1 ?_ | (refine vid ?_; first | refine cz (c1) ?_) | refine nzo ?_ | refine nc ?_ ?_ | (with_reducible intro _ <;> (try (exfalso; omega))) | refine nnil ?_ | (refine nd ?_ ?_ <;> intro hg <;> first | exact xo hg | rw [hg]))
    all_goals first | with_reducible refine nx_cut () trivial ?_ | (exfalso; simp_all; done) | trace_state
    all_goals first | exact (sub_z) | trace_state
  · rw [he] at c1
    have c2 := idC_v i
    simp only [hB, if_true] at c2
    clear he hB
    have ce := equal_v (idBy i) (idBy i)
    rw [decide_eq_true rfl] at ce
    have hcut := cutNN b 17
    rw [show ((17 : Nat) : Int) = 17 from rfl] at hcut
    rw [← hby] at hcut
    generalize idBy i = L at *
    simp only [idD] at *
    repeat' (first | rw [hcut] | refine nz1 ?_ | (refine vid ?_; first | refine cz (c1) ?_ | refine cz (c2) ?_ | refine cz (ce) ?_) | refine nzo ?_ | refine nc ?_ ?_ | (with_reducible intro _ <;> (try (exfalso; omega))) | refine nnil ?_ | (refine nd ?_ ?_ <;> intro hg <;> first | exact xo hg | rw [hg]))
    all_goals first | with_reducible refine nx_cut () trivial ?_ | (exfalso; simp_all; done) | trace_state
    all_goals first | exact (sub_z) | trace_state
theorem one_v (hw : VP Tryz.prog 6 [] (· = .ret (.lit (.bool true)))) (x : List UInt8) : VP Tryz.prog 4 [bsD x] (· = .ret (.lit (.bool true))) := by
  have hcut := cutM (fun y : UInt8 => [.lit (vb y)]) x 2000
  have hbl := byD_len x
  have hend := fun B => one_a B (x.take 2000) (by simp; omega)
  rw [show ((2000 : Nat) : Int) = 2000 from rfl] at hcut
  generalize x.take 2000 = b at *
  refine vp_of Tryz.func4 rfl Tryz.ntmps4 rfl Tryz.results4 fun B => ?_
  replace hend := hend B
  refine vw_cut (fun _ : Unit => ⟨[(0, .d (bsD x))], [], 0⟩) (fun _ => True) ?_ fun _ _ => ?_
  · repeat' (first | refine nz1 ?_ | refine nzo ?_ | refine nc ?_ ?_ | (with_reducible intro _ <;> (try (exfalso; omega))) | refine nnil ?_ | (refine nd ?_ ?_ <;> intro hg <;> first | exact xo hg | rw [hg]))
    exact nx_cut () trivial (sub_z)
  refine vw_cut (fun _ : Unit => ⟨[(0, .d (bsD x))], [], 0⟩) (fun _ => True) ?_ fun _ _ => ?_
  · repeat' (first | refine nz1 ?_ | (refine vid ?_; first | refine cz (hw) ?_) | refine nzo ?_ | refine nc ?_ ?_ | (with_reducible intro _ <;> (try (exfalso; omega))) | refine nnil ?_ | (refine nd ?_ ?_ <;> intro hg <;> first | exact xo hg | rw [hg]))
    exact nx_cut () trivial (sub_z)
  refine vw_cut (fun _ : Unit => ⟨[(0, .d (bsD b))], [], 0⟩) (fun _ => True) ?_ fun _ _ => hend
  repeat' (first | rw [hcut] | refine nz1 ?_ | refine nzo ?_ | refine nc ?_ ?_ | (with_reducible intro _ <;> (try (exfalso; omega))) | refine nnil ?_ | (refine nd ?_ ?_ <;> intro hg <;> first | exact xo hg | rw [hg]))
  exact nx_cut () trivial (sub_z)
end Go.Proofs.YtnjaohdadaifhaaGreat

namespace Go.Proofs.YtnjaohdadaifhaaGreat
set_option maxRecDepth 20000
theorem one_law (x : List UInt8) : VP Tryz.prog 4 [.sl false false (byD x)] (· = .ret (.lit (.bool true))) := one_v wakes_v x
end Go.Proofs.YtnjaohdadaifhaaGreat

namespace Go.Proofs.YtnjaohdadaifhaaGreat
set_option maxRecDepth 20000
open Go.ChangeShapes Go.WideShapes Go.ChangeAt Go.RowKit
set_option maxRecDepth 100000
set_option maxRecDepth 100000 in
theorem codecOne_lifted (os : Os) (started : os.Started) (H : Type) (enc : TypeId × Value → H) :
    ReturnsInHanded {} Tryz.checked os 4 .any (Rows.codecOneSpec.pre6 enc Tryz.prog Tryz.f4 Rows.codecOneRow.domain false) (Rows.codecOneSpec.post enc Tryz.prog Tryz.f4 false true false false) := by
  refine returnsInHanded_of_change (C := Tryz.checked) l_own started (by kernel_rfl) Tryz.func4
    (ChangeSpec.witness6 (enc := enc) (C := Tryz.checked) false ⟨#[], #[.slice none 0 0], []⟩ 8 (by kernel_rfl) (by kernel_rfl) (by kernel_rfl) (by kernel_rfl)) ?_
  intro W base args ds gs before hval0 hW hcnd _
  have hval : ∀ (j : Nat) t v, Tryz.f4.params[j]? = some t → args[j]? = some v → Value.okWide Tryz.prog W .any base t v := hval0
  have hW' := hW
  obtain ⟨p, q, hA0, hV, rfl, hfz, hnd⟩ := hW
  have hA : DataW.TrodAll enc Tryz.prog W 0 (fun _ => true) true Tryz.f4.params.toList args.toList ds p := hA0
  rw [Tryz.params4] at hA hval
  obtain ⟨v0, vs0, e0, ds0, p0, q0, hargs, rfl, rfl, h0, r0⟩ := trodAll_cons hA
  obtain ⟨rfl, rfl, rfl⟩ := trodAll_nil r0
  obtain rfl : args = #[v0] := by cases args; simp_all
  obtain ⟨rfl, rfl⟩ := trodVars_none hV
  have k0 := h0
  have lt0 : ∀ x ∈ p0, x.block < W.heap.size := by obtain ⟨m, hm⟩ := k0; exact DataW.trod_lt m _ _ _ hm
  obtain ⟨a0, n0, c0, rfl⟩ := okWide_slice Tryz.underlying23 (hval 0 23 v0 rfl rfl)
  obtain ⟨y0, z0, d0⟩ := arg_cell opn_by rfl h0
  clear hA0 hval0
  refine ((one_law y0).2 (fun _ => True) W _ (by simp only [dreps]; exact ⟨_, _, rfl, d0 _, rfl⟩)).mono fun e W' ⟨bel, r, he, hr⟩ => ?_
  subst he
  obtain ⟨u, rfl, hu⟩ := hr
  simp only [drep] at hu
  subst hu
  exact ⟨_, rfl, _, _, _, [], _, [], hW', trodAll_mk1 (shut_bool Tryz.underlying4 _), (trodAll_cons_mk (Below.trod l_laidOut (by kernel_rfl) (of_decide_eq_true (by kernel_rfl)) k0 bel lt0) trodAll_mk0), rfl, bel.frame _, fun h => by cases h⟩
theorem codecOne_place : (Rows.codecOneRow.inPlace == Tryz.prog.inPlace 4) = true := by kernel_rfl
theorem codecOne_unf : (Rows.codecOneRow.unfollowed == Tryz.prog.unfollowed 4) = true := by kernel_rfl
theorem codecOne_rec : (Rows.codecOneRow.recurses == Tryz.prog.recurses 4) = true := by
  have h : Tryz.prog.unfollowed 4 = true := (beq_iff_eq.1 codecOne_unf).symm
  unfold Program.recurses; rw [h]; rfl
theorem codecOne_named : (Rows.codecOneRow.named == Tryz.prog.varsNamed 4) = true := by kernel_rfl
theorem codecOne_keys : (Rows.codecOneRow.plainKeys == Tryz.prog.plainKeys) = true := by rw [l_keys]; rfl
theorem codecOne_lf : (Rows.codecOneRow.lifted == Tryz.prog.liftsFinal) = true := l_lifted
theorem codecOne_mk : (Tryz.prog.make == some Rows.codecOneRow.make) = true := l_make
theorem codecOne_joined : joinedFacts Tryz.prog 4 Tryz.f4 Rows.codecOneSpec Rows.codecOneRow = true := by
  unfold joinedFacts
  simp only [Bool.and_eq_true]
  repeat' refine And.intro ?_ ?_
  all_goals first | with_reducible exact l_laidOut | with_reducible exact l_mapsRowed | with_reducible exact l_heard | with_reducible exact l_enter | with_reducible exact codecOne_place | with_reducible exact codecOne_unf | with_reducible exact codecOne_rec | with_reducible exact codecOne_named | with_reducible exact codecOne_keys | with_reducible exact codecOne_lf | with_reducible exact codecOne_mk | kernel_rfl
theorem codecOne_over : Rows.codecOneRow.holds Tryz.pinned (OpenSpec.ofChange Rows.codecOneSpec) :=
  OpenClaim.holds_of_wide 4 Tryz.f4 rfl rfl rfl rfl rfl rfl rfl ⟨rfl, rfl, rfl, rfl, rfl⟩ rfl rfl rfl rfl rfl (by kernel_rfl) Tryz.func4 codecOne_joined
    (of_decide_eq_true (by kernel_rfl)) (by unfold Func.isWrapper; first | (rw [if_pos (by decide +kernel)]; kernel_rfl) | (rw [if_neg (by decide +kernel)]; exact ⟨rfl, rfl⟩))
    (fun os started H enc _ => codecOne_lifted os started H enc)
theorem codecOne_holds : Rows.CodecOneSaid := codecOne_over
#print axioms codecOne_holds
end Go.Proofs.YtnjaohdadaifhaaGreat
