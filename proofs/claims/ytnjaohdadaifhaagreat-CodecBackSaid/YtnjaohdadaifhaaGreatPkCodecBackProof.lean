/- CodecBack: for every input the law returns true, and turns nothing that was there; no condition. -/
import Derived.Test.YtnjaohdadaifhaaGreatRows
import Derived.Test.YtnjaohdadaifhaaGreatPk39
import Derived.Test.YtnjaohdadaifhaaGreatPk40
import Derived.Test.YtnjaohdadaifhaaGreatPk34
import Derived.Test.YtnjaohdadaifhaaGreatPk28
import Derived.Test.YtnjaohdadaifhaaGreatPk41
import Derived.Test.YtnjaohdadaifhaaGreatPk33
import Derived.Test.YtnjaohdadaifhaaGreatPk35
namespace Go.Proofs.YtnjaohdadaifhaaGreat
set_option maxRecDepth 20000
open Go.RowKit
set_option maxRecDepth 10000
set_option maxHeartbeats 4000000
theorem opB_px {o : Opp} (h : opB o = true) : o.px.length ≤ 1000000 := by
  obtain ⟨_, _, hp, _, _, hs, _⟩ := opB_in h
  by_cases k6 : o.k = 6
  · obtain ⟨h1, h2, h3⟩ := st_in (hs k6)
    simp only [sideB, Bool.and_eq_true, decide_eq_true_eq] at h1 h2
    have : o.px.length ≤ 8 * 8 := by rw [h3]; exact Nat.mul_le_mul (show o.w.toNat ≤ 8 by omega) (show o.h.toNat ≤ 8 by omega)
    omega
  · have := congrArg (fun z : Opp => z.px.length) hp
    simp [plainO, k6] at this
    omega
theorem cutNN (b : List UInt8) (n : Nat) : cutL none (some (n : Int)) (byD b) = byD (b.take n) := by
  rw [cutL_eq]; simp [byD, List.map_take]
end Go.Proofs.YtnjaohdadaifhaaGreat

namespace Go.Proofs.YtnjaohdadaifhaaGreat
set_option maxRecDepth 20000
open Go.RowKit
set_option maxRecDepth 10000
set_option maxHeartbeats 4000000
theorem eqop_f (F : Nat) (l m : List Opp) (cF : ∀ x z : Opp, VP Tryz.prog F [.agg (oD x), .agg (oD z)] (· = .ret (.lit (.bool (decide (x = z)))))) :
    VP Tryz.prog 11 [opsD l, opsD m, .fn F [] []] (· = .ret (.lit (.bool (decide (l = m))))) := by
  rw [← eqF_eq]
  refine vp_of Tryz.func11 rfl Tryz.ntmps11 rfl Tryz.results11 fun B => ?_
  have hl := opsD_len l
  have hm := opsD_len m
  generalize hp : (fun x y : Opp => decide (x = y)) = p
  repeat' (first | refine nz1 ?_ | refine nzo ?_ | refine nc ?_ ?_ | (with_reducible intro _ <;> (try (exfalso; omega))) | refine nnil ?_ | (refine nd ?_ ?_ <;> intro hg <;> first | exact xo hg | rw [hg]))
  · rw [eqF_len (by omega)]
  · refine vw_each 15 l oD (fun (i : Nat) (_ : Unit) => ⟨[(17, I .i64 i), (16, I .i64 (l.map oD).length), (15, .d (opsD l)), (1, .d (opsD m)), (2, .d (.fn F [] []))], [], 0⟩) (fun i _ => eqF p l m = eqF p (l.drop i) (m.drop i)) () (sub_z) rfl (fun i y x hT hi hx hx' hlt hlm hlen hdr => ?_) (fun y hT hlt hlm => ?_)
    · have hlb : i < m.length := by omega
      have hb' : m[i]? = some m[i] := List.getElem?_eq_getElem hlb
      have hbd := List.drop_eq_getElem_cons hlb
      generalize m[i] = z at *
      have hbx : (m.map oD)[((i : Nat) : Int).toNat]? = some (oD z) := by simp [hb']
      rw [hdr, hbd] at hT
      have c := cF x z
      rw [show decide (x = z) = p x z by rw [← hp]] at c
      simp only [oD, oDf] at c hx' hbx ⊢
      repeat' (first | refine nz1 ?_ | (refine vid ?_; first | refine cz (c) ?_) | refine nzo ?_ | refine nc ?_ ?_ | (with_reducible intro _ <;> (try (exfalso; omega))) | refine nnil ?_ | (refine nd ?_ ?_ <;> intro hg <;> first | exact xo hg | rw [hg]))
      · rw [hT]; simp_all [eqF]
      · refine nx_each () hi ?_ (sub_z); rw [hT]; simp_all [eqF]
    · repeat' (first | refine nz1 ?_ | refine nzo ?_ | refine nc ?_ ?_ | (with_reducible intro _ <;> (try (exfalso; omega))) | refine nnil ?_ | (refine nd ?_ ?_ <;> intro hg <;> first | exact xo hg | rw [hg]))
      rw [hT, List.drop_of_length_le (Nat.le_refl _), List.drop_of_length_le (by omega)]; rfl
theorem eqopS_v (l m : List Opp) : VP Tryz.prog 11 [opsD l, opsD m, .fn 12 [] []] (· = .ret (.lit (.bool (decide (l = m))))) := eqop_f _ l m osame_v
end Go.Proofs.YtnjaohdadaifhaaGreat

namespace Go.Proofs.YtnjaohdadaifhaaGreat
set_option maxRecDepth 20000
open Go.RowKit
set_option maxRecDepth 10000
set_option maxHeartbeats 4000000
theorem q_rem {P : Program} {cx : Cx} {s : St} {t yt ty : TypeId} {x y : Operand} {k : IntKind} {a b : Int} (hx : evalV s x = some (I k a)) (hy : evalV s y = some (I k b)) (hb : b ≠ 0) : OpQ P cx (.binOp .rem t x y yt) ty s (I k (a.tmod b)) := q_bini hx hy fun w => by simp [binOp, Op.intDiv, hb]
theorem vs_rem {P : Program} {cx : Cx} {ops rest : List Oper} {tm : List (Nat × V)} {st : List E} {nb : Nat} {Q : VE → St → Prop} {d : Tmp} {t yt ty : TypeId} {x y : Operand} {k : IntKind} {a b : Int} {pos : String} {af : Array Edge} (kk : VL P cx ops rest ⟨(d, I k (a.tmod b)) :: tm, st, nb⟩ Q)
    (hx : evalV ⟨tm, st, nb⟩ x = some (I k a) := by rfl) (hy : evalV ⟨tm, st, nb⟩ y = some (I k b) := by rfl) (hb : b ≠ 0 := by omega) (hd : Nat.blt d cx.N = true := by rfl) : VL P cx ops (⟨some d, .binOp .rem t x y yt, ty, pos, af, none⟩ :: rest) ⟨tm, st, nb⟩ Q := vs_x kk (sx_q (h := q_rem hx hy hb) (hd := hd))
theorem takeOp_back {o : Opp} (h : opB o = true) (M : List UInt8) : takeOp (opBy o ++ M) = (o, ((opBy o).length : Int), 0) := by
  unfold takeOp; rw [rdOp_by h]; simp only [List.length_append, Prod.mk.injEq, true_and, and_true]; omega
theorem takeOps_back {l : List Opp} (h : ∀ o ∈ l, opB o = true) (hl : l.length ≤ 64) (M : List UInt8) : takeOps (opsBy l ++ M) = (l, ((opsBy l).length : Int), 0) := by
  unfold takeOps; rw [rdRow_by h hl]; simp only [List.length_append, Prod.mk.injEq, true_and, and_true]; omega
theorem takeOps_less {l : List Opp} (h : ∀ o ∈ l, opB o = true) (hl : l.length ≤ 64) {n : Nat} (hn : n < (opsBy l).length) : takeOps ((opsBy l).take n) = ([], 0, 110) := by
  unfold takeOps; rw [rdRow_short h hl hn]
noncomputable abbrev backC : Code := sndC 9 (bodyC Tryz.f3)
theorem back_c (B : Nat) (l : List Opp) (h : ∀ o ∈ l, opB o = true) (h64 : l.length ≤ 64) (cut : Int) : VW Tryz.prog ⟨147, none, B, 0, some B, []⟩ backC ⟨[(12, .d (i64D (opsBy l).length)), (8, .d (bsD (opsBy l))), (2, .d (i64D cut))], [], 0⟩ (retQ Tryz.prog [.tmp 6] (· = .ret (.lit (.bool true)))) := by
  refine vw_seq ?_
  have hless := @takeOps_less l h h64
  have hpos : 0 < (opsBy l).length := by simp [opsBy, layN_len]; omega
  have hlen : (opsBy l).length ≤ 1000000 := by have := ops_len l h; simp only [opsBy, List.length_append, layN_len]; omega
  have hbl := byD_len (opsBy l)
  generalize opsBy l = L at *
  obtain ⟨k, hk, hkk⟩ : ∃ k : Nat, k < L.length ∧ IntKind.i64.wrap ((IntKind.u64.wrap cut).tmod ((byD L).length : Int)) = (k : Int) := by
    have h0 : 0 ≤ IntKind.u64.wrap cut := by
      have : IntKind.u64.wrap cut = cut % 18446744073709551616 := by simp [IntKind.wrap, IntKind.bits, IntKind.signed]
      omega
    generalize IntKind.u64.wrap cut = u at *
    have h2 := Int.emod_nonneg u (show ((byD L).length : Int) ≠ 0 by omega)
    have h3 := Int.emod_lt_of_pos u (show (0 : Int) < ((byD L).length : Int) by omega)
    refine ⟨(u % ((byD L).length : Int)).toNat, by omega, ?_⟩
    rw [Int.tmod_eq_emod_of_nonneg h0, wrap_in (by simp only [inK]; omega)]
    omega
  have hcut := cutNN L k
  have c1 := takeOps_v (L.take k) (by simp; omega)
  rw [hless hk] at c1
  simp only [List.map_nil] at c1
  rw [← hbl]
  repeat' (first | refine vs_rem ?_ | rw [hkk] | rw [hcut] | refine nz1 ?_ | (refine vid ?_; first | refine cz (c1) ?_) | refine nzo ?_ | refine nc ?_ ?_ | (with_reducible intro _ <;> (try (exfalso; omega))) | refine nnil ?_ | (refine nd ?_ ?_ <;> intro hg <;> first | exact xo hg | rw [hg]))
  all_goals first | rfl | (exfalso; simp_all; done) | trace_state
end Go.Proofs.YtnjaohdadaifhaaGreat

namespace Go.Proofs.YtnjaohdadaifhaaGreat
set_option maxRecDepth 20000
open Go.RowKit
set_option maxRecDepth 10000
set_option maxHeartbeats 4000000
theorem opBy_pos (o : Opp) : 0 < (opBy o).length := by simp [opBy, layN_len]; omega
noncomputable abbrev backB : Code := sndC 7 (bodyC Tryz.f3)
theorem back_b (B : Nat) (f : List Opp) (h : ∀ o ∈ f, opB o = true) (h64 : f.length ≤ 64) (cut : Int) (behind : List UInt8) : VW Tryz.prog ⟨147, none, B, 0, some B, []⟩ backB ⟨[(8, .d (bsD (opsBy f))), (7, .d (.sl false true (f.map oM))), (2, .d (i64D cut)), (1, .d (bsD behind))], [], 0⟩ (retQ Tryz.prog [.tmp 6] (· = .ret (.lit (.bool true)))) := by
  have hend := back_c B f h h64 cut
  have hml : (f.map oM).length = f.length := List.length_map _
  have hcut := cutM (fun y : UInt8 => [.lit (vb y)]) behind 50
  rw [show ((50 : Nat) : Int) = 50 from rfl] at hcut
  have hM : (behind.take 50).length ≤ 50 := by simp; omega
  have hMl := byD_len (behind.take 50)
  have hbeh := byD_len behind
  have htot : (opsBy f).length = 1 + ((f.take f.length).flatMap opBy).length := by rw [List.take_length]; simp [opsBy, layN_len]
  rw [htot] at hend
  generalize behind.take 50 = M at *
  refine vw_seq ?_
  repeat' (first | refine nz1 ?_ | refine nzo ?_ | refine nc ?_ ?_ | (with_reducible intro _ <;> (try (exfalso; omega))) | refine nnil ?_ | (refine nd ?_ ?_ <;> intro hg <;> first | exact xo hg | rw [hg]))
  refine vw_join (fun _ : Unit => ⟨[(12, .d (i64D ((1 + ((f.take f.length).flatMap opBy).length : Nat) : Int))), (8, .d (bsD (opsBy f))), (2, .d (i64D cut))], [], 0⟩) (fun _ => True) ?_ fun _ _ => hend
  clear hend htot
  obtain ⟨R, hR⟩ : ∃ R, opsBy f = R := ⟨_, rfl⟩
  rw [hR]
  clear hR
  refine vw_each 64 f oM (fun (i : Nat) (_ : Unit) => ⟨[(66, I .i64 i), (65, I .i64 (f.map oM).length), (64, .d (.sl false true (f.map oM))), (12, .d (i64D ((1 + ((f.take i).flatMap opBy).length : Nat) : Int))), (8, .d (bsD R)), (7, .d (.sl false true (f.map oM))), (2, .d (i64D cut)), (1, .d (bsD behind))], [], 0⟩) (fun i _ => True) () (sub_z) trivial (fun i y x hT hi hx hx' hlt hlm hlen hdr => ?_) (fun y hT hlt hlm => ?_)
  · have hB := h x (List.mem_of_getElem? hx)
    have htk : ((1 + ((f.take (i + 1)).flatMap opBy).length : Nat) : Int) = ((1 + ((f.take i).flatMap opBy).length : Nat) : Int) + ((opBy x).length : Int) := by
      rw [List.take_add_one, hx]; simp only [Option.toList_some, List.flatMap_append, List.length_append, List.flatMap_cons, List.flatMap_nil, List.append_nil]; omega
    have h1 : ((f.take i).flatMap opBy).length ≤ 64000 := by
      have := ops_len (f.take i) fun o ho => h o (List.mem_of_mem_take ho)
      have h2 : (f.take i).length ≤ i := by simp; omega
      omega
    have h2 := op_len hB
    have hp := opBy_pos x
    generalize hz : ((1 + ((f.take i).flatMap opBy).length : Nat) : Int) = z at *
    have hz1 : 0 ≤ z ∧ z ≤ 64001 := by omega
    clear hz h1
    have d1 := opC_v x (opB_px hB)
    have d2 := clone_o (opBy x) hp (by omega)
    have d3 := takeOp_v (opBy x ++ M) (by simp; omega)
    rw [takeOp_back hB M] at d3
    have d4 := size_v x (opB_px hB)
    have d5 := osame_v x x
    rw [decide_eq_true rfl] at d5
    simp only [hB, if_true] at d1 d4
    have hL : byD (opBy x) ++ byD M = byD (opBy x ++ M) := (byD_app _ _).symm
    have hbl := byD_len (opBy x)
    generalize opBy x ++ M = LM at *
    generalize opBy x = L at *
    rw [← hbl] at d3 d4 htk
    simp only [oD, oM, oDf] at d1 d3 d4 d5 hx'
    clear h hB hml
    repeat' (first | rw [hcut] | rw [hL] | refine nz1 ?_ | (refine vid ?_; first | refine cz (d1) ?_ | refine cz (d2) ?_ | refine cz (d3) ?_ | refine cz (d4) ?_ | refine cz (d5) ?_) | refine nzo ?_ | refine nc ?_ ?_ | (with_reducible intro _ <;> (try (exfalso; omega))) | refine nnil ?_ | (refine nd ?_ ?_ <;> intro hg <;> first | exact xo hg | rw [hg]))
    refine nx_each () hi trivial ?_
    simp only [htk]
    exact (sub_z)
  · repeat' (first | refine nz1 ?_ | refine nzo ?_ | refine nc ?_ ?_ | (with_reducible intro _ <;> (try (exfalso; omega))) | refine nnil ?_ | (refine nd ?_ ?_ <;> intro hg <;> first | exact xo hg | rw [hg]))
    exact nx_cut () trivial (sub_z)
theorem back_v (hw : VP Tryz.prog 6 [] (· = .ret (.lit (.bool true)))) (x : List Opp) (behind : List UInt8) (cut : Int) : VP Tryz.prog 3 [opsD x, bsD behind, i64D cut] (· = .ret (.lit (.bool true))) := by
  have cf := few19_v x
  have h66 := fewO_64 x
  have hpx := fewO_px x
  generalize fewO x = f at *
  have c1 := opsC_v f hpx
  have hml : (f.map oM).length = f.length := List.length_map _
  by_cases hok : f.length ≤ 64 ∧ f.all opB = true
  · have hB := List.all_eq_true.1 hok.2
    have hend := fun B => back_b B f hB hok.1 cut behind
    have hcut := cutM (fun y : UInt8 => [.lit (vb y)]) behind 50
    rw [show ((50 : Nat) : Int) = 50 from rfl] at hcut
    have hM : (behind.take 50).length ≤ 50 := by simp; omega
    have hMl := byD_len (behind.take 50)
    have hbeh := byD_len behind
    generalize behind.take 50 = M at *
    simp only [opsE, if_neg (show ¬ 64 < f.length by omega), hok.2, if_true] at c1
    have hpos : 0 < (opsBy f).length := by simp [opsBy, layN_len]; omega
    have hlen : (opsBy f).length ≤ 70000 := by have := ops_len f hB; simp only [opsBy, List.length_append, layN_len]; omega
    have c2 := clone_o (opsBy f) hpos (by omega)
    have c3 := takeOps_v (opsBy f ++ M) (by simp; omega)
    rw [takeOps_back hB hok.1 M] at c3
    have c4 := eqopS_v f f
    rw [decide_eq_true rfl] at c4
    have hL : byD (opsBy f) ++ byD M = byD (opsBy f ++ M) := (byD_app _ _).symm
    have hbl := byD_len (opsBy f)
    generalize opsBy f ++ M = LM at *
    generalize opsBy f = L at *
    rw [← hbl] at c3
    simp only at c3
    clear hB hok hpx
    refine vp_of Tryz.func3 rfl Tryz.ntmps3 rfl Tryz.results3 fun B => ?_
    replace hend := hend B
    refine vw_cut (fun _ : Unit => ⟨[(0, .d (opsD x)), (1, .d (bsD behind)), (2, .d (i64D cut))], [], 0⟩) (fun _ => True) ?_ fun _ _ => ?_
    · repeat' (first | refine nz1 ?_ | refine nzo ?_ | refine nc ?_ ?_ | (with_reducible intro _ <;> (try (exfalso; omega))) | refine nnil ?_ | (refine nd ?_ ?_ <;> intro hg <;> first | exact xo hg | rw [hg]))
      exact nx_cut () trivial (sub_z)
    refine vw_cut (fun _ : Unit => ⟨[(0, .d (opsD x)), (1, .d (bsD behind)), (2, .d (i64D cut))], [], 0⟩) (fun _ => True) ?_ fun _ _ => ?_
    · repeat' (first | refine nz1 ?_ | (refine vid ?_; first | refine cz (hw) ?_) | refine nzo ?_ | refine nc ?_ ?_ | (with_reducible intro _ <;> (try (exfalso; omega))) | refine nnil ?_ | (refine nd ?_ ?_ <;> intro hg <;> first | exact xo hg | rw [hg]))
      exact nx_cut () trivial (sub_z)
    refine vw_cut (fun _ : Unit => ⟨[(7, .d (.sl false true (f.map oM))), (1, .d (bsD behind)), (2, .d (i64D cut))], [], 0⟩) (fun _ => True) ?_ fun _ _ => ?_
    · repeat' (first | refine nz1 ?_ | (refine vid ?_; first | refine cz (cf) ?_) | refine nzo ?_ | refine nc ?_ ?_ | (with_reducible intro _ <;> (try (exfalso; omega))) | refine nnil ?_ | (refine nd ?_ ?_ <;> intro hg <;> first | exact xo hg | rw [hg]))
      exact nx_cut () trivial (sub_z)
    refine vw_cut (fun _ : Unit => ⟨[(9, .d (i64D 0)), (8, .d (bsD L)), (7, .d (.sl false true (f.map oM))), (1, .d (bsD behind)), (2, .d (i64D cut))], [], 0⟩) (fun _ => True) ?_ fun _ _ => ?_
    · repeat' (first | refine nz1 ?_ | (refine vid ?_; first | refine cz (c1) ?_) | refine nzo ?_ | refine nc ?_ ?_ | (with_reducible intro _ <;> (try (exfalso; omega))) | refine nnil ?_ | (refine nd ?_ ?_ <;> intro hg <;> first | exact xo hg | rw [hg]))
      exact nx_cut () trivial (sub_z)
    refine vw_cut (fun _ : Unit => ⟨[(8, .d (bsD L)), (7, .d (.sl false true (f.map oM))), (1, .d (bsD behind)), (2, .d (i64D cut))], [], 0⟩) (fun _ => True) ?_ fun _ _ => ?_
    · repeat' (first | refine nz1 ?_ | refine nzo ?_ | refine nc ?_ ?_ | (with_reducible intro _ <;> (try (exfalso; omega))) | refine nnil ?_ | (refine nd ?_ ?_ <;> intro hg <;> first | exact xo hg | rw [hg]))
      all_goals first | exact nx_cut () trivial (sub_z) | (exfalso; simp_all; done) | trace_state
    refine vw_cut (fun _ : Unit => ⟨[(11, .d (i64D (byD L).length)), (10, .d (.sl false true (f.map oM))), (9, .d (i64D 0)), (8, .d (bsD L)), (7, .d (.sl false true (f.map oM))), (1, .d (bsD behind)), (2, .d (i64D cut))], [], 0⟩) (fun _ => True) ?_ fun _ _ => ?_
    · repeat' (first | rw [hcut] | rw [hL] | refine nz1 ?_ | (refine vid ?_; first | refine cz (c2) ?_ | refine cz (c3) ?_) | refine nzo ?_ | refine nc ?_ ?_ | (with_reducible intro _ <;> (try (exfalso; omega))) | refine nnil ?_ | (refine nd ?_ ?_ <;> intro hg <;> first | exact xo hg | rw [hg]))
      all_goals first | exact nx_cut () trivial (sub_z) | trace_state
    refine vw_cut (fun _ : Unit => ⟨[(8, .d (bsD L)), (7, .d (.sl false true (f.map oM))), (1, .d (bsD behind)), (2, .d (i64D cut))], [], 0⟩) (fun _ => True) ?_ fun _ _ => ?_
    · repeat' (first | refine nz1 ?_ | (refine vid ?_; first | refine cz (c4) ?_) | refine nzo ?_ | refine nc ?_ ?_ | (with_reducible intro _ <;> (try (exfalso; omega))) | refine nnil ?_ | (refine nd ?_ ?_ <;> intro hg <;> first | exact xo hg | rw [hg]))
      all_goals first | exact nx_cut () trivial (sub_z) | (exfalso; simp_all; done) | trace_state
    exact vw_sub (sub_z) hend
  · have he : ∃ e, opsE f = ([], e) ∧ e ≠ 0 := by
      unfold opsE
      split
      · exact ⟨_, rfl, by decide⟩
      · split
        · rename_i h1 h2; exact absurd ⟨by omega, h2⟩ hok
        · exact ⟨_, rfl, by decide⟩
    obtain ⟨e, he, h0⟩ := he
    rw [he] at c1
    simp only at c1
    refine vp_of Tryz.func3 rfl Tryz.ntmps3 rfl Tryz.results3 fun B => ?_
    refine vw_cut (fun _ : Unit => ⟨[(0, .d (opsD x)), (1, .d (bsD behind)), (2, .d (i64D cut))], [], 0⟩) (fun _ => True) ?_ fun _ _ => ?_
    · repeat' (first | refine nz1 ?_ | refine nzo ?_ | refine nc ?_ ?_ | (with_reducible intro _ <;> (try (exfalso; omega))) | refine nnil ?_ | (refine nd ?_ ?_ <;> intro hg <;> first | exact xo hg | rw [hg]))
      exact nx_cut () trivial (sub_z)
    refine vw_cut (fun _ : Unit => ⟨[(0, .d (opsD x)), (1, .d (bsD behind)), (2, .d (i64D cut))], [], 0⟩) (fun _ => True) ?_ fun _ _ => ?_
    · repeat' (first | refine nz1 ?_ | (refine vid ?_; first | refine cz (hw) ?_) | refine nzo ?_ | refine nc ?_ ?_ | (with_reducible intro _ <;> (try (exfalso; omega))) | refine nnil ?_ | (refine nd ?_ ?_ <;> intro hg <;> first | exact xo hg | rw [hg]))
      exact nx_cut () trivial (sub_z)
    refine vw_cut (fun _ : Unit => ⟨[(7, .d (.sl false true (f.map oM))), (1, .d (bsD behind)), (2, .d (i64D cut))], [], 0⟩) (fun _ => True) ?_ fun _ _ => ?_
    · repeat' (first | refine nz1 ?_ | (refine vid ?_; first | refine cz (cf) ?_) | refine nzo ?_ | refine nc ?_ ?_ | (with_reducible intro _ <;> (try (exfalso; omega))) | refine nnil ?_ | (refine nd ?_ ?_ <;> intro hg <;> first | exact xo hg | rw [hg]))
      exact nx_cut () trivial (sub_z)
    refine vw_cut (fun _ : Unit => ⟨[(9, .d (i64D e)), (8, .d (bsD [])), (7, .d (.sl false true (f.map oM)))], [], 0⟩) (fun _ => True) ?_ fun _ _ => ?_
    · repeat' (first | refine nz1 ?_ | (refine vid ?_; first | refine cz (c1) ?_) | refine nzo ?_ | refine nc ?_ ?_ | (with_reducible intro _ <;> (try (exfalso; omega))) | refine nnil ?_ | (refine nd ?_ ?_ <;> intro hg <;> first | exact xo hg | rw [hg]))
      exact nx_cut () trivial (sub_z)
    refine vw_cut (α := Unit) (fun _ => ⟨[], [], 0⟩) (fun _ => False) ?_ fun _ h => h.elim
    repeat' (first | refine nz1 ?_ | refine nzo ?_ | refine nc ?_ ?_ | (with_reducible intro _ <;> (try (exfalso; omega))) | refine nnil ?_ | (refine nd ?_ ?_ <;> intro hg <;> first | exact xo hg | rw [hg]))
    all_goals first | rfl | (exfalso; simp_all; done) | trace_state
end Go.Proofs.YtnjaohdadaifhaaGreat

namespace Go.Proofs.YtnjaohdadaifhaaGreat
set_option maxRecDepth 20000
theorem cback_law (x : List Opp) (behind : List UInt8) (cut : Int) : VP Tryz.prog 3 [.sl false false (x.map oD), .sl false false (byD behind), i64D cut] (· = .ret (.lit (.bool true))) := back_v wakes_v x behind cut
end Go.Proofs.YtnjaohdadaifhaaGreat

namespace Go.Proofs.YtnjaohdadaifhaaGreat
set_option maxRecDepth 20000
open Go.ChangeShapes Go.WideShapes Go.ChangeAt Go.RowKit
set_option maxRecDepth 100000
set_option maxRecDepth 100000 in
theorem codecBack_lifted (os : Os) (started : os.Started) (H : Type) (enc : TypeId × Value → H) :
    ReturnsInHanded {} Tryz.checked os 3 .any (Rows.codecBackSpec.pre6 enc Tryz.prog Tryz.f3 Rows.codecBackRow.domain false) (Rows.codecBackSpec.post enc Tryz.prog Tryz.f3 false true false false) := by
  refine returnsInHanded_of_change (C := Tryz.checked) l_own started (by kernel_rfl) Tryz.func3
    (ChangeSpec.witness6 (enc := enc) (C := Tryz.checked) false ⟨#[], #[.slice none 0 0, .slice none 0 0, .int .i64 0], []⟩ 8 (by kernel_rfl) (by kernel_rfl) (by kernel_rfl) (by kernel_rfl)) ?_
  intro W base args ds gs before hval0 hW hcnd _
  have hval : ∀ (j : Nat) t v, Tryz.f3.params[j]? = some t → args[j]? = some v → Value.okWide Tryz.prog W .any base t v := hval0
  have hW' := hW
  obtain ⟨p, q, hA0, hV, rfl, hfz, hnd⟩ := hW
  have hA : DataW.TrodAll enc Tryz.prog W 0 (fun _ => true) true Tryz.f3.params.toList args.toList ds p := hA0
  rw [Tryz.params3] at hA hval
  obtain ⟨v0, vs0, e0, ds0, p0, q0, hargs, rfl, rfl, h0, r0⟩ := trodAll_cons hA
  obtain ⟨v1, vs1, e1, ds1, p1, q1, rfl, rfl, rfl, h1, r1⟩ := trodAll_cons r0
  obtain ⟨v2, vs2, e2, ds2, p2, q2, rfl, rfl, rfl, h2, r2⟩ := trodAll_cons r1
  obtain ⟨rfl, rfl, rfl⟩ := trodAll_nil r2
  obtain rfl : args = #[v0, v1, v2] := by cases args; simp_all
  obtain ⟨rfl, rfl⟩ := trodVars_none hV
  have k0 := h0
  have lt0 : ∀ x ∈ p0, x.block < W.heap.size := by obtain ⟨m, hm⟩ := k0; exact DataW.trod_lt m _ _ _ hm
  obtain ⟨a0, n0, c0, rfl⟩ := okWide_slice Tryz.underlying22 (hval 0 22 v0 rfl rfl)
  obtain ⟨y0, z0, d0⟩ := arg_cell opn_ops rfl h0
  have k1 := h1
  have lt1 : ∀ x ∈ p1, x.block < W.heap.size := by obtain ⟨m, hm⟩ := k1; exact DataW.trod_lt m _ _ _ hm
  obtain ⟨a1, n1, c1, rfl⟩ := okWide_slice Tryz.underlying23 (hval 1 23 v1 rfl rfl)
  obtain ⟨y1, z1, d1⟩ := arg_cell opn_by rfl h1
  have k2 := h2
  have lt2 : ∀ x ∈ p2, x.block < W.heap.size := by obtain ⟨m, hm⟩ := k2; exact DataW.trod_lt m _ _ _ hm
  obtain ⟨a2, rfl⟩ := okWide_int Tryz.underlying3 (hval 2 3 v2 rfl rfl)
  obtain ⟨y2, z2, d2⟩ := arg_cell opn_int rfl h2
  clear hA0 hval0
  refine ((cback_law y0 y1 y2).2 (fun _ => True) W _ (by simp only [dreps]; exact ⟨_, _, rfl, d0 _, ⟨_, _, rfl, d1 _, ⟨_, _, rfl, d2 _, rfl⟩⟩⟩)).mono fun e W' ⟨bel, r, he, hr⟩ => ?_
  subst he
  obtain ⟨u, rfl, hu⟩ := hr
  simp only [drep] at hu
  subst hu
  exact ⟨_, rfl, _, _, _, [], _, [], hW', trodAll_mk1 (shut_bool Tryz.underlying4 _), (trodAll_cons_mk (Below.trod l_laidOut (by kernel_rfl) (of_decide_eq_true (by kernel_rfl)) k0 bel lt0) (trodAll_cons_mk (Below.trod l_laidOut (by kernel_rfl) (of_decide_eq_true (by kernel_rfl)) k1 bel lt1) (trodAll_cons_mk (Below.trod l_laidOut (by kernel_rfl) (of_decide_eq_true (by kernel_rfl)) k2 bel lt2) trodAll_mk0))), rfl, bel.frame _, fun h => by cases h⟩
theorem codecBack_place : (Rows.codecBackRow.inPlace == Tryz.prog.inPlace 3) = true := by kernel_rfl
theorem codecBack_unf : (Rows.codecBackRow.unfollowed == Tryz.prog.unfollowed 3) = true := by kernel_rfl
theorem codecBack_rec : (Rows.codecBackRow.recurses == Tryz.prog.recurses 3) = true := by
  have h : Tryz.prog.unfollowed 3 = true := (beq_iff_eq.1 codecBack_unf).symm
  unfold Program.recurses; rw [h]; rfl
theorem codecBack_named : (Rows.codecBackRow.named == Tryz.prog.varsNamed 3) = true := by kernel_rfl
theorem codecBack_keys : (Rows.codecBackRow.plainKeys == Tryz.prog.plainKeys) = true := by rw [l_keys]; rfl
theorem codecBack_lf : (Rows.codecBackRow.lifted == Tryz.prog.liftsFinal) = true := l_lifted
theorem codecBack_mk : (Tryz.prog.make == some Rows.codecBackRow.make) = true := l_make
theorem codecBack_joined : joinedFacts Tryz.prog 3 Tryz.f3 Rows.codecBackSpec Rows.codecBackRow = true := by
  unfold joinedFacts
  simp only [Bool.and_eq_true]
  repeat' refine And.intro ?_ ?_
  all_goals first | with_reducible exact l_laidOut | with_reducible exact l_mapsRowed | with_reducible exact l_heard | with_reducible exact l_enter | with_reducible exact codecBack_place | with_reducible exact codecBack_unf | with_reducible exact codecBack_rec | with_reducible exact codecBack_named | with_reducible exact codecBack_keys | with_reducible exact codecBack_lf | with_reducible exact codecBack_mk | kernel_rfl
theorem codecBack_over : Rows.codecBackRow.holds Tryz.pinned (OpenSpec.ofChange Rows.codecBackSpec) :=
  OpenClaim.holds_of_wide 3 Tryz.f3 rfl rfl rfl rfl rfl rfl rfl ⟨rfl, rfl, rfl, rfl, rfl⟩ rfl rfl rfl rfl rfl (by kernel_rfl) Tryz.func3 codecBack_joined
    (of_decide_eq_true (by kernel_rfl)) (by unfold Func.isWrapper; first | (rw [if_pos (by decide +kernel)]; kernel_rfl) | (rw [if_neg (by decide +kernel)]; exact ⟨rfl, rfl⟩))
    (fun os started H enc _ => codecBack_lifted os started H enc)
theorem codecBack_holds : Rows.CodecBackSaid := codecBack_over
#print axioms codecBack_holds
end Go.Proofs.YtnjaohdadaifhaaGreat
