/- CodecLays: for every input the law returns true, and turns nothing that was there; no condition. -/
import Derived.Test.YtnjaohdadaifhaaGreatRows
import Derived.Test.YtnjaohdadaifhaaGreatPk41
import Derived.Test.YtnjaohdadaifhaaGreatPk28
import Derived.Test.YtnjaohdadaifhaaGreatPk34
namespace Go.Proofs.YtnjaohdadaifhaaGreat
set_option maxRecDepth 20000
open Go.RowKit
set_option maxRecDepth 10000
set_option maxHeartbeats 4000000
theorem eqop_f (F : Nat) (l m : List Opp) (cF : ∀ x z : Opp, VP Tryz.prog F [.agg (oD x), .agg (oD z)] (· = .ret (.lit (.bool (decide (x = z)))))) :
    VP Tryz.prog 11 [opsD l, opsD m, .fn F [] []] (· = .ret (.lit (.bool (decide (l = m))))) := by
  rw [← eqF_eq]
  refine vp_of Tryz.func11 rfl Tryz.ntmps11 rfl Tryz.results11 fun B => ?_
  have hl := opsD_len l
  have hm := opsD_len m
  generalize hp : (fun x y : Opp => decide (x = y)) = p
  repeat' (first | refine nz1 ?_ | refine nzo ?_ | refine nc ?_ ?_ | (with_reducible intro _ <;> (try (exfalso; omega))) | refine nnil ?_ | (refine nd ?_ ?_ <;> intro hg <;> first | exact xo hg | rw [hg]))
  · rw [eqF_len (by omega)]
  · refine vw_each 15 l oD (fun (i : Nat) (_ : Unit) => ⟨[(17, I .i64 i), (16, I .i64 (l.map oD).length), (15, .d (opsD l)), (1, .d (opsD m)), (2, .d (.fn F [] []))], [], 0⟩) (fun i _ => eqF p l m = eqF p (l.drop i) (m.drop i)) () (sub_z) rfl (fun i y x hT hi hx hx' hlt hlm hlen hdr => ?_) (fun y hT hlt hlm => ?_)
    · have hlb : i < m.length := by omega
      have hb' : m[i]? = some m[i] := List.getElem?_eq_getElem hlb
      have hbd := List.drop_eq_getElem_cons hlb
      generalize m[i] = z at *
      have hbx : (m.map oD)[((i : Nat) : Int).toNat]? = some (oD z) := by simp [hb']
      rw [hdr, hbd] at hT
      have c := cF x z
      rw [show decide (x = z) = p x z by rw [← hp]] at c
      simp only [oD, oDf] at c hx' hbx ⊢
      repeat' (first | refine nz1 ?_ | (refine vid ?_; first | refine cz (c) ?_) | refine nzo ?_ | refine nc ?_ ?_ | (with_reducible intro _ <;> (try (exfalso; omega))) | refine nnil ?_ | (refine nd ?_ ?_ <;> intro hg <;> first | exact xo hg | rw [hg]))
      · rw [hT]; simp_all [eqF]
      · refine nx_each () hi ?_ (sub_z); rw [hT]; simp_all [eqF]
    · repeat' (first | refine nz1 ?_ | refine nzo ?_ | refine nc ?_ ?_ | (with_reducible intro _ <;> (try (exfalso; omega))) | refine nnil ?_ | (refine nd ?_ ?_ <;> intro hg <;> first | exact xo hg | rw [hg]))
      rw [hT, List.drop_of_length_le (Nat.le_refl _), List.drop_of_length_le (by omega)]; rfl
theorem eqop_v (l m : List Opp) : VP Tryz.prog 11 [opsD l, opsD m, .fn 29 [] []] (· = .ret (.lit (.bool (decide (l = m))))) := eqop_f _ l m rsame12_v
end Go.Proofs.YtnjaohdadaifhaaGreat

namespace Go.Proofs.YtnjaohdadaifhaaGreat
set_option maxRecDepth 20000
open Go.RowKit
set_option maxRecDepth 10000
set_option maxHeartbeats 4000000
noncomputable abbrev laysC : Code := sndC 11 (bodyC Tryz.f5)
theorem lays_c (B : Nat) (v : Vc) (x : List Opp) : VW Tryz.prog ⟨137, none, B, 0, some B, []⟩ laysC ⟨[(18, .d (.lit (.bool ((fewO x).all opB)))), (17, .d (.sl false true ((fewO x).map oM))), (2, .d (opsD x)), (4, .ptr 0 0)], [.c 0 0 ((vcD v).map V.d)], 1⟩ (retQ Tryz.prog [.tmp 6] (· = .ret (.lit (.bool true)))) := by
  have cf := few19_v x
  have h66 := fewO_64 x
  have hpx := fewO_px x
  generalize fewO x = f at *
  have c1 := opsC_v f hpx
  have hml : (f.map oM).length = f.length := List.length_map _
  have ce0 := equal_v [] []
  rw [decide_eq_true rfl] at ce0
  have cq := eqop_v f f
  rw [decide_eq_true rfl] at cq
  refine vw_seq ?_
  by_cases h64 : 64 < f.length
  · simp only [opsE, if_pos h64, bsD, show byD ([] : List UInt8) = [] from rfl] at c1 ce0
    generalize f.all opB = al at *
    repeat' (first | refine nz1 ?_ | (refine vid ?_; first | refine cz (cf) ?_ | refine cz (c1) ?_ | refine cz (ce0) ?_ | refine cz (cq) ?_) | refine nzo ?_ | refine nc ?_ ?_ | (with_reducible intro _ <;> (try (exfalso; omega))) | refine nnil ?_ | (refine nd ?_ ?_ <;> intro hg <;> first | exact xo hg | rw [hg]))
    all_goals first | rfl | (exfalso; simp_all; omega) | trace_state
  · cases hal : f.all opB with
    | false =>
      simp only [opsE, if_neg h64, hal, Bool.false_eq_true, if_false, bsD, show byD ([] : List UInt8) = [] from rfl] at c1 ce0
      repeat' (first | refine nz1 ?_ | (refine vid ?_; first | refine cz (cf) ?_ | refine cz (c1) ?_ | refine cz (ce0) ?_ | refine cz (cq) ?_) | refine nzo ?_ | refine nc ?_ ?_ | (with_reducible intro _ <;> (try (exfalso; omega))) | refine nnil ?_ | (refine nd ?_ ?_ <;> intro hg <;> first | exact xo hg | rw [hg]))
      all_goals first | rfl | (exfalso; simp_all; omega) | trace_state
    | true =>
      simp only [opsE, if_neg h64, hal, if_true] at c1
      have c2 := rowR_v f (fun o ho => by simp only [List.all_eq_true] at hal; exact hal o ho) (by omega)
      have ce := equal_v (opsBy f) (opsBy f)
      rw [decide_eq_true rfl] at ce
      generalize opsBy f = L at *
      repeat' (first | refine nz1 ?_ | (refine vid ?_; first | refine cz (cf) ?_ | refine cz (c1) ?_ | refine cz (c2) ?_ | refine cz (ce) ?_ | refine cz (cq) ?_) | refine nzo ?_ | refine nc ?_ ?_ | (with_reducible intro _ <;> (try (exfalso; omega))) | refine nnil ?_ | (refine nd ?_ ?_ <;> intro hg <;> first | exact xo hg | rw [hg]))
      all_goals first | rfl | (exfalso; simp_all; omega) | trace_state
end Go.Proofs.YtnjaohdadaifhaaGreat

namespace Go.Proofs.YtnjaohdadaifhaaGreat
set_option maxRecDepth 20000
open Go.RowKit
set_option maxRecDepth 10000
set_option maxHeartbeats 1000000
noncomputable abbrev laysB : Code := sndC 3 (bodyC Tryz.f5)
def blkC : Code → Code
  | .block _ c => c
  | c => c
noncomputable abbrev loopC : Code := blkC (sndC 1 (fstC (sndC 10 (bodyC Tryz.f5))))
theorem lays_k (B : Nat) (v : Vc) (x : List Opp) : VW Tryz.prog ⟨137, none, B, 0, some B, []⟩ loopC ⟨[(79, I .i64 0), (78, I .i64 ((fewO x).map oM).length), (77, .d (.sl false true ((fewO x).map oM))), (18, .d (.lit (.bool true))), (17, .d (.sl false true ((fewO x).map oM))), (2, .d (opsD x)), (4, .ptr 0 0)], [.c 0 0 ((vcD v).map V.d)], 1⟩ (blockV 2 (thenV Tryz.prog ⟨137, none, B, 0, some B, []⟩ laysC (retQ Tryz.prog [.tmp 6] (· = .ret (.lit (.bool true)))))) := by
  have hend := lays_c B v x
  have h66 := fewO_64 x
  have hpx := fewO_px x
  generalize fewO x = f at *
  have hml : (f.map oM).length = f.length := List.length_map _
  have ce0 := equal_v [] []
  rw [decide_eq_true rfl] at ce0
  simp only [bsD, show byD ([] : List UInt8) = [] from rfl] at ce0
  refine vw_join (fun _ : Unit => ⟨[(18, .d (.lit (.bool (f.all opB)))), (17, .d (.sl false true (f.map oM))), (2, .d (opsD x)), (4, .ptr 0 0)], [.c 0 0 ((vcD v).map V.d)], 1⟩) (fun _ => True) ?_ fun _ _ => hend
  clear hend
  change VW Tryz.prog _ (Code.loop _) _ _
  refine vw_each 77 f oM (fun (i : Nat) (_ : Unit) => ⟨[(79, I .i64 i), (78, I .i64 (f.map oM).length), (77, .d (.sl false true (f.map oM))), (18, .d (.lit (.bool ((f.take i).all opB)))), (17, .d (.sl false true (f.map oM))), (2, .d (opsD x)), (4, .ptr 0 0)], [.c 0 0 ((vcD v).map V.d)], 1⟩) (fun i _ => True) () (sub_z) trivial (fun i y x hT hi hx hx' hlt hlm hlen hdr => ?_) (fun y hT hlt hlm => ?_)
  · have htk : (f.take (i + 1)).all opB = ((f.take i).all opB && opB x) := by rw [List.take_add_one, hx]; simp
    have hxm := hpx x (List.mem_of_getElem? hx)
    have d1 := opC_v x hxm
    have d2 := rright12_v x hxm
    have d3 := size_v x hxm
    have d4 := opR_v x
    have de := equal_v (opBy x) (opBy x)
    rw [decide_eq_true rfl] at de
    clear hpx
    generalize (f.take i).all opB = al at *
    cases hB : opB x with
    | true =>
      rw [hB] at d1 d2 d3 htk
      replace d4 := d4 hB
      rw [Bool.and_true] at htk
      simp only [if_true] at d1 d3
      have hbl := byD_len (opBy x)
      generalize opBy x = L at *
      rw [← hbl] at d3
      simp only [oD, oM, oDf] at d1 d2 d3 d4 hx'
      repeat' (first | refine nz1 ?_ | (refine vid ?_; first | refine cz (d1) ?_ | refine cz (d2) ?_ | refine cz (d3) ?_ | refine cz (d4) ?_ | refine cz (de) ?_) | refine nzo ?_ | refine nc ?_ ?_ | (with_reducible intro _ <;> (try (exfalso; omega))) | refine nnil ?_ | (refine nd ?_ ?_ <;> intro hg <;> first | exact xo hg | rw [hg]))
      refine nx_each () hi trivial ?_
      simp only [htk]
      exact (sub_z)
    | false =>
      rw [hB] at d1 d2 d3 htk
      rw [Bool.and_false] at htk
      simp only [if_false, Bool.false_eq_true, bsD, show byD ([] : List UInt8) = [] from rfl, List.length_nil] at d1 d3
      simp only [oD, oM, oDf] at d1 d2 d3 hx'
      repeat' (first | refine nz1 ?_ | (refine vid ?_; first | refine cz (d1) ?_ | refine cz (d2) ?_ | refine cz (d3) ?_ | refine cz (ce0) ?_) | refine nzo ?_ | refine nc ?_ ?_ | (with_reducible intro _ <;> (try (exfalso; omega))) | refine nnil ?_ | (refine nd ?_ ?_ <;> intro hg <;> first | exact xo hg | rw [hg]))
      refine nx_each () hi trivial ?_
      simp only [htk]
      exact (sub_z)
  · repeat' (first | refine nz1 ?_ | refine nzo ?_ | refine nc ?_ ?_ | (with_reducible intro _ <;> (try (exfalso; omega))) | refine nnil ?_ | (refine nd ?_ ?_ <;> intro hg <;> first | exact xo hg | rw [hg]))
    rw [List.take_of_length_le (Nat.le_refl _)]
    exact nx_cut () trivial (sub_z)
theorem lays_b (B : Nat) (v : Vc) (hv : v.in) (x : List Opp) : VW Tryz.prog ⟨137, none, B, 0, some B, []⟩ laysB ⟨[(2, .d (opsD x)), (4, .ptr 0 0)], [.c 0 0 ((vcD v).map V.d)], 1⟩ (retQ Tryz.prog [.tmp 6] (· = .ret (.lit (.bool true)))) := by
  have key := lays_k B v x
  have cf := few19_v x
  generalize fewO x = f at *
  have c1 := vectorC_v v hv
  have c2 := right13_v v
  have c3 := vector19_v v hv
  have ce0 := equal_v [] []
  rw [decide_eq_true rfl] at ce0
  simp only [bsD, show byD ([] : List UInt8) = [] from rfl] at ce0
  have ce := equal_v (vcBy v) (vcBy v)
  rw [decide_eq_true rfl] at ce
  refine vw_seq ?_
  cases hB : vcB v with
  | true =>
    rw [hB] at c1 c2
    simp only [if_true] at c1
    generalize vcBy v = L at *
    repeat' (first | refine nz1 ?_ | (refine vid ?_; first | refine cz (c1) ?_ | refine cz (c2) ?_ | refine cz (c3) ?_ | refine cz (ce) ?_ | refine cz (cf) ?_) | refine nzo ?_ | refine nc ?_ ?_ | (with_reducible intro _ <;> (try (exfalso; omega))) | refine nnil ?_ | (refine nd ?_ ?_ <;> intro hg <;> first | exact xo hg | rw [hg]))
    exact vw_sub (sub_z) key
  | false =>
    rw [hB] at c1 c2
    simp only [if_false, Bool.false_eq_true, show byD ([] : List UInt8) = [] from rfl] at c1
    repeat' (first | refine nz1 ?_ | (refine vid ?_; first | refine cz (c1) ?_ | refine cz (c2) ?_ | refine cz (ce0) ?_ | refine cz (cf) ?_) | refine nzo ?_ | refine nc ?_ ?_ | (with_reducible intro _ <;> (try (exfalso; omega))) | refine nnil ?_ | (refine nd ?_ ?_ <;> intro hg <;> first | exact xo hg | rw [hg]))
    exact vw_sub (sub_z) key
end Go.Proofs.YtnjaohdadaifhaaGreat

namespace Go.Proofs.YtnjaohdadaifhaaGreat
set_option maxRecDepth 20000
open Go.RowKit
set_option maxRecDepth 10000
set_option maxHeartbeats 4000000
theorem lays_v (hw : VP Tryz.prog 6 [] (· = .ret (.lit (.bool true)))) (l : List Idd) (v : Vc) (hv : v.in) (x : List Opp) : VP Tryz.prog 5 [.sl false false (l.map idD), .agg (vcD v), opsD x] (· = .ret (.lit (.bool true))) := by
  have hend := fun B => lays_b B v hv x
  have ce0 := equal_v [] []
  rw [decide_eq_true rfl] at ce0
  simp only [bsD, show byD ([] : List UInt8) = [] from rfl] at ce0
  refine vp_of Tryz.func5 rfl Tryz.ntmps5 rfl Tryz.results5 fun B => ?_
  repeat' (first | refine nz1 ?_ | (refine vid ?_; first | refine cz (hw) ?_) | refine nzo ?_ | refine nc ?_ ?_ | (with_reducible intro _ <;> (try (exfalso; omega))) | refine nnil ?_ | (refine nd ?_ ?_ <;> intro hg <;> first | exact xo hg | rw [hg]))
  have hlm : (l.map idD).length = l.length := List.length_map _
  refine vw_join (fun _ : Unit => ⟨[(2, .d (opsD x)), (4, .ptr 0 0)], [.c 0 0 ((vcD v).map V.d)], 1⟩) (fun _ => True) ?_ fun _ _ => hend B
  refine vw_each 29 l idD (fun (i : Nat) (_ : Unit) => ⟨[(31, I .i64 i), (30, I .i64 (l.map idD).length), (29, .d (.sl false false (l.map idD))), (2, .d (opsD x)), (4, .ptr 0 0)], [.c 0 0 ((vcD v).map V.d)], 1⟩) (fun i _ => True) () (sub_z) trivial (fun i y x hT hi hx hx' hlt hlm hlen hdr => ?_) (fun y hT hlt hlm => ?_)
  · have c1 := idC_v x
    have c2 := rright11_v x
    have c3 := idR_v x
    have ce := equal_v (idBy x) (idBy x)
    rw [decide_eq_true rfl] at ce
    cases hB : idB x with
    | true =>
      rw [hB] at c1 c2
      replace c3 := c3 hB
      simp only [if_true] at c1
      generalize idBy x = L at *
      simp only [idD] at c1 c2 c3 hx'
      repeat' (first | refine nz1 ?_ | (refine vid ?_; first | refine cz (c1) ?_ | refine cz (c2) ?_ | refine cz (c3) ?_ | refine cz (ce) ?_) | refine nzo ?_ | refine nc ?_ ?_ | (with_reducible intro _ <;> (try (exfalso; omega))) | refine nnil ?_ | (refine nd ?_ ?_ <;> intro hg <;> first | exact xo hg | rw [hg]))
      all_goals first | with_reducible refine nx_cut () trivial ?_ | with_reducible refine nx_each () hi trivial ?_ | trace_state
      all_goals first | exact (sub_z) | trace_state
    | false =>
      rw [hB] at c1 c2
      simp only [if_false, Bool.false_eq_true, show byD ([] : List UInt8) = [] from rfl] at c1
      simp only [idD] at c1 c2 hx'
      repeat' (first | refine nz1 ?_ | (refine vid ?_; first | refine cz (c1) ?_ | refine cz (c2) ?_ | refine cz (ce0) ?_) | refine nzo ?_ | refine nc ?_ ?_ | (with_reducible intro _ <;> (try (exfalso; omega))) | refine nnil ?_ | (refine nd ?_ ?_ <;> intro hg <;> first | exact xo hg | rw [hg]))
      all_goals first | with_reducible refine nx_cut () trivial ?_ | with_reducible refine nx_each () hi trivial ?_ | trace_state
      all_goals first | exact (sub_z) | trace_state
  · repeat' (first | refine nz1 ?_ | refine nzo ?_ | refine nc ?_ ?_ | (with_reducible intro _ <;> (try (exfalso; omega))) | refine nnil ?_ | (refine nd ?_ ?_ <;> intro hg <;> first | exact xo hg | rw [hg]))
    exact nx_cut () trivial (sub_z)
end Go.Proofs.YtnjaohdadaifhaaGreat

namespace Go.Proofs.YtnjaohdadaifhaaGreat
set_option maxRecDepth 20000
theorem lays_law (l : List Idd) (v : Vc) (hv : v.in) (x : List Opp) : VP Tryz.prog 5 [.sl false false (l.map idD), .agg (vcD v), .sl false false (x.map oD)] (· = .ret (.lit (.bool true))) := lays_v wakes_v l v hv x
end Go.Proofs.YtnjaohdadaifhaaGreat

namespace Go.Proofs.YtnjaohdadaifhaaGreat
set_option maxRecDepth 20000
open Go.ChangeShapes Go.WideShapes Go.ChangeAt Go.RowKit
set_option maxRecDepth 100000
set_option maxRecDepth 100000 in
theorem codecLays_lifted (os : Os) (started : os.Started) (H : Type) (enc : TypeId × Value → H) :
    ReturnsInHanded {} Tryz.checked os 5 .any (Rows.codecLaysSpec.pre6 enc Tryz.prog Tryz.f5 Rows.codecLaysRow.domain false) (Rows.codecLaysSpec.post enc Tryz.prog Tryz.f5 false true false false) := by
  refine returnsInHanded_of_change (C := Tryz.checked) l_own started (by kernel_rfl) Tryz.func5
    (ChangeSpec.witness6 (enc := enc) (C := Tryz.checked) false ⟨#[], #[.slice none 0 0, .agg #[.int .u64 0, .int .u64 0, .int .u64 0, .int .u64 0, .int .u64 0, .int .u64 0, .int .u64 0, .int .u64 0, .int .u64 0], .slice none 0 0], []⟩ 8 (by kernel_rfl) (by kernel_rfl) (by kernel_rfl) (by kernel_rfl)) ?_
  intro W base args ds gs before hval0 hW hcnd _
  have hval : ∀ (j : Nat) t v, Tryz.f5.params[j]? = some t → args[j]? = some v → Value.okWide Tryz.prog W .any base t v := hval0
  have hW' := hW
  obtain ⟨p, q, hA0, hV, rfl, hfz, hnd⟩ := hW
  have hA : DataW.TrodAll enc Tryz.prog W 0 (fun _ => true) true Tryz.f5.params.toList args.toList ds p := hA0
  rw [Tryz.params5] at hA hval
  obtain ⟨v0, vs0, e0, ds0, p0, q0, hargs, rfl, rfl, h0, r0⟩ := trodAll_cons hA
  obtain ⟨v1, vs1, e1, ds1, p1, q1, rfl, rfl, rfl, h1, r1⟩ := trodAll_cons r0
  obtain ⟨v2, vs2, e2, ds2, p2, q2, rfl, rfl, rfl, h2, r2⟩ := trodAll_cons r1
  obtain ⟨rfl, rfl, rfl⟩ := trodAll_nil r2
  obtain rfl : args = #[v0, v1, v2] := by cases args; simp_all
  obtain ⟨rfl, rfl⟩ := trodVars_none hV
  have k0 := h0
  have lt0 : ∀ x ∈ p0, x.block < W.heap.size := by obtain ⟨m, hm⟩ := k0; exact DataW.trod_lt m _ _ _ hm
  obtain ⟨a0, n0, c0, rfl⟩ := okWide_slice Tryz.underlying61 (hval 0 61 v0 rfl rfl)
  obtain ⟨y0, z0, d0⟩ := arg_cell opn_ids rfl h0
  have k1 := h1
  have lt1 : ∀ x ∈ p1, x.block < W.heap.size := by obtain ⟨m, hm⟩ := k1; exact DataW.trod_lt m _ _ _ hm
  obtain ⟨y1, z1, d1⟩ := arg_array opn_vc Tryz.underlying55 (hval 1 55 v1 rfl rfl) h1
  have k2 := h2
  have lt2 : ∀ x ∈ p2, x.block < W.heap.size := by obtain ⟨m, hm⟩ := k2; exact DataW.trod_lt m _ _ _ hm
  obtain ⟨a2, n2, c2, rfl⟩ := okWide_slice Tryz.underlying22 (hval 2 22 v2 rfl rfl)
  obtain ⟨y2, z2, d2⟩ := arg_cell opn_ops rfl h2
  clear hA0 hval0
  refine ((lays_law y0 y1 z1 y2).2 (fun _ => True) W _ (by simp only [dreps]; exact ⟨_, _, rfl, d0 _, ⟨_, _, rfl, d1 _, ⟨_, _, rfl, d2 _, rfl⟩⟩⟩)).mono fun e W' ⟨bel, r, he, hr⟩ => ?_
  subst he
  obtain ⟨u, rfl, hu⟩ := hr
  simp only [drep] at hu
  subst hu
  exact ⟨_, rfl, _, _, _, [], _, [], hW', trodAll_mk1 (shut_bool Tryz.underlying4 _), (trodAll_cons_mk (Below.trod l_laidOut (by kernel_rfl) (of_decide_eq_true (by kernel_rfl)) k0 bel lt0) (trodAll_cons_mk (Below.trod l_laidOut (by kernel_rfl) (of_decide_eq_true (by kernel_rfl)) k1 bel lt1) (trodAll_cons_mk (Below.trod l_laidOut (by kernel_rfl) (of_decide_eq_true (by kernel_rfl)) k2 bel lt2) trodAll_mk0))), rfl, bel.frame _, fun h => by cases h⟩
theorem codecLays_place : (Rows.codecLaysRow.inPlace == Tryz.prog.inPlace 5) = true := by kernel_rfl
theorem codecLays_unf : (Rows.codecLaysRow.unfollowed == Tryz.prog.unfollowed 5) = true := by kernel_rfl
theorem codecLays_rec : (Rows.codecLaysRow.recurses == Tryz.prog.recurses 5) = true := by
  have h : Tryz.prog.unfollowed 5 = true := (beq_iff_eq.1 codecLays_unf).symm
  unfold Program.recurses; rw [h]; rfl
theorem codecLays_named : (Rows.codecLaysRow.named == Tryz.prog.varsNamed 5) = true := by kernel_rfl
theorem codecLays_keys : (Rows.codecLaysRow.plainKeys == Tryz.prog.plainKeys) = true := by rw [l_keys]; rfl
theorem codecLays_lf : (Rows.codecLaysRow.lifted == Tryz.prog.liftsFinal) = true := l_lifted
theorem codecLays_mk : (Tryz.prog.make == some Rows.codecLaysRow.make) = true := l_make
theorem codecLays_joined : joinedFacts Tryz.prog 5 Tryz.f5 Rows.codecLaysSpec Rows.codecLaysRow = true := by
  unfold joinedFacts
  simp only [Bool.and_eq_true]
  repeat' refine And.intro ?_ ?_
  all_goals first | with_reducible exact l_laidOut | with_reducible exact l_mapsRowed | with_reducible exact l_heard | with_reducible exact l_enter | with_reducible exact codecLays_place | with_reducible exact codecLays_unf | with_reducible exact codecLays_rec | with_reducible exact codecLays_named | with_reducible exact codecLays_keys | with_reducible exact codecLays_lf | with_reducible exact codecLays_mk | kernel_rfl
theorem codecLays_over : Rows.codecLaysRow.holds Tryz.pinned (OpenSpec.ofChange Rows.codecLaysSpec) :=
  OpenClaim.holds_of_wide 5 Tryz.f5 rfl rfl rfl rfl rfl rfl rfl ⟨rfl, rfl, rfl, rfl, rfl⟩ rfl rfl rfl rfl rfl (by kernel_rfl) Tryz.func5 codecLays_joined
    (of_decide_eq_true (by kernel_rfl)) (by unfold Func.isWrapper; first | (rw [if_pos (by decide +kernel)]; kernel_rfl) | (rw [if_neg (by decide +kernel)]; exact ⟨rfl, rfl⟩))
    (fun os started H enc _ => codecLays_lifted os started H enc)
theorem codecLays_holds : Rows.CodecLaysSaid := codecLays_over
#print axioms codecLays_holds
end Go.Proofs.YtnjaohdadaifhaaGreat
