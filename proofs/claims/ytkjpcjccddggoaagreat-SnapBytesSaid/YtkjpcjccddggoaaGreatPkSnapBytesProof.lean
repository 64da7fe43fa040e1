/- SnapBytes: for every input the law returns true, and turns nothing that was there; no condition. -/
import Derived.Test.YtkjpcjccddggoaaGreatRows
import Derived.Test.YtkjpcjccddggoaaGreatPk44
import Derived.Test.YtkjpcjccddggoaaGreatPk52
namespace Go.Proofs.YtkjpcjccddggoaaGreat
open Go.RowKit
set_option maxRecDepth 10000
set_option maxHeartbeats 4000000
def Sn.own (x : Sn) : Sn := { x with c := { x.c with L := x.c.L.take 17 } }
theorem some_own {x : Sn} (h : All64 x.c.L) : All64 x.own.c.L ∧ x.own.c.L.length ≤ 17 := ⟨fun T hT => h T (List.mem_of_mem_take hT), by simp [Sn.own]; omega⟩
theorem lsome_v (x : Sn) (h : All64 x.c.L) : VP Tryz.prog 16 [.agg (snD x)] (· = .ret (.agg (snN x.own))) := by
  have hc : cutL none (some (min ((x.c.L.map tlD).length : Int) 17)) (x.c.L.map tlD) = (x.c.L.take 17).map tlD := cutM tlD x.c.L 17
  obtain ⟨h1, h2⟩ := some_own h
  have cc := cloneT_v (x.c.L.take 17) h1 (by simp; omega)
  have hz : ∀ T ∈ x.c.L.map tlD, T.length = 256 := by
    intro T hT
    obtain ⟨S, hS, rfl⟩ := List.mem_map.1 hT
    exact tlD_len (h S hS)
  simp only [Sn.own, snN, snD]
  refine vp_of Tryz.func16 rfl Tryz.ntmps16 rfl Tryz.results16 fun B => ?_
  repeat' (first | rw [hc] | fail | refine nzl ?_ | refine nzd ?_ | ((first | with_reducible refine vl_id ?_ | with_reducible refine vd_id ?_); first | refine cz (cc) ?_) | refine nzo ?_ | refine nc ?_ ?_ | (with_reducible intro _ <;> (try (exfalso; omega))) | refine vs_eqnil ?_ | refine vs_nenil ?_ | (refine nd ?_ ?_ <;> intro hg <;> (first | (exfalso; (try simp only [decide_eq_true_eq, decide_eq_false_iff_not] at hg); omega) | rw [hg])) | fail)
  all_goals first | rfl | trace_state
end Go.Proofs.YtkjpcjccddggoaaGreat

namespace Go.Proofs.YtkjpcjccddggoaaGreat
open Go.RowKit
set_option maxRecDepth 10000
set_option maxHeartbeats 4000000
theorem sbytes_law (x y : Sn) (z : List UInt8) (hx : All64 x.c.L) (hy : All64 y.c.L) : VP Tryz.prog 4 [.agg (snD x), .agg (snD y), bsD z] (· = .ret (.lit (.bool true))) := by
  have cx := lsome_v x hx
  have cy := lsome_v y hy
  obtain ⟨ha, la⟩ := some_own hx
  obtain ⟨hb, lb⟩ := some_own hy
  generalize x.own = a at *
  generalize y.own = b at *
  have c1 := snright_v a
  have c2 := sncheck_v a ha
  have c3 := snsame_v a b ha hb
  have c4 := rsnsame_v a b ha hb (by omega)
  have c5 := snsame_v a a ha ha
  have c6 := rsnsame_v a a ha ha (by omega)
  have c7 := snbytes_v a ha (by omega)
  have hzc := cutT z 6000
  rw [show ((6000 : Nat) : Int) = 6000 from rfl] at hzc
  have hzl := byD_len z
  have hcl : (z.take 6000).length ≤ 6000 := by simp; omega
  have c8 := clone_v (z.take 6000) (by omega)
  have c9 := snread_v (z.take 6000) (by omega)
  have c10 := rsnread_v (z.take 6000) (by omega)
  have hcz : cutL none (some ((byD (z.take 6000)).length : Int)) (byD z) = byD (z.take 6000) := by
    rw [byD_len, cutN]; congr 1; rw [List.take_eq_take_iff]; simp
  have hle : (z.take 6000).length ≤ z.length := by simp; omega
  have c11 := equal_v (z.take 6000) (z.take 6000)
  rw [decide_eq_true rfl] at c5 c6 c11
  have h64 : ∀ s, snRd (z.take 6000) = some s → snRaw (z.take 6000) = some s ∧ All64 s.c.L ∧ s.c.L.length ≤ 16 := by
    intro s hs
    have hr : snRaw (z.take 6000) = some s := by
      unfold snRd at hs
      cases hq : snRaw (z.take 6000) with
      | none => rw [hq] at hs; cases hs
      | some t =>
        rw [hq] at hs
        simp only at hs
        split at hs
        · exact hs
        · cases hs
    exact ⟨hr, snRaw_64 hr⟩
  generalize snRd (z.take 6000) = o at *
  generalize snRaw (z.take 6000) = r at *
  generalize z.take 6000 = c at *
  have hcl2 := byD_len c
  generalize decide (a = b) = bq at *
  simp only [snA] at c9 c10
  cases hr : snB a with
  | false =>
    rw [hr] at c1 c2 c7
    have c13 := equal_v [] []
    have c14 := c13
    rw [decide_eq_true rfl] at c13 c14
    simp only [Bool.false_eq_true, if_false, bsD, show byD ([] : List UInt8) = [] from rfl] at c2 c7 c13 c14
    cases o with
    | none =>
      have c12 := rsnsame_v .zero .zero (by intro T hT; cases hT) (by intro T hT; cases hT) (by decide)
      rw [decide_eq_true rfl] at c12
      clear h64 hr
      simp only [Option.getD_none, Option.isSome_none, Bool.false_eq_true, if_false] at c9 c10
      rw [show snN .zero = [i64D 0, i64D 0, .sl false true [], u64D 0, u64D 0, u64D 0, u64D 0, u64D 0, u64D 0, u64D 0, u64D 0, u64D 0, u64D 0, u64D 0] from rfl] at c9
      rw [show snD .zero = [i64D 0, i64D 0, .sl false false [], u64D 0, u64D 0, u64D 0, u64D 0, u64D 0, u64D 0, u64D 0, u64D 0, u64D 0, u64D 0, u64D 0] from rfl] at c12
      generalize r.getD .zero = q at *
      simp only [snD, snN] at *
      refine vp_of Tryz.func4 rfl Tryz.ntmps4 rfl Tryz.results4 fun B => ?_
      repeat' (first | rw [hzc] | rw [hcz] | fail | refine nzl ?_ | refine nzd ?_ | ((first | with_reducible refine vl_id ?_ | with_reducible refine vd_id ?_); first | refine cz (wakes_v) ?_ | refine cz (cx) ?_ | refine cz (cy) ?_ | refine cz (c1) ?_ | refine cz (c2) ?_ | refine cz (c3) ?_ | refine cz (c4) ?_ | refine cz (c5) ?_ | refine cz (c6) ?_ | refine cz (c7) ?_ | refine cz (c8) ?_ | refine cz (c9) ?_ | refine cz (c10) ?_ | refine cz (c11) ?_ | refine cz (c12) ?_ | refine cz (c13) ?_ | refine cz (c14) ?_) | refine nzo ?_ | refine nc ?_ ?_ | (with_reducible intro _ <;> (try (exfalso; omega))) | refine vs_eqnil ?_ | refine vs_nenil ?_ | (refine nd ?_ ?_ <;> intro hg <;> (first | (exfalso; (try simp only [decide_eq_true_eq, decide_eq_false_iff_not] at hg); omega) | rw [hg])) | fail)
      all_goals first | rfl | exact absurd hg (by simp) | (rename_i hz; exact absurd rfl hz) | (exfalso; omega) | (rename_i hz; exact absurd hz (by decide)) | trace_state
    | some s =>
      obtain ⟨rfl, hs, ls⟩ := h64 s rfl
      have c12 := rsnsame_v s s hs hs (by omega)
      rw [decide_eq_true rfl] at c12
      clear h64 hr
      simp only [Option.getD_some, Option.isSome_some, if_true] at c9 c10
      simp only [snD, snN] at *
      refine vp_of Tryz.func4 rfl Tryz.ntmps4 rfl Tryz.results4 fun B => ?_
      repeat' (first | rw [hzc] | rw [hcz] | fail | refine nzl ?_ | refine nzd ?_ | ((first | with_reducible refine vl_id ?_ | with_reducible refine vd_id ?_); first | refine cz (wakes_v) ?_ | refine cz (cx) ?_ | refine cz (cy) ?_ | refine cz (c1) ?_ | refine cz (c2) ?_ | refine cz (c3) ?_ | refine cz (c4) ?_ | refine cz (c5) ?_ | refine cz (c6) ?_ | refine cz (c7) ?_ | refine cz (c8) ?_ | refine cz (c9) ?_ | refine cz (c10) ?_ | refine cz (c11) ?_ | refine cz (c12) ?_ | refine cz (c13) ?_ | refine cz (c14) ?_) | refine nzo ?_ | refine nc ?_ ?_ | (with_reducible intro _ <;> (try (exfalso; omega))) | refine vs_eqnil ?_ | refine vs_nenil ?_ | (refine nd ?_ ?_ <;> intro hg <;> (first | (exfalso; (try simp only [decide_eq_true_eq, decide_eq_false_iff_not] at hg); omega) | rw [hg])) | fail)
      all_goals first | rfl | exact absurd hg (by simp) | (rename_i hz; exact absurd rfl hz) | (exfalso; omega) | (rename_i hz; exact absurd hz (by decide)) | trace_state
  | true =>
    have c13 := rsnbytes_v a ha hr
    rw [hr] at c1 c2 c7
    have c14 := equal_v (snBy a) (snBy a)
    rw [decide_eq_true rfl] at c14
    simp only [if_true] at c2 c7
    generalize snBy a = W at *
    cases o with
    | none =>
      have c12 := rsnsame_v .zero .zero (by intro T hT; cases hT) (by intro T hT; cases hT) (by decide)
      rw [decide_eq_true rfl] at c12
      clear h64 hr
      simp only [Option.getD_none, Option.isSome_none, Bool.false_eq_true, if_false] at c9 c10
      rw [show snN .zero = [i64D 0, i64D 0, .sl false true [], u64D 0, u64D 0, u64D 0, u64D 0, u64D 0, u64D 0, u64D 0, u64D 0, u64D 0, u64D 0, u64D 0] from rfl] at c9
      rw [show snD .zero = [i64D 0, i64D 0, .sl false false [], u64D 0, u64D 0, u64D 0, u64D 0, u64D 0, u64D 0, u64D 0, u64D 0, u64D 0, u64D 0, u64D 0] from rfl] at c12
      generalize r.getD .zero = q at *
      simp only [snD, snN] at *
      refine vp_of Tryz.func4 rfl Tryz.ntmps4 rfl Tryz.results4 fun B => ?_
      repeat' (first | rw [hzc] | rw [hcz] | fail | refine nzl ?_ | refine nzd ?_ | ((first | with_reducible refine vl_id ?_ | with_reducible refine vd_id ?_); first | refine cz (wakes_v) ?_ | refine cz (cx) ?_ | refine cz (cy) ?_ | refine cz (c1) ?_ | refine cz (c2) ?_ | refine cz (c3) ?_ | refine cz (c4) ?_ | refine cz (c5) ?_ | refine cz (c6) ?_ | refine cz (c7) ?_ | refine cz (c8) ?_ | refine cz (c9) ?_ | refine cz (c10) ?_ | refine cz (c11) ?_ | refine cz (c12) ?_ | refine cz (c13) ?_ | refine cz (c14) ?_) | refine nzo ?_ | refine nc ?_ ?_ | (with_reducible intro _ <;> (try (exfalso; omega))) | refine vs_eqnil ?_ | refine vs_nenil ?_ | (refine nd ?_ ?_ <;> intro hg <;> (first | (exfalso; (try simp only [decide_eq_true_eq, decide_eq_false_iff_not] at hg); omega) | rw [hg])) | fail)
      all_goals first | rfl | exact absurd hg (by simp) | (rename_i hz; exact absurd rfl hz) | (exfalso; omega) | (rename_i hz; exact absurd hz (by decide)) | trace_state
    | some s =>
      obtain ⟨rfl, hs, ls⟩ := h64 s rfl
      have c12 := rsnsame_v s s hs hs (by omega)
      rw [decide_eq_true rfl] at c12
      clear h64 hr
      simp only [Option.getD_some, Option.isSome_some, if_true] at c9 c10
      simp only [snD, snN] at *
      refine vp_of Tryz.func4 rfl Tryz.ntmps4 rfl Tryz.results4 fun B => ?_
      repeat' (first | rw [hzc] | rw [hcz] | fail | refine nzl ?_ | refine nzd ?_ | ((first | with_reducible refine vl_id ?_ | with_reducible refine vd_id ?_); first | refine cz (wakes_v) ?_ | refine cz (cx) ?_ | refine cz (cy) ?_ | refine cz (c1) ?_ | refine cz (c2) ?_ | refine cz (c3) ?_ | refine cz (c4) ?_ | refine cz (c5) ?_ | refine cz (c6) ?_ | refine cz (c7) ?_ | refine cz (c8) ?_ | refine cz (c9) ?_ | refine cz (c10) ?_ | refine cz (c11) ?_ | refine cz (c12) ?_ | refine cz (c13) ?_ | refine cz (c14) ?_) | refine nzo ?_ | refine nc ?_ ?_ | (with_reducible intro _ <;> (try (exfalso; omega))) | refine vs_eqnil ?_ | refine vs_nenil ?_ | (refine nd ?_ ?_ <;> intro hg <;> (first | (exfalso; (try simp only [decide_eq_true_eq, decide_eq_false_iff_not] at hg); omega) | rw [hg])) | fail)
      all_goals first | rfl | exact absurd hg (by simp) | (rename_i hz; exact absurd rfl hz) | (exfalso; omega) | (rename_i hz; exact absurd hz (by decide)) | trace_state
end Go.Proofs.YtkjpcjccddggoaaGreat

namespace Go.Proofs.YtkjpcjccddggoaaGreat
theorem bytes_law (x : Sn) (hx : All64 x.c.L) (y : Sn) (hy : All64 y.c.L) (z : List UInt8) : VP Tryz.prog 4 [.agg (snD x), .agg (snD y), bsD z] (· = .ret (.lit (.bool true))) := sbytes_law x y z hx hy
end Go.Proofs.YtkjpcjccddggoaaGreat

namespace Go.Proofs.YtkjpcjccddggoaaGreat
open Go.ChangeShapes Go.WideShapes Go.ChangeAt Go.RowKit
set_option maxRecDepth 100000 in
theorem snapBytes_lifted (os : Os) (started : os.Started) (H : Type) (enc : TypeId × Value → H) :
    ReturnsInHanded {} Tryz.checked os 4 .any (Rows.snapBytesSpec.pre6 enc Tryz.prog Tryz.f4 Rows.snapBytesRow.domain false) (Rows.snapBytesSpec.post enc Tryz.prog Tryz.f4 false true false false) := by
  refine returnsInHanded_of_change (C := Tryz.checked) l_own started (by kernel_rfl) Tryz.func4
    (ChangeSpec.witness6 (enc := enc) (C := Tryz.checked) false ⟨#[], #[.agg #[.int .i64 0, .int .i64 0, .slice none 0 0, .int .u64 0, .int .u64 0, .int .u64 0, .int .u64 0, .int .u64 0, .int .u64 0, .int .u64 0, .int .u64 0, .int .u64 0, .int .u64 0, .int .u64 0], .agg #[.int .i64 0, .int .i64 0, .slice none 0 0, .int .u64 0, .int .u64 0, .int .u64 0, .int .u64 0, .int .u64 0, .int .u64 0, .int .u64 0, .int .u64 0, .int .u64 0, .int .u64 0, .int .u64 0], .slice none 0 0], []⟩ 8 (by kernel_rfl) (by kernel_rfl) (by kernel_rfl) (by kernel_rfl)) ?_
  intro W base args ds gs before hval0 hW hcnd _
  have hval : ∀ (j : Nat) t v, Tryz.f4.params[j]? = some t → args[j]? = some v → Value.okWide Tryz.prog W .any base t v := hval0
  have hW' := hW
  obtain ⟨p, q, hA0, hV, rfl, hfz, hnd⟩ := hW
  have hA : DataW.TrodAll enc Tryz.prog W 0 (fun _ => true) true Tryz.f4.params.toList args.toList ds p := hA0
  rw [Tryz.params4] at hA hval
  obtain ⟨v0, vs0, e0, ds0, p0, q0, hargs, rfl, rfl, h0, r0⟩ := trodAll_cons hA
  obtain ⟨v1, vs1, e1, ds1, p1, q1, rfl, rfl, rfl, h1, r1⟩ := trodAll_cons r0
  obtain ⟨v2, vs2, e2, ds2, p2, q2, rfl, rfl, rfl, h2, r2⟩ := trodAll_cons r1
  obtain ⟨rfl, rfl, rfl⟩ := trodAll_nil r2
  obtain rfl : args = #[v0, v1, v2] := by cases args; simp_all
  obtain ⟨rfl, rfl⟩ := trodVars_none hV
  have k0 := h0
  have lt0 : ∀ x ∈ p0, x.block < W.heap.size := by obtain ⟨m, hm⟩ := k0; exact DataW.trod_lt m _ _ _ hm
  obtain ⟨y0, z0, d0⟩ := arg_struct opn_sn Tryz.underlying54 (hval 0 54 v0 rfl rfl) h0
  have k1 := h1
  have lt1 : ∀ x ∈ p1, x.block < W.heap.size := by obtain ⟨m, hm⟩ := k1; exact DataW.trod_lt m _ _ _ hm
  obtain ⟨y1, z1, d1⟩ := arg_struct opn_sn Tryz.underlying54 (hval 1 54 v1 rfl rfl) h1
  have k2 := h2
  have lt2 : ∀ x ∈ p2, x.block < W.heap.size := by obtain ⟨m, hm⟩ := k2; exact DataW.trod_lt m _ _ _ hm
  obtain ⟨a2, n2, c2, rfl⟩ := okWide_slice Tryz.underlying23 (hval 2 23 v2 rfl rfl)
  obtain ⟨y2, z2, d2⟩ := arg_cell opn_by rfl h2
  clear hA0 hval0
  refine ((bytes_law y0 z0 y1 z1 y2).2 (fun _ => True) W _ (by simp only [dreps]; exact ⟨_, _, rfl, d0 _, ⟨_, _, rfl, d1 _, ⟨_, _, rfl, d2 _, rfl⟩⟩⟩)).mono fun e W' ⟨bel, r, he, hr⟩ => ?_
  subst he
  obtain ⟨u, rfl, hu⟩ := hr
  simp only [drep] at hu
  subst hu
  exact ⟨_, rfl, _, _, _, [], _, [], hW', trodAll_mk1 (shut_bool Tryz.underlying4 _), (trodAll_cons_mk (Below.trod l_laidOut (by kernel_rfl) (of_decide_eq_true (by kernel_rfl)) k0 bel lt0) (trodAll_cons_mk (Below.trod l_laidOut (by kernel_rfl) (of_decide_eq_true (by kernel_rfl)) k1 bel lt1) (trodAll_cons_mk (Below.trod l_laidOut (by kernel_rfl) (of_decide_eq_true (by kernel_rfl)) k2 bel lt2) trodAll_mk0))), rfl, bel.frame _, fun h => by cases h⟩
theorem snapBytes_over : Rows.snapBytesRow.holds Tryz.pinned (OpenSpec.ofChange Rows.snapBytesSpec) :=
  OpenClaim.holds_of_wide 4 Tryz.f4 rfl rfl rfl rfl rfl rfl rfl ⟨rfl, rfl, rfl, rfl, rfl⟩ rfl rfl rfl rfl rfl (by kernel_rfl) Tryz.func4 (by kernel_rfl)
    (of_decide_eq_true (by kernel_rfl)) (by unfold Func.isWrapper; first | (rw [if_pos (by decide +kernel)]; kernel_rfl) | (rw [if_neg (by decide +kernel)]; exact ⟨rfl, rfl⟩))
    (fun os started H enc _ => snapBytes_lifted os started H enc)
/-- SnapBytes holds as it is stated. -/
theorem snapBytes_holds : Rows.SnapBytesSaid := snapBytes_over
#print axioms snapBytes_holds
end Go.Proofs.YtkjpcjccddggoaaGreat
