/- What SnapPilesProof asks for, part a: Layer 21, by V: Put, by the reference. Layer 21, by V: rows of pieces compared. Layer 21, plain: a right pile into which a piece is put is right. -/
import Derived.Test.YtkjpcjccddggoaaGreatPk50
import Derived.Test.YtkjpcjccddggoaaGreatPk49
import Derived.Test.YtkjpcjccddggoaaGreatPk27
namespace Go.Proofs.YtkjpcjccddggoaaGreat
open Go.RowKit
set_option maxRecDepth 10000
set_option maxHeartbeats 4000000
abbrev piR (p : Pi) : List D := [u64D p.snap, i64D p.many, .sl false true (p.parts.map fD)]
theorem nils_leD : ∀ (n : Nat) B U w us, drepss B U w (List.replicate n nilE) us → drepss B U w ((List.replicate n ([] : List UInt8)).map fD) us
  | 0, B, U, w, us, h => h
  | n + 1, B, U, w, us, h => by
    simp only [List.replicate_succ, List.map_cons, drepss] at h ⊢
    obtain ⟨c1, c2, e, k1, k2⟩ := h
    refine ⟨c1, c2, e, ?_, nils_leD n B U w c2 k2⟩
    simp only [dreps] at k1 ⊢
    obtain ⟨y, ys, e1, h1, h2⟩ := k1
    exact ⟨y, ys, e1, dle_nil false false B U w y h1, h2⟩
theorem rput_v (p : Pi) (x : Pc) (hp : piB p = true) : VP Tryz.prog 31 [.agg (piD p), .agg (pcD x)] (· = .ret (.tup [.agg (piR (putE p x).1), i64D (putE p x).2])) := by
  have hl := piB_len hp
  have hn := piB_n hp
  have hL : (p.parts.map fD).length = p.parts.length := List.length_map _
  have cp := rpiece_v x
  refine VP.le ?_
  cases hx : pcB x with
  | false =>
    rw [hx] at cp
    have he : putE p x = (.zero, 311) := by simp [putE, hp, putOk, putErr, hx]
    rw [he]
    simp only [piD, pcD, piR] at cp ⊢
    refine vp_of Tryz.func31 rfl Tryz.ntmps31 rfl Tryz.results31 fun B => ?_
    repeat' (first | fail | fail | refine nzl ?_ | refine nzd ?_ | ((first | with_reducible refine vl_id ?_ | with_reducible refine vd_id ?_); first | refine cz (cp) ?_) | refine nzo ?_ | refine nc ?_ ?_ | (with_reducible intro _ <;> (try (exfalso; omega))) | refine vs_eqnil ?_ | refine vs_nenil ?_ | (refine nd ?_ ?_ <;> intro hg <;> (first | (exfalso; (try simp only [decide_eq_true_eq, decide_eq_false_iff_not] at hg); omega) | rw [hg])) | fail)
    all_goals first | (simp only [Pi.zero, List.map_nil, leR]; infer_instance) | trace_state
  | true =>
    have hxx : 1 ≤ x.many ∧ x.many ≤ 64 ∧ 0 ≤ x.idx ∧ x.idx < x.many ∧ x.b.length ≤ 256 := by
      have := hx; simp [pcB, partB] at this; omega
    rw [hx] at cp
    rcases Int.lt_trichotomy p.snap x.snap with h1 | h1 | h1
    · have he : putE p x = ((Pi.fresh x).set x, 0) := by simp [putE, hp, putOk, hx, h1, Pi.put]
      have hset : ((Pi.fresh x).set x).parts.map fD = ((List.replicate x.many.toNat ([] : List UInt8)).map fD).set x.idx.toNat (fD x.b) := by simp [Pi.fresh, Pi.set, List.map_set]
      have hLn : ((List.replicate x.many.toNat ([] : List UInt8)).map fD).length = x.many.toNat := by simp
      rw [he]
      simp only [piD, pcD, piR] at cp ⊢
      rw [hset]
      refine vp_of Tryz.func31 rfl Tryz.ntmps31 rfl Tryz.results31 fun B => ?_
      refine vw_seq ?_
      repeat' (first | fail | fail | refine nzl ?_ | refine nzd ?_ | ((first | with_reducible refine vl_id ?_ | with_reducible refine vd_id ?_); first | fail) | ((fail_if_success (with_reducible refine vw_seq ?_)); refine nzo ?_) | refine nc ?_ ?_ | (with_reducible intro _ <;> (try (exfalso; omega))) | refine vs_eqnil ?_ | refine vs_nenil ?_ | (refine nd ?_ ?_ <;> intro hg <;> (first | (exfalso; (try simp only [decide_eq_true_eq, decide_eq_false_iff_not] at hg); omega) | rw [hg])) | fail)
      refine vw_seq ?_
      repeat' (first | fail | fail | refine nzl ?_ | refine nzd ?_ | ((first | with_reducible refine vl_id ?_ | with_reducible refine vd_id ?_); first | fail) | ((fail_if_success (with_reducible refine vw_seq ?_)); refine nzo ?_) | refine nc ?_ ?_ | (with_reducible intro _ <;> (try (exfalso; omega))) | refine vs_eqnil ?_ | refine vs_nenil ?_ | (refine nd ?_ ?_ <;> intro hg <;> (first | (exfalso; (try simp only [decide_eq_true_eq, decide_eq_false_iff_not] at hg); omega) | rw [hg])) | fail)
      refine vw_seq ?_
      repeat' (first | fail | fail | refine nzl ?_ | refine nzd ?_ | ((first | with_reducible refine vl_id ?_ | with_reducible refine vd_id ?_); first | refine cz (cp) ?_) | ((fail_if_success (with_reducible refine vw_seq ?_)); refine nzo ?_) | refine nc ?_ ?_ | (with_reducible intro _ <;> (try (exfalso; omega))) | refine vs_eqnil ?_ | refine vs_nenil ?_ | (refine nd ?_ ?_ <;> intro hg <;> (first | (exfalso; (try simp only [decide_eq_true_eq, decide_eq_false_iff_not] at hg); omega) | rw [hg])) | fail)
      refine vw_seq ?_
      repeat' (first | fail | fail | refine nzl ?_ | refine nzd ?_ | ((first | with_reducible refine vl_id ?_ | with_reducible refine vd_id ?_); first | fail) | ((fail_if_success (with_reducible refine vw_seq ?_)); refine nzo ?_) | refine nc ?_ ?_ | (with_reducible intro _ <;> (try (exfalso; omega))) | refine vs_eqnil ?_ | refine vs_nenil ?_ | (refine nd ?_ ?_ <;> intro hg <;> (first | (exfalso; (try simp only [decide_eq_true_eq, decide_eq_false_iff_not] at hg); omega) | rw [hg])) | fail)
      refine vw_seq ?_
      repeat' (first | fail | fail | refine nzl ?_ | refine nzd ?_ | ((first | with_reducible refine vl_id ?_ | with_reducible refine vd_id ?_); first | fail) | ((fail_if_success (with_reducible refine vw_seq ?_)); refine nzo ?_) | refine nc ?_ ?_ | (with_reducible intro _ <;> (try (exfalso; omega))) | refine vs_eqnil ?_ | refine vs_nenil ?_ | (refine nd ?_ ?_ <;> intro hg <;> (first | (exfalso; (try simp only [decide_eq_true_eq, decide_eq_false_iff_not] at hg); omega) | rw [hg])) | fail)
      refine vw_rowle (k := 3) ((List.replicate x.many.toNat ([] : List UInt8)).map fD) rfl (nils_leD _) (by simp) (by intro y hy; simp at hy; rw [hy.2]; rfl) ?_
      have hg : (([] : List (List D)) ++ (List.replicate x.many.toNat ([] : List UInt8)).map fD)[x.idx.toNat]? = some (fD []) := by rw [List.nil_append, List.getElem?_map, List.getElem?_replicate, if_pos (by omega)]; rfl
      have hL2 : (([] : List (List D)) ++ (List.replicate x.many.toNat ([] : List UInt8)).map fD).length = x.many.toNat := by simp
      generalize (List.replicate x.many.toNat ([] : List UInt8)).map fD = L at *
      repeat' (first | fail | fail | refine nzl ?_ | refine nzd ?_ | ((first | with_reducible refine vl_id ?_ | with_reducible refine vd_id ?_); first | fail) | refine nzo ?_ | refine nc ?_ ?_ | (with_reducible intro _ <;> (try (exfalso; omega))) | refine vs_eqnil ?_ | refine vs_nenil ?_ | (refine nd ?_ ?_ <;> intro hg <;> (first | (exfalso; (try simp only [decide_eq_true_eq, decide_eq_false_iff_not] at hg); omega) | rw [hg])) | fail)
      all_goals first | (simp only [List.nil_append]; exact de_refl _) | trace_state
    · by_cases h2 : x.many = p.many
      · have hi := piB_z hp hx (by omega) h1 h2
        have hb : p.parts[x.idx.toNat]? = some p.parts[x.idx.toNat] := List.getElem?_eq_getElem hi
        generalize p.parts[x.idx.toNat] = z at *
        have hg : (p.parts.map fD)[x.idx.toNat]? = some (fD z) := by simp [hb]
        have hz := byD_len z
        have hset : (p.set x).parts.map fD = (p.parts.map fD).set x.idx.toNat (fD x.b) := by simp [Pi.set, List.map_set]
        by_cases h3 : z = []
        · subst h3
          have hz0 : (byD ([] : List UInt8)).length = 0 := rfl
          have hLz : ∀ y ∈ p.parts.map fD, y.length = 1 := by intro y hy; simp at hy; obtain ⟨_, _, rfl⟩ := hy; rfl
          have he : putE p x = (p.set x, 0) := by simp [putE, hp, putOk, hx, h1, h2, hb, Pi.put]
          rw [he]
          simp only [piD, pcD, piR] at cp ⊢
          rw [hset]
          generalize p.parts.map fD = L at *
          have hg2 : (([] : List (List D)) ++ L)[x.idx.toNat]? = some (fD []) := by rw [List.nil_append]; exact hg
          have hL2 : (([] : List (List D)) ++ L).length = L.length := by rw [List.nil_append]
          refine vp_of Tryz.func31 rfl Tryz.ntmps31 rfl Tryz.results31 fun B => ?_
          repeat' (first | fail | fail | refine nzl ?_ | refine nzd ?_ | ((first | with_reducible refine vl_id ?_ | with_reducible refine vd_id ?_); first | refine cz (cp) ?_) | refine nzo ?_ | refine nc ?_ ?_ | (with_reducible intro _ <;> (try (exfalso; omega))) | refine vs_eqnil ?_ | refine vs_nenil ?_ | (refine nd ?_ ?_ <;> intro hg <;> (first | (exfalso; (try simp only [decide_eq_true_eq, decide_eq_false_iff_not] at hg); omega) | rw [hg])) | fail)
          all_goals first | (simp only [List.nil_append]; exact de_refl _) | trace_state
        · have he : putE p x = (.zero, 5) := by simp [putE, hp, putOk, putErr, hx, h1, h2, hb, h3]
          have hz0 : 0 < z.length := List.length_pos_iff.2 h3
          rw [he]
          simp only [piD, pcD, piR] at cp ⊢
          generalize p.parts.map fD = L at *
          refine vp_of Tryz.func31 rfl Tryz.ntmps31 rfl Tryz.results31 fun B => ?_
          repeat' (first | fail | fail | refine nzl ?_ | refine nzd ?_ | ((first | with_reducible refine vl_id ?_ | with_reducible refine vd_id ?_); first | refine cz (cp) ?_) | refine nzo ?_ | refine nc ?_ ?_ | (with_reducible intro _ <;> (try (exfalso; omega))) | refine vs_eqnil ?_ | refine vs_nenil ?_ | (refine nd ?_ ?_ <;> intro hg <;> (first | (exfalso; (try simp only [decide_eq_true_eq, decide_eq_false_iff_not] at hg); omega) | rw [hg])) | fail)
          all_goals first | (simp only [Pi.zero, List.map_nil, leR]; infer_instance) | trace_state
      · have he : putE p x = (.zero, 311) := by simp [putE, hp, putOk, putErr, hx, h1, h2]
        rw [he]
        simp only [piD, pcD, piR] at cp ⊢
        refine vp_of Tryz.func31 rfl Tryz.ntmps31 rfl Tryz.results31 fun B => ?_
        repeat' (first | fail | fail | refine nzl ?_ | refine nzd ?_ | ((first | with_reducible refine vl_id ?_ | with_reducible refine vd_id ?_); first | refine cz (cp) ?_) | refine nzo ?_ | refine nc ?_ ?_ | (with_reducible intro _ <;> (try (exfalso; omega))) | refine vs_eqnil ?_ | refine vs_nenil ?_ | (refine nd ?_ ?_ <;> intro hg <;> (first | (exfalso; (try simp only [decide_eq_true_eq, decide_eq_false_iff_not] at hg); omega) | rw [hg])) | fail)
        all_goals first | (simp only [Pi.zero, List.map_nil, leR]; infer_instance) | trace_state
    · have he : putE p x = (.zero, 241) := by
        have h4 : ¬ p.snap < x.snap := by omega
        have h5 : ¬ p.snap = x.snap := by omega
        simp [putE, hp, putOk, putErr, hx, h1, h4, h5]
      rw [he]
      simp only [piD, pcD, piR] at cp ⊢
      refine vp_of Tryz.func31 rfl Tryz.ntmps31 rfl Tryz.results31 fun B => ?_
      repeat' (first | fail | fail | refine nzl ?_ | refine nzd ?_ | ((first | with_reducible refine vl_id ?_ | with_reducible refine vd_id ?_); first | refine cz (cp) ?_) | refine nzo ?_ | refine nc ?_ ?_ | (with_reducible intro _ <;> (try (exfalso; omega))) | refine vs_eqnil ?_ | refine vs_nenil ?_ | (refine nd ?_ ?_ <;> intro hg <;> (first | (exfalso; (try simp only [decide_eq_true_eq, decide_eq_false_iff_not] at hg); omega) | rw [hg])) | fail)
      all_goals first | (simp only [Pi.zero, List.map_nil, leR]; infer_instance) | trace_state
end Go.Proofs.YtkjpcjccddggoaaGreat

namespace Go.Proofs.YtkjpcjccddggoaaGreat
open Go.RowKit
set_option maxRecDepth 10000
set_option maxHeartbeats 4000000
theorem eqpc_v (l m : List Pc) :
    VP Tryz.prog 35 [.sl false false (l.map pcD), .sl false false (m.map pcD), .fn 36 [] []] (· = .ret (.lit (.bool (decide (l = m))))) := by
  rw [← eqF_eq]
  refine vp_of Tryz.func35 rfl Tryz.ntmps35 rfl Tryz.results35 fun B => ?_
  have hl : (l.map pcD).length = l.length := List.length_map _
  have hm : (m.map pcD).length = m.length := List.length_map _
  generalize hp : (fun x y : Pc => decide (x = y)) = p
  repeat' (first | fail | fail | refine nzl ?_ | refine nzd ?_ | ((first | with_reducible refine vl_id ?_ | with_reducible refine vd_id ?_); first | fail) | refine nzo ?_ | refine nc ?_ ?_ | (with_reducible intro _ <;> (try (exfalso; omega))) | refine vs_eqnil ?_ | refine vs_nenil ?_ | (refine nd ?_ ?_ <;> intro hg <;> (first | (exfalso; (try simp only [decide_eq_true_eq, decide_eq_false_iff_not] at hg); omega) | rw [hg])) | fail)
  · rw [eqF_len (by omega)]
  · refine vw_each 15 l pcD (fun (i : Nat) (_ : Unit) => ⟨[(17, I .i64 i), (16, I .i64 (l.map pcD).length), (15, .d (.sl false false (l.map pcD))), (1, .d (.sl false false (m.map pcD))), (2, .d (.fn 36 [] []))], [], 0⟩) (fun i _ => eqF p l m = eqF p (l.drop i) (m.drop i)) () (sub_z) rfl (fun i y x hT hi hx hx' hlt hlm hlen hdr => ?_) (fun y hT hlt hlm => ?_)
    · have hlb : i < m.length := by omega
      have hb' : m[i]? = some m[i] := List.getElem?_eq_getElem hlb
      have hbd := List.drop_eq_getElem_cons hlb
      generalize m[i] = z at *
      have hbx : (m.map pcD)[((i : Nat) : Int).toNat]? = some (pcD z) := by simp [hb']
      rw [hdr, hbd] at hT
      have c := samepc_v x z
      rw [show decide (x = z) = p x z by rw [← hp]] at c
      simp only [pcD] at c hx' hbx ⊢
      repeat' (first | fail | fail | refine nzl ?_ | refine nzd ?_ | ((first | with_reducible refine vl_id ?_ | with_reducible refine vd_id ?_); first | refine cz (c) ?_) | refine nzo ?_ | refine nc ?_ ?_ | (with_reducible intro _ <;> (try (exfalso; omega))) | refine vs_eqnil ?_ | refine vs_nenil ?_ | (refine nd ?_ ?_ <;> intro hg <;> (first | (exfalso; (try simp only [decide_eq_true_eq, decide_eq_false_iff_not] at hg); omega) | rw [hg])) | fail)
      · rw [hT]; simp_all [eqF]
      · refine nx_each () hi ?_ (sub_z); rw [hT]; simp_all [eqF]
    · repeat' (first | fail | fail | refine nzl ?_ | refine nzd ?_ | ((first | with_reducible refine vl_id ?_ | with_reducible refine vd_id ?_); first | fail) | refine nzo ?_ | refine nc ?_ ?_ | (with_reducible intro _ <;> (try (exfalso; omega))) | refine vs_eqnil ?_ | refine vs_nenil ?_ | (refine nd ?_ ?_ <;> intro hg <;> (first | (exfalso; (try simp only [decide_eq_true_eq, decide_eq_false_iff_not] at hg); omega) | rw [hg])) | fail)
      rw [hT, List.drop_of_length_le (Nat.le_refl _), List.drop_of_length_le (by omega)]; rfl
end Go.Proofs.YtkjpcjccddggoaaGreat

namespace Go.Proofs.YtkjpcjccddggoaaGreat
theorem anyI_set {p : Nat → List UInt8 → Bool} : ∀ {l : List (List UInt8)} {i j : Nat} {x : List UInt8}, anyI p i l = false → p (i + j) x = false → anyI p i (l.set j x) = false
  | [], _, _, _, _, _ => rfl
  | y :: l, i, 0, x, h, hx => by
    simp only [anyI, Bool.or_eq_false_iff, List.set_cons_zero] at h ⊢
    exact ⟨hx, h.2⟩
  | y :: l, i, j + 1, x, h, hx => by
    simp only [anyI, Bool.or_eq_false_iff, List.set_cons_succ] at h ⊢
    exact ⟨h.1, anyI_set h.2 (by rw [show i + 1 + j = i + (j + 1) by omega]; exact hx)⟩
theorem anyI_nil (m : Int) : ∀ (n i : Nat), anyI (wrongB m) i (List.replicate n []) = false
  | 0, _ => rfl
  | n + 1, i => by
    rw [List.replicate_succ]
    simp only [anyI, Bool.or_eq_false_iff]
    exact ⟨by simp [wrongB, comeB], anyI_nil m n (i + 1)⟩
theorem idx_set {l : List (List UInt8)} {j : Nat} {x : List UInt8} (hj : j < l.length) (hx : comeB x = true) : 0 ≤ idxP comeB 0 (l.set j x) := by
  have h := any_idx (l.set j x) 0
  have h2 : (l.set j x).any comeB = true := List.any_eq_true.2 ⟨x, List.mem_of_getElem? (i := j) (by rw [List.getElem?_set_self hj]), hx⟩
  rw [h2] at h
  exact of_decide_eq_true h.symm
theorem piB_of {q : Pi} (a1 : numB q.snap = true) (a2 : 1 ≤ q.many) (a3 : q.many ≤ 64) (a4 : (q.parts.length : Int) = q.many) (a5 : anyI (wrongB q.many) 0 q.parts = false) (a6 : 0 ≤ idxP comeB 0 q.parts) : piB q = true := by
  simp [piB, a1, a2, a3, a4, a5, a6]
theorem piB_put {p : Pi} {x : Pc} (h : piB p = true) (hk : putOk p x = true) : piB (p.put x) = true := by
  have hl := piB_len h
  have hx : pcB x = true := by simp only [putOk, Bool.and_eq_true] at hk; exact hk.1
  have hx2 := hx
  simp only [pcB, Bool.and_eq_true, decide_eq_true_eq] at hx2
  obtain ⟨⟨⟨⟨⟨h1, h2⟩, h3⟩, h4⟩, h5⟩, h6⟩ := hx2
  have hc : comeB x.b = true := by
    simp only [partB, Bool.or_eq_true, Bool.and_eq_true, decide_eq_true_eq] at h6
    simp only [comeB, decide_eq_true_eq]; omega
  have hw : wrongB x.many (0 + x.idx.toNat) x.b = false := by
    simp only [wrongB, Nat.zero_add, Int.toNat_of_nonneg h4, h6, Bool.not_true, Bool.and_false]
  unfold Pi.put
  by_cases hs : p.snap < x.snap
  · rw [if_pos hs]
    exact piB_of h1 h2 h3 (by simp only [Pi.set, Pi.fresh, List.length_set, List.length_replicate]; omega) (anyI_set (anyI_nil _ _ _) hw) (idx_set (by simp only [Pi.fresh, List.length_replicate]; omega) hc)
  · rw [if_neg hs]
    simp only [putOk, hx, Bool.true_and, Bool.or_eq_true, Bool.and_eq_true, decide_eq_true_eq, hs, false_or] at hk
    obtain ⟨⟨k1, k2⟩, k3⟩ := hk
    have hlt : x.idx.toNat < p.parts.length := by rw [List.getElem?_eq_some_iff] at k3; exact k3.1
    simp only [piB, Bool.or_eq_true, Bool.and_eq_true, decide_eq_true_eq, Bool.not_eq_true', piZ] at h
    rcases h with h | h
    · omega
    · obtain ⟨⟨⟨⟨⟨g1, g2⟩, g3⟩, g4⟩, g5⟩, g6⟩ := h
      exact piB_of g1 g2 g3 (by simp only [Pi.set, List.length_set]; exact g4) (anyI_set g5 (k2 ▸ hw)) (idx_set hlt hc)
end Go.Proofs.YtkjpcjccddggoaaGreat

namespace Go.Proofs.YtkjpcjccddggoaaGreat
open Go.RowKit
/-- pieces of a function's code -/
def bodyC (f : Func) : Code := f.body.getD .skip
def sndC : Nat → Code → Code
  | 0, c => c
  | n + 1, .seq _ y => sndC n y
  | _, c => c
def fstC : Code → Code
  | .seq x _ => x
  | c => c
section
variable {P : Program} {cx : Cx} {s : St} {Q : VE → St → Prop}
/-- the ways that leave a block are joined behind it -/
theorem vw_join {α : Type} (I : α → St) (T : α → Prop) {c y : Code} {id : Nat} (h : VW P cx c s (blockV id (cutV cx I T Q))) (k : ∀ z, T z → VW P cx y (I z) Q) : VW P cx c s (blockV id (thenV P cx y Q)) := by
  have key : ∀ e s', cutV cx I T Q e s' → thenV P cx y Q e s' := fun e s' hq => by
    cases e with
    | normal => obtain ⟨z, h1, h2⟩ := hq; exact vw_sub h2 (k z h1)
    | exit id => exact hq
    | goto id => exact hq
    | ret => exact hq
    | panic v => exact hq
  refine h.mono fun e s' hq => ?_
  cases e with
  | exit i =>
    simp only [blockV] at hq ⊢
    split at hq
    · exact key _ _ hq
    · exact key _ _ hq
  | normal => exact key .normal _ hq
  | goto id => exact key (.goto id) _ hq
  | ret => exact key .ret _ hq
  | panic v => exact key (.panic v) _ hq
end
end Go.Proofs.YtkjpcjccddggoaaGreat

namespace Go.Proofs.YtkjpcjccddggoaaGreat
open Go.RowKit
set_option maxRecDepth 10000
set_option maxHeartbeats 4000000
instance dlss_pcM (l : List Pc) : DLss (l.map pcM) (l.map pcD) := dlss_map l _ _ (fun _ => inferInstance) (fun _ => rfl)
instance dlss_fM (l : List (List UInt8)) : DLss (l.map fM) (l.map fD) := dlss_map l _ _ (fun _ => inferInstance) (fun _ => rfl)
theorem sumL_bd {m : Nat} : ∀ {l : List (List UInt8)}, (∀ y ∈ l, y.length ≤ m) → sumL l ≤ l.length * m
  | [], _ => by simp [sumL]
  | x :: l, h => by
    have h1 := h x (by simp)
    have h2 := sumL_bd (l := l) fun y hy => h y (by simp [hy])
    simp only [sumL, List.flatten_cons, List.length_append, List.length_cons] at h2 ⊢
    rw [Nat.add_mul]; omega
theorem own_le (x : Pi) : x.own.parts.length ≤ 66 ∧ ∀ y ∈ x.own.parts, y.length ≤ 300 := by
  refine ⟨by simp [Pi.own]; omega, fun y hy => ?_⟩
  simp only [Pi.own, List.mem_map] at hy
  obtain ⟨z, _, rfl⟩ := hy
  simp; omega
theorem few_le (y : List Pc) : (fewL y).length ≤ 12 ∧ ∀ q ∈ fewL y, q.b.length ≤ 300 := by
  refine ⟨by simp [fewL]; omega, fun q hq => ?_⟩
  simp only [fewL, List.mem_map] at hq
  obtain ⟨z, _, rfl⟩ := hq
  simp [cutPc]; omega
theorem put_le {p : Pi} {x : Pc} (h : ∀ y ∈ p.parts, y.length ≤ 300) (hx : x.b.length ≤ 300) : ∀ y ∈ (p.put x).parts, y.length ≤ 300 := by
  intro y hy
  unfold Pi.put at hy
  split at hy
  · simp only [Pi.set, Pi.fresh] at hy
    rcases List.mem_or_eq_of_mem_set hy with hy | rfl
    · rw [List.mem_replicate] at hy; rw [hy.2]; simp
    · exact hx
  · simp only [Pi.set] at hy
    rcases List.mem_or_eq_of_mem_set hy with hy | rfl
    · exact h y hy
    · exact hx
def rnE (p : Pi) : Int := if 0 ≤ idxP ncB 0 p.parts then idxP ncB 0 p.parts else if p.many = 0 then 0 else -1
theorem ends_of {a : Pi} (h : piB a = true) : (∃ j : Int, 0 ≤ j ∧ nextE a = (j, true) ∧ rnE a = j ∧ wholeE a = ([], false)) ∨ (nextE a = (0, false) ∧ rnE a = -1 ∧ wholeE a = (a.parts.flatten, true)) := by
  have hl := piB_len h
  by_cases h0 : 0 ≤ idxP ncB 0 a.parts
  · have hm : a.many ≠ 0 := by
      intro e
      have : a.parts = [] := List.eq_nil_of_length_eq_zero (by omega)
      rw [this] at h0
      simp [idxP] at h0
    have hn : nextE a = (idxP ncB 0 a.parts, true) := by simp [nextE, h, hm, h0]; omega
    refine .inl ⟨_, h0, hn, by simp [rnE, h0], by simp [wholeE, hn]⟩
  · by_cases hm : a.many = 0
    · have hn : nextE a = (0, true) := by simp [nextE, h, hm]
      exact .inl ⟨0, by omega, hn, by simp [rnE, h0, hm], by simp [wholeE, hn]⟩
    · have hn : nextE a = (0, false) := by simp [nextE, h, hm, h0]; omega
      exact .inr ⟨hn, by simp [rnE, h0, hm], by simp [wholeE, hn, h]⟩
def lopC : Code → Code
  | .loop c => c
  | c => c
def blkC : Code → Code
  | .block _ c => c
  | c => c
noncomputable abbrev pilesX : Code := blkC (fstC (sndC 2 (lopC (blkC (sndC 1 (fstC (sndC 6 (bodyC Tryz.f6))))))))
noncomputable abbrev pilesE : Code := sndC 7 (bodyC Tryz.f6)
abbrev plC (B : Nat) : Cx := ⟨214, none, B, 0, some B, []⟩
abbrev plT (l y0 : List Pc) (r : Bool) (i n : Nat) : List (Nat × V) := [(54, I .i64 i), (53, I .i64 (l.map pcM).length), (52, .d (.sl false true (l.map pcM))), (10, I .i64 n), (9, .ptr 2 0), (7, .d (.lit (.bool r))), (6, .d (.sl false true (l.map pcM))), (5, .ptr 1 0), (2, .ptr 0 0), (1, .d (.sl false false (y0.map pcD)))]
abbrev plL (x0 p q : Pi) : List E := [.c 2 0 [.d (u64D q.snap), .d (i64D q.many), .d (.sl false false (q.parts.map fD))], .c 1 0 [.d (u64D p.snap), .d (i64D p.many), .d (.sl false true (p.parts.map fM))], .c 0 0 [.d (u64D x0.snap), .d (i64D x0.many), .d (.sl false false (x0.parts.map fD))]]
theorem piles_no (B : Nat) (x0 p : Pi) (y0 l : List Pc) (i n : Nat) (x : Pc) (hr : piB p = false) (ho1 : p.parts.length ≤ 66) (ho2 : ∀ y ∈ p.parts, y.length ≤ 300) (hx' : (l.map pcM)[((i : Nat) : Int).toNat]? = some (pcM x)) (_ : (i : Int) < ((l.map pcM).length : Int)) (hn : n ≤ 12) (Q : VE → St → Prop) (h : ∀ s, Sub (plC B) s ⟨plT l y0 false i (n + 1), plL x0 p p, 3⟩ → Q .normal s) :
    VW Tryz.prog (plC B) pilesX ⟨plT l y0 false i n, plL x0 p p, 3⟩ Q := by
  have ch := next_v p
  have cw := whole_v p (by have := sumL_bd ho2; omega)
  have hn : nextE p = (0, false) := by simp [nextE, hr]
  rw [show wholeE p = ([], false) by simp [wholeE, hr]] at cw
  rw [hn] at ch
  have c0 := samepile_v .zero .zero
  rw [decide_eq_true rfl] at c0
  have c8 := piece_v x
  have c9 := rpiece_v x
  have c10 := putS_v p x (fun y hy => by have := ho2 y hy; omega)
  rw [show putE p x = (.zero, 312) by simp [putE, hr]] at c10
  simp only [piD, piM, Pi.zero, List.map_nil, pcD, pcM, show byD ([] : List UInt8) = [] from rfl] at ch cw c0 c8 c9 c10 hx'
  cases hpc : pcB x
  all_goals
    rw [hpc] at c8 c9
    simp only [Bool.false_eq_true, if_false, if_true] at c8
    clear hpc hr
    refine vw_seq ?_
    repeat' (first | fail | fail | refine nzl ?_ | refine nzd ?_ | ((first | with_reducible refine vl_id ?_ | with_reducible refine vd_id ?_); first | refine cz (c8) ?_ | refine cz (c9) ?_ | refine cz (c10) ?_ | refine cz (c0) ?_ | refine cz (ch) ?_ | refine cz (cw) ?_) | refine nzo ?_ | refine nc ?_ ?_ | (with_reducible intro _ <;> (try (exfalso; omega))) | refine vs_eqnil ?_ | refine vs_nenil ?_ | (refine nd ?_ ?_ <;> intro hg <;> (first | (exfalso; (try simp only [decide_eq_true_eq, decide_eq_false_iff_not] at hg); omega) | rw [hg])) | fail)
    all_goals first | with_reducible refine h _ ?_ | (rename_i hz; exact absurd hz (by decide)) | (exfalso; omega) | (exfalso; rename_i hz; simp at hz; omega) | trace_state
    all_goals first | exact (sub_z) | trace_state
theorem piles_ov (B : Nat) (x0 p : Pi) (y0 l : List Pc) (i n : Nat) (x : Pc) (q : Pi) (hq : piB q = true) (hq3 : ∀ y ∈ q.parts, y.length ≤ 300) (hk : putOk q x = false) (hx' : (l.map pcM)[((i : Nat) : Int).toNat]? = some (pcM x)) (_ : (i : Int) < ((l.map pcM).length : Int)) (hn : n ≤ 12) (Q : VE → St → Prop) (h : ∀ s, Sub (plC B) s ⟨plT l y0 true i (n + 1), plL x0 p q, 3⟩ → Q .normal s) :
    VW Tryz.prog (plC B) pilesX ⟨plT l y0 true i n, plL x0 p q, 3⟩ Q := by
  have c0 := samepile_v .zero .zero
  rw [decide_eq_true rfl] at c0
  have c8 := piece_v x
  have c9 := rpiece_v x
  have c10 := putS_v q x (fun y hy => by have := hq3 y hy; omega)
  have c11 := rput_v q x hq
  rw [show putE q x = (.zero, putErr q x) by simp [putE, hq, hk]] at c10 c11
  have hne := putErr_ne q x
  generalize putErr q x = e at *
  have hqn := piB_n hq
  have hsb := sumL_bd hq3
  have ch := next_v q
  have cn : VP _ _ _ (· = .ret (i64D (rnE q))) := rnext_v q
  have cw := whole_v q (by omega)
  have cc := concat_v q.parts (by omega)
  have ce := equal_v q.parts.flatten q.parts.flatten
  rw [decide_eq_true rfl] at ce
  rcases ends_of hq with ⟨j, hj, e1, e2, e3⟩ | ⟨e1, e2, e3⟩
  all_goals
    rw [e1] at ch
    rw [e2] at cn
    rw [e3] at cw
    simp only [piD, piM, piR, Pi.zero, List.map_nil, pcD, pcM, show byD ([] : List UInt8) = [] from rfl] at c0 c8 c9 c10 c11 hx' ch cn cw
    cases hpc : pcB x
    all_goals
      rw [hpc] at c8 c9
      simp only [Bool.false_eq_true, if_false, if_true] at c8
      clear hpc hk hq
      refine vw_seq ?_
      repeat' (first | fail | fail | refine nzl ?_ | refine nzd ?_ | ((first | with_reducible refine vl_id ?_ | with_reducible refine vd_id ?_); first | refine cz (c8) ?_ | refine cz (c9) ?_ | refine cz (c10) ?_ | refine cz (c11) ?_ | refine cz (c0) ?_ | refine cz (ch) ?_ | refine cz (cn) ?_ | refine cz (cw) ?_ | refine cz (cc) ?_ | refine cz (ce) ?_) | refine nzo ?_ | refine nc ?_ ?_ | (with_reducible intro _ <;> (try (exfalso; omega))) | refine vs_eqnil ?_ | refine vs_nenil ?_ | (refine nd ?_ ?_ <;> intro hg <;> (first | (exfalso; (try simp only [decide_eq_true_eq, decide_eq_false_iff_not] at hg); omega) | rw [hg])) | fail)
      all_goals first | with_reducible refine h _ ?_ | (rename_i hz; exact absurd hz (by decide)) | (exfalso; omega) | (exfalso; rename_i hz; simp at hz; omega) | trace_state
      all_goals first | exact (sub_z) | trace_state
theorem piles_in (B : Nat) (x0 p : Pi) (y0 l : List Pc) (i n : Nat) (x : Pc) (q : Pi) (hq : piB q = true) (hq3 : ∀ y ∈ q.parts, y.length ≤ 300) (hx3 : x.b.length ≤ 300) (hk : putOk q x = true) (hx' : (l.map pcM)[((i : Nat) : Int).toNat]? = some (pcM x)) (_ : (i : Int) < ((l.map pcM).length : Int)) (_ : n ≤ 12) (Q : VE → St → Prop) (h : ∀ s, Sub (plC B) s ⟨plT l y0 true i n, plL x0 p (q.put x), 3⟩ → Q .normal s) :
    VW Tryz.prog (plC B) pilesX ⟨plT l y0 true i n, plL x0 p q, 3⟩ Q := by
  have c8 := piece_v x
  have c9 := rpiece_v x
  have c10 := putS_v q x (fun y hy => by have := hq3 y hy; omega)
  have c11 := rput_v q x hq
  rw [show putE q x = (q.put x, 0) by simp [putE, hq, hk]] at c10 c11
  have hqp := piB_put hq hk
  have hqp3 := put_le hq3 hx3
  have hpc : pcB x = true := by simp only [putOk, Bool.and_eq_true] at hk; exact hk.1
  generalize q.put x = q' at *
  have hqn := piB_n hqp
  have hsb := sumL_bd hqp3
  have ch := next_v q'
  have cn : VP _ _ _ (· = .ret (i64D (rnE q'))) := rnext_v q'
  have cw := whole_v q' (by omega)
  have cc := concat_v q'.parts (by omega)
  have ce := equal_v q'.parts.flatten q'.parts.flatten
  have c12 := samepile_v q' q'
  rw [decide_eq_true rfl] at ce c12
  rw [hpc] at c8 c9
  rcases ends_of hqp with ⟨j, hj, e1, e2, e3⟩ | ⟨e1, e2, e3⟩
  all_goals
    rw [e1] at ch
    rw [e2] at cn
    rw [e3] at cw
    simp only [piD, piM, piR, pcD, pcM, show byD ([] : List UInt8) = [] from rfl, if_true] at c8 c9 c10 c11 c12 hx' ch cn cw
    clear hpc hk hq hqp
    refine vw_seq ?_
    repeat' (first | fail | fail | refine nzl ?_ | refine nzd ?_ | ((first | with_reducible refine vl_id ?_ | with_reducible refine vd_id ?_); first | refine cz (c8) ?_ | refine cz (c9) ?_ | refine cz (c10) ?_ | refine cz (c11) ?_ | refine cz (c12) ?_ | refine cz (ch) ?_ | refine cz (cn) ?_ | refine cz (cw) ?_ | refine cz (cc) ?_ | refine cz (ce) ?_) | refine nzo ?_ | refine nc ?_ ?_ | (with_reducible intro _ <;> (try (exfalso; omega))) | refine vs_eqnil ?_ | refine vs_nenil ?_ | (refine nd ?_ ?_ <;> intro hg <;> (first | (exfalso; (try simp only [decide_eq_true_eq, decide_eq_false_iff_not] at hg); omega) | rw [hg])) | fail)
    all_goals first | with_reducible refine h _ ?_ | (rename_i hz; exact absurd hz (by decide)) | (exfalso; omega) | (exfalso; rename_i hz; simp at hz; omega) | trace_state
    all_goals first | exact (sub_z) | trace_state
end Go.Proofs.YtkjpcjccddggoaaGreat
