/- Walks by data and names, part 49: Layer 21, by V: piles, by the reference; Next, Whole. Layer 21, by V: which piles may be, by the reference; arguments in memory of their own. Layer 21, by V: the law's arguments in memory of their own. -/
import Derived.Test.YtkjpcjccddggoaaGreatPk44
namespace Go.Proofs.YtkjpcjccddggoaaGreat
open Go.RowKit
set_option maxRecDepth 10000
set_option maxHeartbeats 4000000
def ncB (x : List UInt8) : Bool := !comeB x
theorem ncB_t {x : List UInt8} (h : x.length = 0) : ncB x = true := by simp [ncB, comeB, h]
theorem ncB_f {x : List UInt8} (h : x.length ≠ 0) : ncB x = false := by simp only [ncB, comeB]; rw [decide_eq_true (by omega)]; rfl
theorem idxP_cons (p : List UInt8 → Bool) (i : Nat) (x : List UInt8) (l : List (List UInt8)) : idxP p i (x :: l) = if p x then (i : Int) else idxP p (i + 1) l := rfl
theorem ncome_v' (b : List UInt8) : VP Tryz.prog 55 [bsD b] (· = .ret (.lit (.bool (ncB b)))) := ncome_v b
theorem rpart_g (i m n : Int) (hi : 0 ≤ i) (hm : -9223372036854775808 ≤ m ∧ m ≤ 9223372036854775807) (hi2 : i ≤ 9223372036854775806) : VP Tryz.prog 83 [i64D i, i64D m, i64D n] (· = .ret (.lit (.bool (partB i m n)))) := by
  by_cases h : m = -9223372036854775808
  · subst h
    have hw : IntKind.i64.wrap (-9223372036854775808 - 1) = 9223372036854775807 := by decide
    refine vp_of Tryz.func83 rfl Tryz.ntmps83 rfl Tryz.results83 fun B => ?_
    repeat' (first | rw [hw] | fail | refine nzl ?_ | refine nzd ?_ | ((first | with_reducible refine vl_id ?_ | with_reducible refine vd_id ?_); first | fail) | refine nzo ?_ | refine nc ?_ ?_ | (with_reducible intro _ <;> (try (exfalso; omega))) | refine vs_eqnil ?_ | refine vs_nenil ?_ | (refine nd ?_ ?_ <;> intro hg <;> (first | (exfalso; (try simp only [decide_eq_true_eq, decide_eq_false_iff_not] at hg); omega) | rw [hg])) | fail)
    all_goals first | (exfalso; omega) | (simp [partB, *]; fail_if_success (focus skip)) | (simp [partB, *]; omega) | trace_state
  · refine vp_of Tryz.func83 rfl Tryz.ntmps83 rfl Tryz.results83 fun B => ?_
    repeat' (first | fail | fail | refine nzl ?_ | refine nzd ?_ | ((first | with_reducible refine vl_id ?_ | with_reducible refine vd_id ?_); first | fail) | refine nzo ?_ | refine nc ?_ ?_ | (with_reducible intro _ <;> (try (exfalso; omega))) | refine vs_eqnil ?_ | refine vs_nenil ?_ | (refine nd ?_ ?_ <;> intro hg <;> (first | (exfalso; (try simp only [decide_eq_true_eq, decide_eq_false_iff_not] at hg); omega) | rw [hg])) | fail)
    all_goals simp [partB, *]
theorem rnext_v (p : Pi) : VP Tryz.prog 33 [.agg (piD p)] (· = .ret (i64D (if 0 ≤ idxP ncB 0 p.parts then idxP ncB 0 p.parts else if p.many = 0 then 0 else -1))) := by
  simp only [piD]
  refine vp_of Tryz.func33 rfl Tryz.ntmps33 rfl Tryz.results33 fun B => ?_
  repeat' (first | fail | fail | refine nzl ?_ | refine nzd ?_ | ((first | with_reducible refine vl_id ?_ | with_reducible refine vd_id ?_); first | fail) | refine nzo ?_ | refine nc ?_ ?_ | (with_reducible intro _ <;> (try (exfalso; omega))) | refine vs_eqnil ?_ | refine vs_nenil ?_ | (refine nd ?_ ?_ <;> intro hg <;> (first | (exfalso; (try simp only [decide_eq_true_eq, decide_eq_false_iff_not] at hg); omega) | rw [hg])) | fail)
  refine vw_each 6 p.parts fD (fun (i : Nat) (_ : Unit) => ⟨[(8, I .i64 i), (7, I .i64 (p.parts.map fD).length), (6, .d (.sl false false (p.parts.map fD))), (1, .ptr 0 0)], [.c 0 0 [.d (u64D p.snap), .d (i64D p.many), .d (.sl false false (p.parts.map fD))]], 1⟩) (fun i _ => idxP ncB 0 p.parts = idxP ncB i (p.parts.drop i)) () (sub_z) rfl (fun i y x hT hi hx hx' hlt hlm hlen hdr => ?_) (fun y hT hlt hlm => ?_)
  · rw [hdr] at hT
    have hxl := byD_len x
    repeat' (first | fail | fail | refine nzl ?_ | refine nzd ?_ | ((first | with_reducible refine vl_id ?_ | with_reducible refine vd_id ?_); first | fail) | refine nzo ?_ | refine nc ?_ ?_ | (with_reducible intro _ <;> (try (exfalso; omega))) | refine vs_eqnil ?_ | refine vs_nenil ?_ | (refine nd ?_ ?_ <;> intro hg <;> (first | (exfalso; (try simp only [decide_eq_true_eq, decide_eq_false_iff_not] at hg); omega) | rw [hg])) | fail)
    · have h0 : idxP ncB 0 p.parts = i := by rw [hT, idxP_cons, if_pos (ncB_t (by omega))]
      rw [h0, if_pos (by omega)]
    · refine nx_each () hi ?_ (sub_z); rw [hT, idxP_cons, if_neg (by rw [ncB_f (by omega)]; simp)]
  · have h0 : idxP ncB 0 p.parts = -1 := by rw [hT, List.drop_of_length_le (Nat.le_refl _)]; rfl
    rw [h0]
    repeat' (first | fail | fail | refine nzl ?_ | refine nzd ?_ | ((first | with_reducible refine vl_id ?_ | with_reducible refine vd_id ?_); first | fail) | refine nzo ?_ | refine nc ?_ ?_ | (with_reducible intro _ <;> (try (exfalso; omega))) | refine vs_eqnil ?_ | refine vs_nenil ?_ | (refine nd ?_ ?_ <;> intro hg <;> (first | (exfalso; (try simp only [decide_eq_true_eq, decide_eq_false_iff_not] at hg); omega) | rw [hg])) | fail)
    · rename_i hm; rw [if_neg (by omega), if_pos hm]
    · rename_i hm; rw [if_neg (by omega), if_neg hm]
theorem samepile_v (p q : Pi) : VP Tryz.prog 32 [.agg (piD p), .agg (piD q)] (· = .ret (.lit (.bool (decide (p = q))))) := by
  have hpq : p = q ↔ p.snap = q.snap ∧ p.many = q.many ∧ p.parts = q.parts := by cases p; cases q; simp
  have hl1 : (p.parts.map fD).length = p.parts.length := List.length_map _
  have hl2 : (q.parts.map fD).length = q.parts.length := List.length_map _
  simp only [piD]
  refine vp_of Tryz.func32 rfl Tryz.ntmps32 rfl Tryz.results32 fun B => ?_
  repeat' (first | fail | fail | refine nzl ?_ | refine nzd ?_ | ((first | with_reducible refine vl_id ?_ | with_reducible refine vd_id ?_); first | fail) | refine nzo ?_ | refine nc ?_ ?_ | (with_reducible intro _ <;> (try (exfalso; omega))) | refine vs_eqnil ?_ | refine vs_nenil ?_ | (refine nd ?_ ?_ <;> intro hg <;> (first | (exfalso; (try simp only [decide_eq_true_eq, decide_eq_false_iff_not] at hg); omega) | rw [hg])) | fail)
  all_goals first | (rw [decide_eq_false (fun h => by obtain ⟨h1, h2, h3⟩ := hpq.1 h; have := congrArg List.length h3; omega)]; fail_if_success (focus skip)) | skip
  rename_i hs hm hl
  have hs : p.snap = q.snap := by omega
  have hm : p.many = q.many := by omega
  have hd : decide (p = q) = decide (p.parts = q.parts) := by simp [hpq, hs, hm]
  rw [hd]
  refine vw_each 29 p.parts fD (fun (i : Nat) (_ : Unit) => ⟨[(31, I .i64 i), (30, I .i64 (p.parts.map fD).length), (29, .d (.sl false false (p.parts.map fD))), (3, .ptr 1 0)], [.c 1 0 [.d (u64D q.snap), .d (i64D q.many), .d (.sl false false (q.parts.map fD))]], 2⟩) (fun i _ => decide (p.parts = q.parts) = decide (p.parts.drop i = q.parts.drop i)) () (sub_z) rfl (fun i y x hT hi hx hx' hlt hlm hlen hdr => ?_) (fun y hT hlt hlm => ?_)
  · have hlb : i < q.parts.length := by omega
    have hb' : q.parts[i]? = some q.parts[i] := List.getElem?_eq_getElem hlb
    have hbd := List.drop_eq_getElem_cons hlb
    generalize q.parts[i] = z at *
    have hbx : (q.parts.map fD)[((i : Nat) : Int).toNat]? = some (fD z) := by simp [hb']
    have c := same01_v x z
    rw [hdr, hbd] at hT
    repeat' (first | fail | fail | refine nzl ?_ | refine nzd ?_ | ((first | with_reducible refine vl_id ?_ | with_reducible refine vd_id ?_); first | refine cz (c) ?_) | refine nzo ?_ | refine nc ?_ ?_ | (with_reducible intro _ <;> (try (exfalso; omega))) | refine vs_eqnil ?_ | refine vs_nenil ?_ | (refine nd ?_ ?_ <;> intro hg <;> (first | (exfalso; (try simp only [decide_eq_true_eq, decide_eq_false_iff_not] at hg); omega) | rw [hg])) | fail)
    · rename_i hne; rw [hT]; simp_all
    · rename_i heq; refine nx_each () hi ?_ (sub_z)
      rw [hT]; simp_all
  · repeat' (first | fail | fail | refine nzl ?_ | refine nzd ?_ | ((first | with_reducible refine vl_id ?_ | with_reducible refine vd_id ?_); first | fail) | refine nzo ?_ | refine nc ?_ ?_ | (with_reducible intro _ <;> (try (exfalso; omega))) | refine vs_eqnil ?_ | refine vs_nenil ?_ | (refine nd ?_ ?_ <;> intro hg <;> (first | (exfalso; (try simp only [decide_eq_true_eq, decide_eq_false_iff_not] at hg); omega) | rw [hg])) | fail)
    rw [hT, List.drop_of_length_le (Nat.le_refl _), List.drop_of_length_le (by omega)]; rfl
def nextE (p : Pi) : Int × Bool := if piB p = false then (0, false) else if p.many = 0 then (0, true) else (max (idxP ncB 0 p.parts) 0, decide (0 ≤ idxP ncB 0 p.parts))
theorem next_v (p : Pi) : VP Tryz.prog 12 [.agg (piD p)] (· = .ret (.tup [i64D (nextE p).1, .lit (.bool (nextE p).2)])) := by
  have cc := chk_v p
  have ci := idxF_v (ca := []) p.parts ncB ncome_v'
  unfold nextE
  generalize idxP ncB 0 p.parts = j at *
  cases hb : piB p with
  | false =>
    rw [hb] at cc
    simp only [piD, Bool.false_eq_true, if_false, if_true] at cc ⊢
    refine vp_of Tryz.func12 rfl Tryz.ntmps12 rfl Tryz.results12 fun B => ?_
    repeat' (first | fail | fail | refine nzl ?_ | refine nzd ?_ | ((first | with_reducible refine vl_id ?_ | with_reducible refine vd_id ?_); first | refine cz (cc) ?_) | refine nzo ?_ | refine nc ?_ ?_ | (with_reducible intro _ <;> (try (exfalso; omega))) | refine vs_eqnil ?_ | refine vs_nenil ?_ | (refine nd ?_ ?_ <;> intro hg <;> (first | (exfalso; (try simp only [decide_eq_true_eq, decide_eq_false_iff_not] at hg); omega) | rw [hg])) | fail)
    all_goals first | rfl | trace_state
  | true =>
    rw [hb] at cc
    simp only [piD, if_true] at cc ⊢
    refine vp_of Tryz.func12 rfl Tryz.ntmps12 rfl Tryz.results12 fun B => ?_
    repeat' (first | fail | fail | refine nzl ?_ | refine nzd ?_ | ((first | with_reducible refine vl_id ?_ | with_reducible refine vd_id ?_); first | refine cz (cc) ?_ | refine cz (ci) ?_) | refine nzo ?_ | refine nc ?_ ?_ | (with_reducible intro _ <;> (try (exfalso; omega))) | refine vs_eqnil ?_ | refine vs_nenil ?_ | (refine nd ?_ ?_ <;> intro hg <;> (first | (exfalso; (try simp only [decide_eq_true_eq, decide_eq_false_iff_not] at hg); omega) | rw [hg])) | fail)
    all_goals (simp_all; try omega)
def wholeE (p : Pi) : List UInt8 × Bool := if (nextE p).2 = true ∨ piB p = false then ([], false) else (p.parts.flatten, true)
theorem whole_v (p : Pi) (h : sumL p.parts ≤ 140737488355328) : VP Tryz.prog 13 [.agg (piD p)] (· = .ret (.tup [.sl false true (byD (wholeE p).1), .lit (.bool (wholeE p).2)])) := by
  have cc := chk_v p
  have cn := next_v p
  have ct := concat_v p.parts h
  unfold wholeE
  obtain ⟨⟨n1, n2⟩, hn⟩ : ∃ z, nextE p = z := ⟨_, rfl⟩
  rw [hn] at cn ⊢
  generalize piB p = r at *
  refine VP.le ?_
  simp only [piD] at cc cn ⊢
  cases n2 <;> cases r <;> simp only [Bool.false_eq_true, if_false, if_true, or_true, true_or, or_self] at cc cn ⊢
  all_goals
    refine vp_of Tryz.func13 rfl Tryz.ntmps13 rfl Tryz.results13 fun B => ?_
    repeat' (first | fail | fail | refine nzl ?_ | refine nzd ?_ | ((first | with_reducible refine vl_id ?_ | with_reducible refine vd_id ?_); first | refine cz (cc) ?_ | refine cz (cn) ?_ | refine cz (ct) ?_) | refine nzo ?_ | refine nc ?_ ?_ | (with_reducible intro _ <;> (try (exfalso; omega))) | refine vs_eqnil ?_ | refine vs_nenil ?_ | (refine nd ?_ ?_ <;> intro hg <;> (first | (exfalso; (try simp only [decide_eq_true_eq, decide_eq_false_iff_not] at hg); omega) | rw [hg])) | fail)
  all_goals first | exact de_refl _ | (simp only [byD, List.map_nil, leR]; infer_instance) | trace_state
end Go.Proofs.YtkjpcjccddggoaaGreat

namespace Go.Proofs.YtkjpcjccddggoaaGreat
open Go.RowKit
set_option maxRecDepth 10000
set_option maxHeartbeats 4000000
theorem any_idx : ∀ (l : List (List UInt8)) (i : Nat), l.any comeB = decide (0 ≤ idxP comeB i l)
  | [], i => by simp [idxP]
  | x :: l, i => by
    rw [List.any_cons, any_idx l (i + 1), idxP_cons]
    cases h : comeB x <;> simp
theorem rpile_v (p : Pi) (hm : -9223372036854775808 ≤ p.many ∧ p.many ≤ 9223372036854775807) : VP Tryz.prog 28 [.agg (piD p)] (· = .ret (.lit (.bool (piB p)))) := by
  have hl1 : (p.parts.map fD).length = p.parts.length := List.length_map _
  have cn := rsnap_v p.snap
  simp only [piD]
  refine vp_of Tryz.func28 rfl Tryz.ntmps28 rfl Tryz.results28 fun B => ?_
  repeat' (first | fail | fail | refine nzl ?_ | refine nzd ?_ | ((first | with_reducible refine vl_id ?_ | with_reducible refine vd_id ?_); first | fail) | refine nzo ?_ | refine nc ?_ ?_ | (with_reducible intro _ <;> (try (exfalso; omega))) | refine vs_eqnil ?_ | refine vs_nenil ?_ | (refine nd ?_ ?_ <;> intro hg <;> (first | (exfalso; (try simp only [decide_eq_true_eq, decide_eq_false_iff_not] at hg); omega) | rw [hg])) | fail)
  · rename_i h1 h2; simp [piB, piZ, h1, h2, numB]
  · rename_i h1 h2; simp [piB, piZ, h1, h2, numB]
  rename_i h1
  have hp : piB p = (numB p.snap && decide (1 ≤ p.many) && decide (p.many ≤ 64) && decide ((p.parts.length : Int) = p.many) && !anyI (wrongB p.many) 0 p.parts && decide (0 ≤ idxP comeB 0 p.parts)) := by simp [piB, piZ, h1]
  rw [hp]
  clear hp
  generalize hA : anyI (wrongB p.many) 0 p.parts = A at *
  refine vw_each 19 p.parts fD (fun (i : Nat) (_ : Unit) => ⟨[(21, I .i64 i), (20, I .i64 (p.parts.map fD).length), (19, .d (.sl false false (p.parts.map fD))), (3, .d (.lit (.bool ((p.parts.take i).any comeB)))), (1, .ptr 0 0)], [.c 0 0 [.d (u64D p.snap), .d (i64D p.many), .d (.sl false false (p.parts.map fD))]], 1⟩) (fun i _ => A = anyI (wrongB p.many) i (p.parts.drop i)) () (sub_z) hA.symm (fun i y x hT hi hx hx' hlt hlm hlen hdr => ?_) (fun y hT hlt hlm => ?_)
  · have hxl := byD_len x
    have htk : (p.parts.take (i + 1)).any comeB = ((p.parts.take i).any comeB || comeB x) := by rw [List.take_add_one, hx]; simp
    have c := rpart_g i p.many (byD x).length (by omega) hm (by omega)
    rw [hxl] at c
    obtain ⟨r2, hr2⟩ : ∃ r, partB i p.many x.length = r := ⟨_, rfl⟩
    have hT2 : A = ((comeB x && !r2) || anyI (wrongB p.many) (i + 1) (p.parts.drop (i + 1))) := by rw [hT, hdr]; simp only [anyI, wrongB, hr2]
    rw [hr2] at c
    rw [← hxl] at c
    have hcm : comeB x = decide (0 < ((byD x).length : Int)) := by rw [hxl]; simp [comeB]
    rw [hcm] at htk hT2
    generalize (p.parts.take i).any comeB = r at *
    clear hr2 hT
    cases r
    · simp only [Bool.false_or] at htk
      repeat' (first | fail | fail | refine nzl ?_ | refine nzd ?_ | ((first | with_reducible refine vl_id ?_ | with_reducible refine vd_id ?_); first | refine cz (c) ?_) | refine nzo ?_ | refine nc ?_ ?_ | (with_reducible intro _ <;> (try (exfalso; omega))) | refine vs_eqnil ?_ | refine vs_nenil ?_ | (refine nd ?_ ?_ <;> intro hg <;> (first | (exfalso; (try simp only [decide_eq_true_eq, decide_eq_false_iff_not] at hg); omega) | rw [hg])) | fail)
      all_goals first | (refine nx_each () hi (by rw [hT2]; simp_all) ?_; rw [htk]; exact (sub_z)) | (simp_all; fail_if_success (focus skip)) | trace_state
    · simp only [Bool.true_or] at htk
      repeat' (first | fail | fail | refine nzl ?_ | refine nzd ?_ | ((first | with_reducible refine vl_id ?_ | with_reducible refine vd_id ?_); first | refine cz (c) ?_) | refine nzo ?_ | refine nc ?_ ?_ | (with_reducible intro _ <;> (try (exfalso; omega))) | refine vs_eqnil ?_ | refine vs_nenil ?_ | (refine nd ?_ ?_ <;> intro hg <;> (first | (exfalso; (try simp only [decide_eq_true_eq, decide_eq_false_iff_not] at hg); omega) | rw [hg])) | fail)
      all_goals first | (refine nx_each () hi (by rw [hT2]; simp_all) ?_; rw [htk]; exact (sub_z)) | (simp_all; fail_if_success (focus skip)) | trace_state
  · have hd : A = false := by rw [hT, List.drop_of_length_le (Nat.le_refl _)]; rfl
    rw [List.take_of_length_le (Nat.le_refl _), any_idx _ 0]
    generalize idxP comeB 0 p.parts = j at *
    repeat' (first | fail | fail | refine nzl ?_ | refine nzd ?_ | ((first | with_reducible refine vl_id ?_ | with_reducible refine vd_id ?_); first | refine cz (cn) ?_) | refine nzo ?_ | refine nc ?_ ?_ | (with_reducible intro _ <;> (try (exfalso; omega))) | refine vs_eqnil ?_ | refine vs_nenil ?_ | (refine nd ?_ ?_ <;> intro hg <;> (first | (exfalso; (try simp only [decide_eq_true_eq, decide_eq_false_iff_not] at hg); omega) | rw [hg])) | fail)
    all_goals first | (simp_all; fail_if_success (focus skip)) | (simp_all; omega) | trace_state
end Go.Proofs.YtkjpcjccddggoaaGreat

namespace Go.Proofs.YtkjpcjccddggoaaGreat
open Go.RowKit
set_option maxRecDepth 10000
set_option maxHeartbeats 4000000
instance (l : List Pc) : DLss (l.map pcD) (l.map pcD) := dlss_map l _ _ (fun _ => inferInstance) (fun _ => rfl)
def cutPc (p : Pc) : Pc := { p with b := p.b.take 300 }
def fewL (l : List Pc) : List Pc := (l.take 12).map cutPc
abbrev pcM (p : Pc) : List D := [u64D p.snap, i64D p.idx, i64D p.many, .sl false true (byD p.b)]
abbrev fM (b : List UInt8) : List D := [.sl false true (byD b)]
theorem cutT (b : List UInt8) (n : Nat) : cutL none (some (min ((byD b).length : Int) (n : Int))) (byD b) = byD (b.take n) := cutM _ b n
theorem few_v (l : List Pc) : VP Tryz.prog 27 [.sl false false (l.map pcD)] (· = .ret (.sl false true ((fewL l).map pcM))) := by
  refine VP.le ?_
  refine vp_of Tryz.func27 rfl Tryz.ntmps27 rfl Tryz.results27 fun B => ?_
  have hlm : (l.map pcD).length = l.length := List.length_map _
  have hcut := cutM pcD l 12
  have hml : (l.take 12).length ≤ 12 := by simp; omega
  unfold fewL
  rw [show ((12 : Nat) : Int) = 12 from rfl] at hcut
  repeat' (first | rw [hcut] | fail | refine nzl ?_ | refine nzd ?_ | ((first | with_reducible refine vl_id ?_ | with_reducible refine vd_id ?_); first | fail) | refine nzo ?_ | refine nc ?_ ?_ | (with_reducible intro _ <;> (try (exfalso; omega))) | refine vs_eqnil ?_ | refine vs_nenil ?_ | (refine nd ?_ ?_ <;> intro hg <;> (first | (exfalso; (try simp only [decide_eq_true_eq, decide_eq_false_iff_not] at hg); omega) | rw [hg])) | fail)
  clear hcut
  generalize l.take 12 = m at *
  refine vw_nilT 3 35 4 rfl ?_
  refine vw_each 10 m pcD (fun (i : Nat) (_ : Unit) => ⟨[(12, I .i64 i), (11, I .i64 (m.map pcD).length), (10, .d (.sl false false (m.map pcD))), (3, .row 0 0)], [.r true true 0 0 35 4 (((m.take i).map cutPc).map pcM)], 1⟩) (fun i _ => True) () (sub_z) trivial (fun i y x hT hi hx hx' hlt hlm hlen hdr => ?_) (fun y hT hlt hlm => ?_)
  · have htk : m.take (i + 1) = m.take i ++ [x] := by rw [List.take_add_one, hx]; rfl
    have htl : (((m.take i).map cutPc).map pcM).length ≤ 12 := by simp; omega
    have hbl := byD_len x.b
    have hct := cutT x.b 300
    rw [show ((300 : Nat) : Int) = 300 from rfl] at hct
    have c := clone_v (x.b.take 300) (by simp; omega)
    simp only [pcD] at hx'
    repeat' (first | fail | fail | refine nzl ?_ | refine nzd ?_ | ((first | with_reducible refine vl_id ?_ | with_reducible refine vd_id ?_); first | (rw [hct]; first | refine cz (c) ?_)) | refine nzo ?_ | refine nc ?_ ?_ | (with_reducible intro _ <;> (try (exfalso; omega))) | refine vs_eqnil ?_ | refine vs_nenil ?_ | (refine nd ?_ ?_ <;> intro hg <;> (first | (exfalso; (try simp only [decide_eq_true_eq, decide_eq_false_iff_not] at hg); omega) | rw [hg])) | fail)
    refine nx_each () hi trivial ?_
    simp only [htk, List.map_append, List.map_cons, List.map_nil]
    exact (sub_zr [(0, _, _)])
  · repeat' (first | fail | fail | refine nzl ?_ | refine nzd ?_ | ((first | with_reducible refine vl_id ?_ | with_reducible refine vd_id ?_); first | fail) | refine nzo ?_ | refine nc ?_ ?_ | (with_reducible intro _ <;> (try (exfalso; omega))) | refine vs_eqnil ?_ | refine vs_nenil ?_ | (refine nd ?_ ?_ <;> intro hg <;> (first | (exfalso; (try simp only [decide_eq_true_eq, decide_eq_false_iff_not] at hg); omega) | rw [hg])) | fail)
    rw [List.take_of_length_le (Nat.le_refl _)]
    exact de_refl _
def Pi.own (p : Pi) : Pi := { p with parts := (p.parts.take 66).map (·.take 300) }
abbrev piM (p : Pi) : List D := [u64D p.snap, i64D p.many, .sl false true (p.parts.map fM)]
theorem own_v (p : Pi) : VP Tryz.prog 26 [.agg (piD p)] (· = .ret (.agg (piM p.own))) := by
  refine VP.le ?_
  simp only [piD]
  refine vp_of Tryz.func26 rfl Tryz.ntmps26 rfl Tryz.results26 fun B => ?_
  have hlm : (p.parts.map fD).length = p.parts.length := List.length_map _
  have hcut := cutM fD p.parts 66
  have hml : (p.parts.take 66).length ≤ 66 := by simp; omega
  unfold Pi.own
  rw [show ((66 : Nat) : Int) = 66 from rfl] at hcut
  repeat' (first | rw [hcut] | fail | refine nzl ?_ | refine nzd ?_ | ((first | with_reducible refine vl_id ?_ | with_reducible refine vd_id ?_); first | fail) | refine nzo ?_ | refine nc ?_ ?_ | (with_reducible intro _ <;> (try (exfalso; omega))) | refine vs_eqnil ?_ | refine vs_nenil ?_ | (refine nd ?_ ?_ <;> intro hg <;> (first | (exfalso; (try simp only [decide_eq_true_eq, decide_eq_false_iff_not] at hg); omega) | rw [hg])) | fail)
  clear hcut
  generalize p.parts.take 66 = m at *
  refine vw_nilC 0 2 23 1 rfl ?_
  refine vw_each 14 m fD (fun (i : Nat) (_ : Unit) => ⟨[(16, I .i64 i), (15, I .i64 (m.map fD).length), (14, .d (.sl false false (m.map fD))), (2, .ptr 1 0), (1, .ptr 0 0)], [.c 0 0 [.d (u64D p.snap), .d (i64D p.many), .row 2 0], .c 1 0 [.d (u64D 0), .d (i64D 0), .d (.lit (.slice none 0 0))], .r true true 2 0 23 1 (((m.take i).map (·.take 300)).map fM)], 3⟩) (fun i _ => True) () (sub_zr [(2, _, _)]) trivial (fun i y x hT hi hx hx' hlt hlm hlen hdr => ?_) (fun y hT hlt hlm => ?_)
  · have htk : m.take (i + 1) = m.take i ++ [x] := by rw [List.take_add_one, hx]; rfl
    have htl : (((m.take i).map (·.take 300)).map fM).length ≤ 66 := by simp; omega
    have hbl := byD_len x
    have hct := cutT x 300
    rw [show ((300 : Nat) : Int) = 300 from rfl] at hct
    have c := clone_v (x.take 300) (by simp; omega)
    repeat' (first | fail | fail | refine nzl ?_ | refine nzd ?_ | ((first | with_reducible refine vl_id ?_ | with_reducible refine vd_id ?_); first | (rw [hct]; first | refine cz (c) ?_)) | refine nzo ?_ | refine nc ?_ ?_ | (with_reducible intro _ <;> (try (exfalso; omega))) | refine vs_eqnil ?_ | refine vs_nenil ?_ | (refine nd ?_ ?_ <;> intro hg <;> (first | (exfalso; (try simp only [decide_eq_true_eq, decide_eq_false_iff_not] at hg); omega) | rw [hg])) | fail)
    refine nx_each () hi trivial ?_
    simp only [htk, List.map_append, List.map_cons, List.map_nil]
    exact (sub_zr [(2, _, _)])
  · repeat' (first | fail | fail | refine nzl ?_ | refine nzd ?_ | ((first | with_reducible refine vl_id ?_ | with_reducible refine vd_id ?_); first | fail) | refine nzo ?_ | refine nc ?_ ?_ | (with_reducible intro _ <;> (try (exfalso; omega))) | refine vs_eqnil ?_ | refine vs_nenil ?_ | (refine nd ?_ ?_ <;> intro hg <;> (first | (exfalso; (try simp only [decide_eq_true_eq, decide_eq_false_iff_not] at hg); omega) | rw [hg])) | fail)
    rw [List.take_of_length_le (Nat.le_refl _)]
    exact de_refl _
end Go.Proofs.YtkjpcjccddggoaaGreat

namespace Go.Proofs.YtkjpcjccddggoaaGreat
open Go.RowKit
set_option maxRecDepth 10000
set_option maxHeartbeats 4000000
abbrev nilE : List D := [.lit (.slice none 0 0)]
/-- so many have been cloned -/
def clN (l : List (List UInt8)) (i : Nat) : List (List D) := (l.take i).map fM ++ List.replicate (l.length - i) nilE
theorem clN_0 (l : List (List UInt8)) : clN l 0 = List.replicate l.length nilE := by simp [clN]
theorem clN_n (l : List (List UInt8)) : clN l l.length = l.map fM := by simp [clN]
theorem clN_len (l : List (List UInt8)) (i : Nat) (h : i ≤ l.length) : (clN l i).length = l.length := by simp [clN]; omega
theorem clN_get (l : List (List UInt8)) (i : Nat) (h : i < l.length) : (clN l i)[i]? = some nilE := by
  have hl : ((l.take i).map fM).length = i := by simp; omega
  rw [clN, List.getElem?_append_right (by omega), hl, Nat.sub_self, List.getElem?_replicate, if_pos (by omega)]
theorem clN_set (l : List (List UInt8)) (i : Nat) (x : List UInt8) (h : l[i]? = some x) : (clN l i).set i (fM x) = clN l (i + 1) := by
  have hi := (List.getElem?_eq_some_iff.1 h).1
  have hl : ((l.take i).map fM).length = i := by simp; omega
  rw [clN, List.set_append_right _ _ (by omega), hl, Nat.sub_self, show l.length - i = (l.length - (i + 1)) + 1 by omega, List.replicate_succ, List.set_cons_zero, clN, List.take_add_one, h]
  simp
theorem of_v (p : Pi) (hp : piB p = true) (hb : ∀ x ∈ p.parts, x.length ≤ 1000000) (hn : p.parts.length ≤ 1000) : VM1 Tryz.prog 46 0 [.d (.agg (piD p))] [] 0 (.ret (.ptr 2 0)) [.c 2 0 [.d (u64D p.snap), .d (i64D p.many), .row 1 0], .r true true 1 0 23 1 (p.parts.map fM)] 3 := by
  have cc := chk_v p
  have hlm : (p.parts.map fD).length = p.parts.length := List.length_map _
  rw [hp] at cc
  simp only [if_true] at cc
  refine vm1_of Tryz.func46 rfl Tryz.ntmps46 Tryz.results46 fun B M => ?_
  simp only [piD] at cc ⊢
  repeat' (first | fail | fail | refine nzl ?_ | refine nzd ?_ | ((first | with_reducible refine vl_id ?_ | with_reducible refine vd_id ?_); first | refine cz (cc) ?_ | (refine vq_l (need_ok 312) ?_; first | refine vs_call (need_ok 312) ?_ | refine vs_pan (need_no 312) ?_ | (refine vs_cifp (need_if _ 312) ?_ ?_ <;> intro _ <;> (try (exfalso; omega))) | (refine vs_cif (need_if _ 312) ?_ ?_ <;> intro _))) | refine nzo ?_ | refine nc ?_ ?_ | (with_reducible intro _ <;> (try (exfalso; omega))) | refine vs_eqnil ?_ | refine vs_nenil ?_ | (refine nd ?_ ?_ <;> intro hg <;> (first | (exfalso; (try simp only [decide_eq_true_eq, decide_eq_false_iff_not] at hg); omega) | rw [hg])) | fail)
  rw [show List.replicate ((p.parts.map fD).length : Int).toNat (List.map D.lit [Value.slice none 0 0]) = clN p.parts 0 by rw [clN_0, hlm]; rfl]
  refine vw_each 22 p.parts fD (fun (i : Nat) (_ : Unit) => ⟨[(24, I .i64 i), (23, I .i64 (p.parts.map fD).length), (22, .d (.sl false false (p.parts.map fD))), (3, .ptr 2 0)], [.c 2 0 [.d (u64D p.snap), .d (i64D p.many), .row 1 0], .r true true 1 0 23 1 (clN p.parts i)], 3⟩) (fun i _ => True) () (sub_zr [(1, _, _)]) trivial (fun i y x hT hi hx hx' hlt hlm hlen hdr => ?_) (fun y hT hlt hlm => ?_)
  · have hg : (clN p.parts i)[((i : Nat) : Int).toNat]? = some nilE := clN_get p.parts i hi
    have hgl := clN_len p.parts i (by omega)
    have c := clone_v x (by have := hb x (List.mem_of_getElem? hx); omega)
    have hs := clN_set p.parts i x hx
    repeat' (first | fail | fail | refine nzl ?_ | refine nzd ?_ | ((first | with_reducible refine vl_id ?_ | with_reducible refine vd_id ?_); first | refine cz (c) ?_) | refine nzo ?_ | refine nc ?_ ?_ | (with_reducible intro _ <;> (try (exfalso; omega))) | refine vs_eqnil ?_ | refine vs_nenil ?_ | (refine nd ?_ ?_ <;> intro hg <;> (first | (exfalso; (try simp only [decide_eq_true_eq, decide_eq_false_iff_not] at hg); omega) | rw [hg])) | fail)
    refine nx_each () hi trivial ?_
    rw [← hs]
    exact (sub_zr [(1, _, _)])
  · repeat' (first | fail | fail | refine nzl ?_ | refine nzd ?_ | ((first | with_reducible refine vl_id ?_ | with_reducible refine vd_id ?_); first | fail) | refine nzo ?_ | refine nc ?_ ?_ | (with_reducible intro _ <;> (try (exfalso; omega))) | refine vs_eqnil ?_ | refine vs_nenil ?_ | (refine nd ?_ ?_ <;> intro hg <;> (first | (exfalso; (try simp only [decide_eq_true_eq, decide_eq_false_iff_not] at hg); omega) | rw [hg])) | fail)
    rw [clN_n]
    exact nx_sub []
end Go.Proofs.YtkjpcjccddggoaaGreat
