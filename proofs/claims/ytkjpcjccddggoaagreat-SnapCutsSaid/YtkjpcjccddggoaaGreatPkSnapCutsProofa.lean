/- What SnapCutsProof asks for, part a: Layer 21, by V: one of the pieces. Layer 21, by V: ref21.Cut. Layer 21, by V: rows of pieces compared. -/
import Derived.Test.YtkjpcjccddggoaaGreatPk51
import Derived.Test.YtkjpcjccddggoaaGreatPk49
import Derived.Test.YtkjpcjccddggoaaGreatPk27
namespace Go.Proofs.YtkjpcjccddggoaaGreat
open Go.RowKit
set_option maxRecDepth 10000
set_option maxHeartbeats 4000000
def Pc.zero : Pc := ⟨0, 0, 0, []⟩
def pceE (s : Int) (b : List UInt8) (n : Int) : Pc × Int := if (numB s && decide (0 < b.length)) = false then (.zero, 2) else if decide (manyN b ≤ 64) = false then (.zero, 3) else if 0 ≤ n ∧ n < manyN b then (pcAt s b n.toNat, 0) else (.zero, 2)
theorem pce_v (s : Int) (b : List UInt8) (n : Int) (hb : b.length ≤ 100000) : VP Tryz.prog 38 [u64D s, bsD b, i64D n] (· = .ret (.tup [.agg (pcM (pceE s b n).1), i64D (pceE s b n).2])) := by
  have hbl := byD_len b
  have cn := number_v s
  have cm := many_v (byD b).length (by omega) (by omega)
  rw [manyI_N] at cm
  refine VP.le ?_
  cases h1 : numB s && decide (0 < b.length) with
  | false =>
    have hx : numB s = true → b.length = 0 := by intro h; simpa [h] using h1
    have hc : pceE s b n = (.zero, 2) := by simp only [pceE, h1, if_true]
    rw [hc]
    refine vp_of Tryz.func38 rfl Tryz.ntmps38 rfl Tryz.results38 fun B => ?_
    repeat' (first | fail | refine vw_drawkx (id := 3) [2] ?_ | refine nzl ?_ | refine nzd ?_ | ((first | with_reducible refine vl_id ?_ | with_reducible refine vd_id ?_); first | refine cz (cn) ?_ | refine cz (cm) ?_ | (refine vq_l (need_ok 2) ?_; first | refine vs_call (need_ok 2) ?_ | refine vs_pan (need_no 2) ?_ | (refine vs_cifp (need_if _ 2) ?_ ?_ <;> intro _ <;> (try (exfalso; omega))) | (refine vs_cif (need_if _ 2) ?_ ?_ <;> intro _)) | (refine vq_l (need_ok 3) ?_; first | refine vs_call (need_ok 3) ?_ | refine vs_pan (need_no 3) ?_ | (refine vs_cifp (need_if _ 3) ?_ ?_ <;> intro _ <;> (try (exfalso; omega))) | (refine vs_cif (need_if _ 3) ?_ ?_ <;> intro _)) | refine vs_vc (hc := vc_of Tryz.func88 rfl Tryz.ntmps88 Tryz.results88 fun _ => ?_) | refine vs_vc (hc := vc_of Tryz.func41 rfl Tryz.ntmps41 Tryz.results41 fun _ => ?_) | refine vs_vc (hc := vc_tries (fd := 128) Tryz.func87 rfl Tryz.ntmps87 Tryz.results87 fun _ => ?_)) | refine nzo ?_ | refine nc ?_ ?_ | (with_reducible intro _ <;> (try (exfalso; omega))) | refine vs_eqnil ?_ | refine vs_nenil ?_ | (refine nd ?_ ?_ <;> intro hg <;> (first | (exfalso; (try simp only [decide_eq_true_eq, decide_eq_false_iff_not] at hg); omega) | rw [hg])) | refine vdf_of Tryz.func128 rfl Tryz.ntmps128 Tryz.results128 ?_)
    all_goals first | (exfalso; have := hx (by assumption); omega) | (simp only [pcM, Pc.zero, byD, List.map_nil, leR]; infer_instance) | trace_state
  | true =>
    obtain ⟨hn, hp⟩ : numB s = true ∧ 0 < b.length := by simpa using h1
    rw [hn] at cn
    by_cases h2 : manyN b ≤ 64
    · have hc : pceE s b n = if 0 ≤ n ∧ n < manyN b then (pcAt s b n.toNat, 0) else (.zero, 2) := by simp [pceE, h1, h2]
      rw [hc]
      refine vp_of Tryz.func38 rfl Tryz.ntmps38 rfl Tryz.results38 fun B => ?_
      repeat' (first | fail | fail | refine nzl ?_ | refine nzd ?_ | ((first | with_reducible refine vl_id ?_ | with_reducible refine vd_id ?_); first | refine cz (cn) ?_ | refine cz (cm) ?_ | (refine vq_l (need_ok 2) ?_; first | refine vs_call (need_ok 2) ?_ | refine vs_pan (need_no 2) ?_ | (refine vs_cifp (need_if _ 2) ?_ ?_ <;> intro _ <;> (try (exfalso; omega))) | (refine vs_cif (need_if _ 2) ?_ ?_ <;> intro _)) | (refine vq_l (need_ok 3) ?_; first | refine vs_call (need_ok 3) ?_ | refine vs_pan (need_no 3) ?_ | (refine vs_cifp (need_if _ 3) ?_ ?_ <;> intro _ <;> (try (exfalso; omega))) | (refine vs_cif (need_if _ 3) ?_ ?_ <;> intro _)) | refine vs_vc (hc := vc_of Tryz.func88 rfl Tryz.ntmps88 Tryz.results88 fun _ => ?_) | refine vs_vc (hc := vc_of Tryz.func41 rfl Tryz.ntmps41 Tryz.results41 fun _ => ?_) | refine vs_vc (hc := vc_of Tryz.func43 rfl Tryz.ntmps43 Tryz.results43 fun _ => ?_) | refine vs_vc (hc := vc_tries (fd := 128) Tryz.func87 rfl Tryz.ntmps87 Tryz.results87 fun _ => ?_)) | refine nzo ?_ | refine nc ?_ ?_ | (with_reducible intro _ <;> (try (exfalso; omega))) | refine vs_eqnil ?_ | refine vs_nenil ?_ | (refine nd ?_ ?_ <;> intro hg <;> (first | (exfalso; (try simp only [decide_eq_true_eq, decide_eq_false_iff_not] at hg); omega) | rw [hg])) | refine vdf_of Tryz.func128 rfl Tryz.ntmps128 Tryz.results128 ?_)
      refine vw_rng fun R1 T1 hOk1 => ?_
      refine vmb_of Tryz.func92 rfl Tryz.ntmps92 Tryz.results92 fun M2 => ?_
      repeat' (first | fail | fail | refine nzl ?_ | refine nzd ?_ | ((first | with_reducible refine vl_id ?_ | with_reducible refine vd_id ?_); first | refine cz (cm) ?_ | refine vs_vc (hc := vc_of Tryz.func93 rfl Tryz.ntmps93 Tryz.results93 fun _ => ?_)) | refine nzo ?_ | refine nc ?_ ?_ | (with_reducible intro _ <;> (try (exfalso; omega))) | refine vs_eqnil ?_ | refine vs_nenil ?_ | (refine nd ?_ ?_ <;> intro hg <;> (first | (exfalso; (try simp only [decide_eq_true_eq, decide_eq_false_iff_not] at hg); omega) | rw [hg])) | fail)
      refine vw_rng fun R2 T2 hOk2 => ?_
      refine vmb_of Tryz.func129 rfl Tryz.ntmps129 Tryz.results129 fun M3 => ?_
      repeat' (first | fail | fail | refine nzl ?_ | refine nzd ?_ | ((first | with_reducible refine vl_id ?_ | with_reducible refine vd_id ?_); first | fail) | refine nzo ?_ | refine nc ?_ ?_ | (with_reducible intro _ <;> (try (exfalso; omega))) | refine vs_eqnil ?_ | refine vs_nenil ?_ | (refine nd ?_ ?_ <;> intro hg <;> (first | (exfalso; (try simp only [decide_eq_true_eq, decide_eq_false_iff_not] at hg); omega) | rw [hg])) | fail)
      refine vw_loop (fun i : Nat => ⟨[(4, I .i64 ((256 * i : Nat) : Int)), (0, .yl 15), (1, .ptr 13 0), (2, .ptr 14 0)],
        [.y 15 (some R2) T2 [(35, .yl 15), (5, .ptr 12 0), (4, .ptr 11 0), (3, .ptr 10 0), (2, .ptr 7 0), (1, .ptr 8 0)], .c 14 0 [.d (i64D 256)], .c 13 0 [.d (bsD b)], .c 12 0 [I .i64 (i : Int)], .c 11 0 [.d (i64D (manyN b))], .c 10 0 [.yl 9],
          .y 9 (some R1) T1 [(18, .yl 9), (3, .ptr 6 0), (2, .ptr 2 0)], .c 8 0 [.d (bsD b)], .c 7 0 [.d (u64D s)], .c 6 0 [.d (u64D 0), .d (i64D 0), .d (i64D 0), .d (.lit (.slice none 0 0))], .c 5 0 [.d (i64D 0)],
          .c 4 0 [.d (u64D 0), .d (i64D 0), .d (i64D 0), .d (.lit (.slice none 0 0))], .c 3 0 [.d (u64D 0), .d (i64D 0), .d (i64D 0), .d (.lit (.slice none 0 0))], .c 2 0 [.d (i64D n)], .c 1 0 [.d (bsD b)], .c 0 0 [.d (u64D s)]], 16⟩) (fun i => i ≤ manyN b ∧ ¬ (0 ≤ n ∧ n < i)) (fun i => manyN b - i) 0 (sub_z) ⟨Nat.zero_le _, by omega⟩ fun i hi => ?_
      obtain ⟨hi, hni⟩ := hi
      have hD : cutL (some ((256 * i : Nat) : Int)) none (byD b) = byD (b.drop (256 * i)) := cutB _ b (256 * i)
      have hDl : (byD (b.drop (256 * i))).length = b.length - 256 * i := by rw [byD_len]; simp
      rcases Nat.lt_or_ge i (manyN b) with h | h
      · have hlt : 256 * i < b.length := by simp only [manyN] at h; omega
        have hX : cutL (some ((256 * i : Nat) : Int)) (some (((256 * i : Nat) : Int) + min 256 ((byD (b.drop (256 * i))).length : Int))) (byD b) = byD ((b.drop (256 * i)).take 256) := by
          rw [show ((256 * i : Nat) : Int) + min 256 ((byD (b.drop (256 * i))).length : Int) = ((256 * i + min 256 (b.length - 256 * i) : Nat) : Int) by rw [hDl]; omega]
          rw [cutA, List.drop_take, show 256 * i + min 256 (b.length - 256 * i) - 256 * i = min 256 (b.length - 256 * i) by omega]
          congr 1
          rw [List.take_eq_take_iff]; simp
        have hXl : ((b.drop (256 * i)).take 256).length ≤ 256 := by simp; omega
        have hXb := byD_len ((b.drop (256 * i)).take 256)
        have hpa : pcAt s b i = ⟨s, i, manyN b, (b.drop (256 * i)).take 256⟩ := rfl
        repeat' (first | rw [hD] | rw [hX] | fail | refine nzl ?_ | refine nzd ?_ | ((first | with_reducible refine vl_id ?_ | with_reducible refine vd_id ?_); first | fail) | refine nzo ?_ | refine nc ?_ ?_ | (with_reducible intro _ <;> (try (exfalso; omega))) | refine vs_eqnil ?_ | refine vs_nenil ?_ | (refine nd ?_ ?_ <;> intro hg <;> (first | (exfalso; (try simp only [decide_eq_true_eq, decide_eq_false_iff_not] at hg); omega) | rw [hg])) | fail)
        generalize (b.drop (256 * i)).take 256 = X at *
        refine vs_yield hOk2 fun _ _ => ?_
        repeat' (first | fail | fail | refine nzl ?_ | refine nzd ?_ | ((first | with_reducible refine vl_id ?_ | with_reducible refine vd_id ?_); first | fail) | ((fail_if_success (with_reducible refine vw_seq ?_)); refine nzo ?_) | refine nc ?_ ?_ | (with_reducible intro _ <;> (try (exfalso; omega))) | refine vs_eqnil ?_ | refine vs_nenil ?_ | (refine nd ?_ ?_ <;> intro hg <;> (first | (exfalso; (try simp only [decide_eq_true_eq, decide_eq_false_iff_not] at hg); omega) | rw [hg])) | fail)
        refine vw_seq ?_
        repeat' (first | fail | fail | refine nzl ?_ | refine nzd ?_ | ((first | with_reducible refine vl_id ?_ | with_reducible refine vd_id ?_); first | fail) | ((fail_if_success (with_reducible refine vw_seq ?_)); refine nzo ?_) | refine nc ?_ ?_ | (with_reducible intro _ <;> (try (exfalso; omega))) | refine vs_eqnil ?_ | refine vs_nenil ?_ | (refine nd ?_ ?_ <;> intro hg <;> (first | (exfalso; (try simp only [decide_eq_true_eq, decide_eq_false_iff_not] at hg); omega) | rw [hg])) | fail)
        refine vw_seq ?_
        repeat' (first | fail | fail | refine nzl ?_ | refine nzd ?_ | ((first | with_reducible refine vl_id ?_ | with_reducible refine vd_id ?_); first | fail) | ((fail_if_success (with_reducible refine vw_seq ?_)); refine nzo ?_) | refine nc ?_ ?_ | (with_reducible intro _ <;> (try (exfalso; omega))) | refine vs_eqnil ?_ | refine vs_nenil ?_ | (refine nd ?_ ?_ <;> intro hg <;> (first | (exfalso; (try simp only [decide_eq_true_eq, decide_eq_false_iff_not] at hg); omega) | rw [hg])) | fail)
        refine vw_frz 17 rfl ?_
        have hcX : cutL none (some ((byD X).length : Int)) (byD X) = byD X := by rw [cutL_eq]; simp; exact List.take_of_length_le (by simp)
        repeat' (first | rw [hcX] | refine vw_drawkx (id := 3) [2] ?_ | refine nzl ?_ | refine nzd ?_ | ((first | with_reducible refine vl_id ?_ | with_reducible refine vd_id ?_); first | refine vs_yield hOk1 fun _ _ => ?_) | refine nzo ?_ | refine nc ?_ ?_ | (with_reducible intro _ <;> (try (exfalso; omega))) | refine vs_eqnil ?_ | refine vs_nenil ?_ | (refine nd ?_ ?_ <;> intro hg <;> (first | (exfalso; (try simp only [decide_eq_true_eq, decide_eq_false_iff_not] at hg); omega) | rw [hg])) | refine vdf_of Tryz.func128 rfl Tryz.ntmps128 Tryz.results128 ?_)
        · have hin : (i : Int) = n := by assumption
          rw [if_pos (by omega), show n.toNat = i by omega, hpa]
          first | exact de_refl _ | (simp only [pcM, leR]; infer_instance)
        · have hin : ¬ (i : Int) = n := by assumption
          refine nx_loop (i + 1) (show i + 1 ≤ _ ∧ _ by omega) (show manyN b - (i + 1) < manyN b - i by omega) ?_
          rw [show ((256 * (i + 1) : Nat) : Int) = ((256 * i : Nat) : Int) + 256 by omega, show ((i + 1 : Nat) : Int) = (i : Int) + 1 by omega]
          exact (sub_z)
      · have hge : ¬ 256 * i < b.length := by simp only [manyN] at h; omega
        repeat' (first | fail | refine vw_drawkx (id := 3) [2] ?_ | refine nzl ?_ | refine nzd ?_ | ((first | with_reducible refine vl_id ?_ | with_reducible refine vd_id ?_); first | fail) | refine nzo ?_ | refine nc ?_ ?_ | (with_reducible intro _ <;> (try (exfalso; omega))) | refine vs_eqnil ?_ | refine vs_nenil ?_ | (refine nd ?_ ?_ <;> intro hg <;> (first | (exfalso; (try simp only [decide_eq_true_eq, decide_eq_false_iff_not] at hg); omega) | rw [hg])) | refine vdf_of Tryz.func128 rfl Tryz.ntmps128 Tryz.results128 ?_)
        rw [if_neg (by omega)]
        simp only [pcM, Pc.zero, byD, List.map_nil, leR]; infer_instance
    · have hc : pceE s b n = (.zero, 3) := by simp [pceE, h1, h2]
      rw [hc]
      refine vp_of Tryz.func38 rfl Tryz.ntmps38 rfl Tryz.results38 fun B => ?_
      repeat' (first | fail | refine vw_drawkx (id := 3) [2] ?_ | refine nzl ?_ | refine nzd ?_ | ((first | with_reducible refine vl_id ?_ | with_reducible refine vd_id ?_); first | refine cz (cn) ?_ | refine cz (cm) ?_ | (refine vq_l (need_ok 2) ?_; first | refine vs_call (need_ok 2) ?_ | refine vs_pan (need_no 2) ?_ | (refine vs_cifp (need_if _ 2) ?_ ?_ <;> intro _ <;> (try (exfalso; omega))) | (refine vs_cif (need_if _ 2) ?_ ?_ <;> intro _)) | (refine vq_l (need_ok 3) ?_; first | refine vs_call (need_ok 3) ?_ | refine vs_pan (need_no 3) ?_ | (refine vs_cifp (need_if _ 3) ?_ ?_ <;> intro _ <;> (try (exfalso; omega))) | (refine vs_cif (need_if _ 3) ?_ ?_ <;> intro _)) | refine vs_vc (hc := vc_of Tryz.func88 rfl Tryz.ntmps88 Tryz.results88 fun _ => ?_) | refine vs_vc (hc := vc_of Tryz.func41 rfl Tryz.ntmps41 Tryz.results41 fun _ => ?_) | refine vs_vc (hc := vc_tries (fd := 128) Tryz.func87 rfl Tryz.ntmps87 Tryz.results87 fun _ => ?_)) | refine nzo ?_ | refine nc ?_ ?_ | (with_reducible intro _ <;> (try (exfalso; omega))) | refine vs_eqnil ?_ | refine vs_nenil ?_ | (refine nd ?_ ?_ <;> intro hg <;> (first | (exfalso; (try simp only [decide_eq_true_eq, decide_eq_false_iff_not] at hg); omega) | rw [hg])) | refine vdf_of Tryz.func128 rfl Tryz.ntmps128 Tryz.results128 ?_)
      all_goals first | (exfalso; simp_all; omega) | (simp only [pcM, Pc.zero, byD, List.map_nil, leR]; infer_instance) | trace_state
end Go.Proofs.YtkjpcjccddggoaaGreat

namespace Go.Proofs.YtkjpcjccddggoaaGreat
open Go.RowKit
set_option maxRecDepth 10000
set_option maxHeartbeats 4000000
def preAt (s : Int) (b : List UInt8) (k : Nat) : Pc := ⟨s, k, 0, (b.drop (256 * k)).take 256⟩
def preL (s : Int) (b : List UInt8) (n : Nat) : List Pc := (List.range n).map (preAt s b)
def midL (s : Int) (b : List UInt8) (k : Nat) : List Pc := (List.range (manyN b)).map (fun j => if j < k then pcAt s b j else preAt s b j)
theorem preL_succ (s : Int) (b : List UInt8) (n : Nat) : preL s b (n + 1) = preL s b n ++ [preAt s b n] := by simp [preL, List.range_succ]
theorem midL_zero (s : Int) (b : List UInt8) : midL s b 0 = preL s b (manyN b) := by simp [midL, preL]
theorem midL_end (s : Int) (b : List UInt8) : midL s b (manyN b) = pcsOf s b := by
  unfold midL pcsOf
  apply List.map_congr_left
  intro j hj
  rw [List.mem_range] at hj
  rw [if_pos hj]
theorem midL_get (s : Int) (b : List UInt8) {k : Nat} (h : k < manyN b) : (midL s b k)[k]? = some (preAt s b k) := by
  simp [midL, h]
theorem midL_len (s : Int) (b : List UInt8) (k : Nat) : (midL s b k).length = manyN b := by simp [midL]
theorem midL_set (s : Int) (b : List UInt8) {k : Nat} (h : k < manyN b) : (midL s b k).set k (pcAt s b k) = midL s b (k + 1) := by
  apply List.ext_getElem?
  intro j
  rw [List.getElem?_set]
  by_cases hj : k = j
  · subst hj; simp [midL, h]
  · rw [if_neg hj]
    simp only [midL, List.getElem?_map]
    by_cases hjm : j < manyN b
    · rw [List.getElem?_range hjm]
      simp only [Option.map_some]
      congr 1
      by_cases hjk : j < k
      · rw [if_pos hjk, if_pos (by omega)]
      · rw [if_neg hjk, if_neg (by omega)]
    · rw [List.getElem?_eq_none (by simp; omega)]; rfl
section
variable {P : Program} {cx : Cx} {ops rest : List Oper} {tm : List (Nat × V)} {st : List E} {nb : Nat} {Q : VE → St → Prop}
/-- a slice with an end that is a number -/
theorem vs_slhi {d : Tmp} {t ty e : TypeId} {x y : Operand} {v : V} {c f : Bool} {l : List (List D)} {hi : Int} {sz by_ : Nat} {pos : String} {af : Array Edge} [hE : SlI P t e sz by_]
    (k : VL P cx ops rest ⟨(d, .d (.sl false f (cutL none (some hi) l))) :: tm, st, nb⟩ Q) (hx : evalV ⟨tm, st, nb⟩ x = some v := by rfl) (hv : slV st v = some (c, f, l) := by rfl) (hy : optV ⟨tm, st, nb⟩ (some y) = some (some hi) := by rfl)
    (h0 : 0 ≤ hi := by omega) (h1 : hi ≤ l.length := by omega) (hz : ∀ x ∈ l, x.length = sz := by assumption) (hd : Nat.blt d cx.N = true := by rfl) :
    VL P cx ops (⟨some d, .slice t x none (some y) none, ty, pos, af, none⟩ :: rest) ⟨tm, st, nb⟩ Q := vs_x k (sx_q (h := q_slice hx hv rfl hy (Int.le_refl _) h0 h1 hz) (hd := hd))
end
theorem rcut_v (s : Int) (b : List UInt8) (hb : b.length ≤ 100000) : VP Tryz.prog 37 [u64D s, bsD b] (· = .ret (.tup [.sl false true ((cutE s b).1.map pcD), i64D (cutE s b).2])) := by
  have hbl := byD_len b
  have cn := rsnap_v s
  refine VP.le ?_
  cases h1 : numB s && decide (0 < b.length) with
  | false =>
    have hx : numB s = true → b.length = 0 := by intro h; simpa [h] using h1
    have hc : cutE s b = ([], 2) := by simp only [cutE, h1, if_true]
    rw [hc]
    refine vp_of Tryz.func37 rfl Tryz.ntmps37 rfl Tryz.results37 fun B => ?_
    repeat' (first | fail | fail | refine nzl ?_ | refine nzd ?_ | ((first | with_reducible refine vl_id ?_ | with_reducible refine vd_id ?_); first | refine cz (cn) ?_) | refine nzo ?_ | refine nc ?_ ?_ | (with_reducible intro _ <;> (try (exfalso; omega))) | refine vs_eqnil ?_ | refine vs_nenil ?_ | (refine nd ?_ ?_ <;> intro hg <;> (first | (exfalso; (try simp only [decide_eq_true_eq, decide_eq_false_iff_not] at hg); omega) | rw [hg])) | fail)
    all_goals first | (exfalso; have := hx (by simp_all); omega) | (simp only [List.map_nil, leR]; infer_instance)
  | true =>
    obtain ⟨hn, hp⟩ : numB s = true ∧ 0 < b.length := by simpa using h1
    rw [hn] at cn
    by_cases h2 : manyN b ≤ 64
    · have hc : cutE s b = (pcsOf s b, 0) := by simp [cutE, h1, h2]
      have hlo : b.length ≤ 16384 := by simp only [manyN] at h2; omega
      rw [hc]
      refine vp_of Tryz.func37 rfl Tryz.ntmps37 rfl Tryz.results37 fun B => ?_
      repeat' (first | fail | fail | refine nzl ?_ | refine nzd ?_ | ((first | with_reducible refine vl_id ?_ | with_reducible refine vd_id ?_); first | refine cz (cn) ?_) | refine nzo ?_ | refine nc ?_ ?_ | (with_reducible intro _ <;> (try (exfalso; omega))) | refine vs_eqnil ?_ | refine vs_nenil ?_ | (refine nd ?_ ?_ <;> intro hg <;> (first | (exfalso; (try simp only [decide_eq_true_eq, decide_eq_false_iff_not] at hg); omega) | rw [hg])) | fail)
      refine vw_nilT 6 35 4 rfl ?_
      refine vw_loop (fun i : Nat => ⟨[(6, .row 0 0), (1, .d (bsD (b.drop (256 * i)))), (0, .d (u64D s))], [.r true true 0 0 35 4 ((preL s b i).map pcD)], 1⟩) (fun i => 256 * i < b.length) (fun i => b.length - 256 * i) 0 (sub_zr [(0, _, _)]) (show 256 * 0 < b.length by omega) fun i hi => ?_
      have hdl : (byD (b.drop (256 * i))).length = b.length - 256 * i := by rw [byD_len, List.length_drop]
      have hpl : ((preL s b i).map pcD).length = i := by simp [preL]
      have hil : i ≤ 64 := by omega
      have hpl2 : (preL s b i).length = i := by simp [preL]
      by_cases hgt : 256 < b.length - 256 * i
      · have hX : cutL none (some (256 : Int)) (byD (b.drop (256 * i))) = byD ((b.drop (256 * i)).take 256) := by rw [cutL_eq]; simp
        have hzd : ∀ x ∈ byD (b.drop (256 * i)), x.length = 1 := fun x hx => by obtain ⟨y, _, rfl⟩ := List.mem_map.1 hx; rfl
        have hY : cutL (some (256 : Int)) none (byD (b.drop (256 * i))) = byD (b.drop (256 * (i + 1))) := by
          have := cutB (fun x => [D.lit (vb x)]) (b.drop (256 * i)) 256
          rw [List.drop_drop] at this
          rw [show 256 * (i + 1) = 256 * i + 256 by omega]
          exact this
        repeat' (first | rw [hX] | rw [hY] | fail | refine nzl ?_ | refine nzd ?_ | ((first | with_reducible refine vl_id ?_ | with_reducible refine vd_id ?_); first | refine vs_slhi ?_) | refine nzo ?_ | refine nc ?_ ?_ | (with_reducible intro _ <;> (try (exfalso; omega))) | refine vs_eqnil ?_ | refine vs_nenil ?_ | (refine nd ?_ ?_ <;> intro hg <;> (first | (exfalso; (try simp only [decide_eq_true_eq, decide_eq_false_iff_not] at hg); omega) | rw [hg])) | fail)
        refine nx_loop (i + 1) (show 256 * (i + 1) < b.length by omega) (show b.length - 256 * (i + 1) < b.length - 256 * i by omega) ?_
        rw [preL_succ]
        simp only [List.map_append, List.map_cons, List.map_nil, hpl, preAt]
        exact (sub_zr [(0, _, _)])
      · have hN : manyN b = i + 1 := by simp only [manyN]; omega
        have hlast : b.drop (256 * i) = (b.drop (256 * i)).take 256 := by rw [List.take_of_length_le (by simp; omega)]
        repeat' (first | fail | fail | refine nzl ?_ | refine nzd ?_ | ((first | with_reducible refine vl_id ?_ | with_reducible refine vd_id ?_); first | fail) | refine nzo ?_ | refine nc ?_ ?_ | (with_reducible intro _ <;> (try (exfalso; omega))) | refine vs_eqnil ?_ | refine vs_nenil ?_ | (refine nd ?_ ?_ <;> intro hg <;> (first | (exfalso; (try simp only [decide_eq_true_eq, decide_eq_false_iff_not] at hg); omega) | rw [hg])) | fail)
        have hrow : (preL s b i).map pcD ++ [cellsD (.agg [u64D s, i64D ((preL s b i).map pcD).length, i64D 0, bsD (b.drop (256 * i))])] = (midL s b 0).map pcD := by
          show (preL s b i).map pcD ++ [[u64D s, i64D ((preL s b i).map pcD).length, i64D 0, bsD (b.drop (256 * i))]] = _
          rw [midL_zero, hN, preL_succ, hpl]
          simp only [List.map_append, List.map_cons, List.map_nil, preAt, ← hlast]
        have hm0 : ((midL s b 0).map pcD).length = manyN b := by rw [List.length_map, midL_len]
        rw [hrow, hm0]
        refine vw_loop (fun k : Nat => ⟨[(43, I .i64 (k : Int)), (42, I .i64 (manyN b : Int)), (6, .row 0 0)], [.r true true 0 0 35 4 ((midL s b k).map pcD)], 1⟩) (fun k => k ≤ manyN b) (fun k => manyN b - k) 0 (sub_zr [(0, _, _)]) (Nat.zero_le _) fun k hk => ?_
        have hml : ((midL s b k).map pcD).length = manyN b := by rw [List.length_map, midL_len]
        rcases Nat.lt_or_ge k (manyN b) with h | h
        · have hx' : ((midL s b k).map pcD)[k]? = some (pcD (preAt s b k)) := by rw [List.getElem?_map, midL_get s b h]; rfl
          simp only [pcD, preAt] at hx'
          repeat' (first | fail | fail | refine nzl ?_ | refine nzd ?_ | ((first | with_reducible refine vl_id ?_ | with_reducible refine vd_id ?_); first | fail) | refine nzo ?_ | refine nc ?_ ?_ | (with_reducible intro _ <;> (try (exfalso; omega))) | refine vs_eqnil ?_ | refine vs_nenil ?_ | (refine nd ?_ ?_ <;> intro hg <;> (first | (exfalso; (try simp only [decide_eq_true_eq, decide_eq_false_iff_not] at hg); omega) | rw [hg])) | fail)
          have hset : ((midL s b k).map pcD).set (k : Int).toNat (setD [u64D s, i64D k, i64D 0, bsD ((b.drop (256 * k)).take 256)] (0 + 2) (cellsD (.lit (.int .i64 ((midL s b k).map pcD).length)))) = (midL s b (k + 1)).map pcD := by
            rw [hml, ← midL_set s b h, List.map_set]
            rfl
          rw [hset]
          refine nx_loop (k + 1) (show k + 1 ≤ manyN b by omega) (show manyN b - (k + 1) < manyN b - k by omega) ?_
          rw [show ((k + 1 : Nat) : Int) = (k : Int) + 1 by omega]
          exact (sub_zr [(0, _, _)])
        · repeat' (first | fail | fail | refine nzl ?_ | refine nzd ?_ | ((first | with_reducible refine vl_id ?_ | with_reducible refine vd_id ?_); first | fail) | refine nzo ?_ | refine nc ?_ ?_ | (with_reducible intro _ <;> (try (exfalso; omega))) | refine vs_eqnil ?_ | refine vs_nenil ?_ | (refine nd ?_ ?_ <;> intro hg <;> (first | (exfalso; (try simp only [decide_eq_true_eq, decide_eq_false_iff_not] at hg); omega) | rw [hg])) | fail)
          rw [show k = manyN b by omega, midL_end]
          exact de_refl _
    · have hc : cutE s b = ([], 3) := by simp [cutE, h1, h2]
      have hlo : 16384 < b.length := by simp only [manyN] at h2; omega
      rw [hc]
      refine vp_of Tryz.func37 rfl Tryz.ntmps37 rfl Tryz.results37 fun B => ?_
      repeat' (first | fail | fail | refine nzl ?_ | refine nzd ?_ | ((first | with_reducible refine vl_id ?_ | with_reducible refine vd_id ?_); first | refine cz (cn) ?_) | refine nzo ?_ | refine nc ?_ ?_ | (with_reducible intro _ <;> (try (exfalso; omega))) | refine vs_eqnil ?_ | refine vs_nenil ?_ | (refine nd ?_ ?_ <;> intro hg <;> (first | (exfalso; (try simp only [decide_eq_true_eq, decide_eq_false_iff_not] at hg); omega) | rw [hg])) | fail)
      all_goals first | (exfalso; simp_all; omega) | (simp only [List.map_nil, leR]; infer_instance) | trace_state
end Go.Proofs.YtkjpcjccddggoaaGreat

namespace Go.Proofs.YtkjpcjccddggoaaGreat
open Go.RowKit
set_option maxRecDepth 10000
set_option maxHeartbeats 4000000
theorem eqpc_v (l m : List Pc) :
    VP Tryz.prog 35 [.sl false false (l.map pcD), .sl false false (m.map pcD), .fn 36 [] []] (· = .ret (.lit (.bool (decide (l = m))))) := by
  rw [← eqF_eq]
  refine vp_of Tryz.func35 rfl Tryz.ntmps35 rfl Tryz.results35 fun B => ?_
  have hl : (l.map pcD).length = l.length := List.length_map _
  have hm : (m.map pcD).length = m.length := List.length_map _
  generalize hp : (fun x y : Pc => decide (x = y)) = p
  repeat' (first | fail | fail | refine nzl ?_ | refine nzd ?_ | ((first | with_reducible refine vl_id ?_ | with_reducible refine vd_id ?_); first | fail) | refine nzo ?_ | refine nc ?_ ?_ | (with_reducible intro _ <;> (try (exfalso; omega))) | refine vs_eqnil ?_ | refine vs_nenil ?_ | (refine nd ?_ ?_ <;> intro hg <;> (first | (exfalso; (try simp only [decide_eq_true_eq, decide_eq_false_iff_not] at hg); omega) | rw [hg])) | fail)
  · rw [eqF_len (by omega)]
  · refine vw_each 15 l pcD (fun (i : Nat) (_ : Unit) => ⟨[(17, I .i64 i), (16, I .i64 (l.map pcD).length), (15, .d (.sl false false (l.map pcD))), (1, .d (.sl false false (m.map pcD))), (2, .d (.fn 36 [] []))], [], 0⟩) (fun i _ => eqF p l m = eqF p (l.drop i) (m.drop i)) () (sub_z) rfl (fun i y x hT hi hx hx' hlt hlm hlen hdr => ?_) (fun y hT hlt hlm => ?_)
    · have hlb : i < m.length := by omega
      have hb' : m[i]? = some m[i] := List.getElem?_eq_getElem hlb
      have hbd := List.drop_eq_getElem_cons hlb
      generalize m[i] = z at *
      have hbx : (m.map pcD)[((i : Nat) : Int).toNat]? = some (pcD z) := by simp [hb']
      rw [hdr, hbd] at hT
      have c := samepc_v x z
      rw [show decide (x = z) = p x z by rw [← hp]] at c
      simp only [pcD] at c hx' hbx ⊢
      repeat' (first | fail | fail | refine nzl ?_ | refine nzd ?_ | ((first | with_reducible refine vl_id ?_ | with_reducible refine vd_id ?_); first | refine cz (c) ?_) | refine nzo ?_ | refine nc ?_ ?_ | (with_reducible intro _ <;> (try (exfalso; omega))) | refine vs_eqnil ?_ | refine vs_nenil ?_ | (refine nd ?_ ?_ <;> intro hg <;> (first | (exfalso; (try simp only [decide_eq_true_eq, decide_eq_false_iff_not] at hg); omega) | rw [hg])) | fail)
      · rw [hT]; simp_all [eqF]
      · refine nx_each () hi ?_ (sub_z); rw [hT]; simp_all [eqF]
    · repeat' (first | fail | fail | refine nzl ?_ | refine nzd ?_ | ((first | with_reducible refine vl_id ?_ | with_reducible refine vd_id ?_); first | fail) | refine nzo ?_ | refine nc ?_ ?_ | (with_reducible intro _ <;> (try (exfalso; omega))) | refine vs_eqnil ?_ | refine vs_nenil ?_ | (refine nd ?_ ?_ <;> intro hg <;> (first | (exfalso; (try simp only [decide_eq_true_eq, decide_eq_false_iff_not] at hg); omega) | rw [hg])) | fail)
      rw [hT, List.drop_of_length_le (Nat.le_refl _), List.drop_of_length_le (by omega)]; rfl
end Go.Proofs.YtkjpcjccddggoaaGreat

namespace Go.Proofs.YtkjpcjccddggoaaGreat
open Go.RowKit
theorem vw_sharp {P : Program} {cx : Cx} {tm : List (Nat × V)} {st : List E} {nb : Nat} {Q : VE → St → Prop} {c : Code} (t : Tmp) {x : D} (h : lookT t tm = some (.po false x)) (k : ∀ y, blurD x y → VW P cx c ⟨(t, .po true y) :: tm, st, nb⟩ Q) : VW P cx c ⟨tm, st, nb⟩ Q := fun n g0 w0 g a w hE hS => by
  have h1 := hS.tm h
  simp only [vrep] at h1
  obtain ⟨y, hy, h1⟩ := h1
  simp only [blurE] at hy
  refine k y hy n g0 w0 g a w hE ⟨hS.size, fun {t' v} ht => ?_, hS.st, hS.inv, hS.defers⟩
  simp only [lookT] at ht
  split at ht
  · rename_i e
    cases ht
    rw [Nat.eq_of_beq_eq_true e]
    simp only [vrep]
    exact ⟨y, rfl, h1⟩
  · exact hS.tm ht
theorem vw_plen {P : Program} {cx : Cx} {s : St} {Q : VE → St → Prop} (t : Tmp) {e c f : Bool} {l : List (List D)} (h : lookT t s.tm = some (.po e (.sl c f l))) {x : Code} (k : l.length ≤ 9223372036854775807 → VW P cx x s Q) : VW P cx x s Q := fun n g0 w0 g a w hE hS => by
  have h1 := hS.tm h
  simp only [vrep] at h1
  obtain ⟨y, hy, h1⟩ := h1
  obtain ⟨m, rfl, hm, _⟩ := blurE_sl hy
  simp only [drep] at h1
  obtain ⟨a', cap, cs, _, h2, h3, _⟩ := h1
  rw [blurDss_len hm] at h2
  exact k (by unfold maxLen at h3; omega) n g0 w0 g a w hE hS
end Go.Proofs.YtkjpcjccddggoaaGreat

namespace Go.Proofs.YtkjpcjccddggoaaGreat
open Go.RowKit
/-- pieces of a function's code -/
def bodyC (f : Func) : Code := f.body.getD .skip
def sndC : Nat → Code → Code
  | 0, c => c
  | n + 1, .seq _ y => sndC n y
  | _, c => c
section
variable {P : Program} {cx : Cx} {s : St} {Q : VE → St → Prop}
/-- the ways that leave a block are joined behind it -/
theorem vw_join {α : Type} (I : α → St) (T : α → Prop) {c y : Code} {id : Nat} (h : VW P cx c s (blockV id (cutV cx I T Q))) (k : ∀ z, T z → VW P cx y (I z) Q) : VW P cx c s (blockV id (thenV P cx y Q)) := by
  have key : ∀ e s', cutV cx I T Q e s' → thenV P cx y Q e s' := fun e s' hq => by
    cases e with
    | normal => obtain ⟨z, h1, h2⟩ := hq; exact vw_sub h2 (k z h1)
    | exit id => exact hq
    | goto id => exact hq
    | ret => exact hq
    | panic v => exact hq
  refine h.mono fun e s' hq => ?_
  cases e with
  | exit i =>
    simp only [blockV] at hq ⊢
    split at hq
    · exact key _ _ hq
    · exact key _ _ hq
  | normal => exact key .normal _ hq
  | goto id => exact key (.goto id) _ hq
  | ret => exact key .ret _ hq
  | panic v => exact key (.panic v) _ hq
end
end Go.Proofs.YtkjpcjccddggoaaGreat
