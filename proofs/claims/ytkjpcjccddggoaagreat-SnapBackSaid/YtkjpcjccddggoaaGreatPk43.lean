/- Walks by data and names, part 43: Octet, by V: Put, Lay; a reader's Number. Octet, by V: Split, of two numbers. Layer 21, by V: vectors. -/
import Derived.Test.YtkjpcjccddggoaaGreatPk42
import Derived.Test.YtkjpcjccddggoaaGreatPk41
namespace Go.Proofs.YtkjpcjccddggoaaGreat
open Go.RowKit
set_option maxRecDepth 10000
set_option maxHeartbeats 4000000
theorem put_v (b : List UInt8) (w n : Nat) (hw : 1 ≤ w ∧ w ≤ 8) (hn : n < 256 ^ w) (hb : b.length ≤ 100000000) : VP Tryz.prog 135 [bsD b, i64D w, u64D n] (· = .ret (.tup [.sl false true (byD (b ++ layN w n)), i64D 0])) := by
  have c1 := laid_v w n hw hn
  have c2 := behind_v b (layN w n) (by rw [layN_len]; omega)
  refine vp_of Tryz.func135 rfl Tryz.ntmps135 rfl Tryz.results135 fun B => ?_
  repeat' (first | fail | fail | refine nzl ?_ | refine nzd ?_ | ((first | with_reducible refine vl_id ?_ | with_reducible refine vd_id ?_); first | refine cz (c1) ?_ | refine cz (c2) ?_ | refine vs_vc (hc := vc_of Tryz.func151 rfl Tryz.ntmps151 Tryz.results151 fun _ => ?_) | refine vs_vc (hc := vc_tries (fd := 131) Tryz.func101 rfl Tryz.ntmps101 Tryz.results101 fun _ => ?_)) | refine nzo ?_ | refine nc ?_ ?_ | (with_reducible intro _ <;> (try (exfalso; omega))) | refine vs_eqnil ?_ | refine vs_nenil ?_ | (refine nd ?_ ?_ <;> intro hg <;> (first | (exfalso; (try simp only [decide_eq_true_eq, decide_eq_false_iff_not] at hg); omega) | rw [hg])) | refine vdf_of Tryz.func131 rfl Tryz.ntmps131 Tryz.results131 ?_)
  all_goals first | rfl | trace_state
theorem size2_v : VP Tryz.prog 103 [.sl false false [[i64D 8], [i64D 8]]] (· = .ret (i64D 16)) := by
  have ci := ois_v 8 (by omega)
  have hl : ([[i64D 8], [i64D 8]] : List (List D)).length = 2 := rfl
  refine vp_of Tryz.func103 rfl Tryz.ntmps103 rfl Tryz.results103 fun B => ?_
  repeat' (first | fail | fail | refine nzl ?_ | refine nzd ?_ | ((first | with_reducible refine vl_id ?_ | with_reducible refine vd_id ?_); first | fail) | refine nzo ?_ | refine nc ?_ ?_ | (with_reducible intro _ <;> (try (exfalso; omega))) | refine vs_eqnil ?_ | refine vs_nenil ?_ | (refine nd ?_ ?_ <;> intro hg <;> (first | (exfalso; (try simp only [decide_eq_true_eq, decide_eq_false_iff_not] at hg); omega) | rw [hg])) | fail)
  refine vw_rounds 3 ?_
  repeat' (first | fail | fail | refine nzl ?_ | refine nzd ?_ | ((first | with_reducible refine vl_id ?_ | with_reducible refine vd_id ?_); first | refine cz (ci) ?_ | refine cz (oneed_ok 111) ?_) | refine nzo ?_ | refine nc ?_ ?_ | (with_reducible intro _ <;> (try (exfalso; omega))) | refine vs_eqnil ?_ | refine vs_nenil ?_ | (refine nd ?_ ?_ <;> intro hg <;> (first | (exfalso; (try simp only [decide_eq_true_eq, decide_eq_false_iff_not] at hg); omega) | rw [hg])) | fail)
  all_goals first | rfl | trace_state
theorem lay2_v (a b : Nat) (ha : a < 18446744073709551616) (hb : b < 18446744073709551616) : VP Tryz.prog 69 [.sl false false [[i64D 8], [i64D 8]], .sl false false [[u64D a], [u64D b]]] (· = .ret (.tup [.sl false true (byD (layN 8 a ++ layN 8 b)), i64D 0])) := by
  have c1 := laid_v 8 a (by omega) (by simpa using ha)
  have c2 := laid_v 8 b (by omega) (by simpa using hb)
  have l1 := layN_len 8 a
  have l2 := layN_len 8 b
  have hl : ([[i64D 8], [i64D 8]] : List (List D)).length = 2 := rfl
  have hl2 : ([[u64D a], [u64D b]] : List (List D)).length = 2 := rfl
  refine VP.le ?_
  refine vp_of Tryz.func69 rfl Tryz.ntmps69 rfl Tryz.results69 fun B => ?_
  repeat' (first | fail | fail | refine nzl ?_ | refine nzd ?_ | ((first | with_reducible refine vl_id ?_ | with_reducible refine vd_id ?_); first | refine cz (size2_v) ?_ | (refine vq_l (oneed_ok 2) ?_; first | refine vs_call (oneed_ok 2) ?_ | refine vs_pan (oneed_no 2) ?_ | (refine vs_cifp (oneed_if _ 2) ?_ ?_ <;> intro _ <;> (try (exfalso; omega))) | (refine vs_cif (oneed_if _ 2) ?_ ?_ <;> intro _)) | refine vs_vc (hc := vc_of Tryz.func102 rfl Tryz.ntmps102 Tryz.results102 fun _ => ?_) | refine vs_vc (hc := vc_tries (fd := 131) Tryz.func101 rfl Tryz.ntmps101 Tryz.results101 fun _ => ?_)) | refine nzo ?_ | refine nc ?_ ?_ | (with_reducible intro _ <;> (try (exfalso; omega))) | refine vs_eqnil ?_ | refine vs_nenil ?_ | (refine nd ?_ ?_ <;> intro hg <;> (first | (exfalso; (try simp only [decide_eq_true_eq, decide_eq_false_iff_not] at hg); omega) | rw [hg])) | refine vdf_of Tryz.func131 rfl Tryz.ntmps131 Tryz.results131 ?_)
  refine vw_nilT 3 5 1 rfl ?_
  refine vw_rounds 3 ?_
  repeat' (first | fail | fail | refine nzl ?_ | refine nzd ?_ | ((first | with_reducible refine vl_id ?_ | with_reducible refine vd_id ?_); first | refine cz (c1) ?_ | refine cz (c2) ?_) | refine nzo ?_ | refine nc ?_ ?_ | (with_reducible intro _ <;> (try (exfalso; omega))) | refine vs_eqnil ?_ | refine vs_nenil ?_ | (refine nd ?_ ?_ <;> intro hg <;> (first | (exfalso; (try simp only [decide_eq_true_eq, decide_eq_false_iff_not] at hg); omega) | rw [hg])) | refine vdf_of Tryz.func131 rfl Tryz.ntmps131 Tryz.results131 ?_)
  rw [show [] ++ byD (layN 8 a) ++ byD (layN 8 b) = byD (layN 8 a ++ layN 8 b) by simp [byD]]
  exact de_refl _
theorem cutN (b : List UInt8) (n : Nat) : cutL none (some (n : Int)) (byD b) = byD (b.take n) := by
  rw [cutL_eq]; simp [byD, List.map_take]
theorem cutD (b : List UInt8) (n : Nat) : cutL (some (n : Int)) none (byD b) = byD (b.drop n) := cutB _ b n
theorem rdnum_v (f : Bool) (b : List UInt8) (w : Nat) (hw : 1 ≤ w ∧ w ≤ 8) (h : w ≤ b.length) : VM1 Tryz.prog 142 1 [.ptr 0 0, .d (i64D w)] [.c 0 0 [.d (.sl false f (byD b)), .d (i64D 0)]] 1 (.ret (.d (u64D (numN (b.take w))))) [.c 0 0 [.d (.sl false f (byD (b.drop w))), .d (i64D 0)]] 1 := by
  have ci := ois_v w (by omega)
  have cn := onum_v (b.take w) (by simp; omega)
  have hl := byD_len b
  have hc := cutN b w
  have hd := cutD b w
  refine vm1_of Tryz.func142 rfl Tryz.ntmps142 Tryz.results142 fun B M => ?_
  repeat' (first | fail | fail | refine nzl ?_ | refine nzd ?_ | ((first | with_reducible refine vl_id ?_ | with_reducible refine vd_id ?_); first | refine cz (ci) ?_ | (refine vq_l (oneed_ok 111) ?_; first | refine vs_call (oneed_ok 111) ?_ | refine vs_pan (oneed_no 111) ?_ | (refine vs_cifp (oneed_if _ 111) ?_ ?_ <;> intro _ <;> (try (exfalso; omega))) | (refine vs_cif (oneed_if _ 111) ?_ ?_ <;> intro _)) | (refine vq_l (oneed_ok 2) ?_; first | refine vs_call (oneed_ok 2) ?_ | refine vs_pan (oneed_no 2) ?_ | (refine vs_cifp (oneed_if _ 2) ?_ ?_ <;> intro _ <;> (try (exfalso; omega))) | (refine vs_cif (oneed_if _ 2) ?_ ?_ <;> intro _)) | (refine vq_l (oneed_ok 110) ?_; first | refine vs_call (oneed_ok 110) ?_ | refine vs_pan (oneed_no 110) ?_ | (refine vs_cifp (oneed_if _ 110) ?_ ?_ <;> intro _ <;> (try (exfalso; omega))) | (refine vs_cif (oneed_if _ 110) ?_ ?_ <;> intro _)) | (rw [hc]; first | refine cz (cn) ?_) | refine vs_vc (hc := vc_of Tryz.func157 rfl Tryz.ntmps157 Tryz.results157 fun _ => ?_) | refine vs_vc (hc := vc_of Tryz.func155 rfl Tryz.ntmps155 Tryz.results155 fun _ => ?_) | refine vs_vc (hc := vc_of Tryz.func154 rfl Tryz.ntmps154 Tryz.results154 fun _ => ?_) | refine vs_eqpn ?_ | refine vs_nepn ?_ | refine vs_vc (hc := vc_tries (fd := 161) Tryz.func160 rfl Tryz.ntmps160 Tryz.results160 fun _ => ?_)) | refine nzo ?_ | refine nc ?_ ?_ | (with_reducible intro _ <;> (try (exfalso; omega))) | refine vs_eqnil ?_ | refine vs_nenil ?_ | (refine nd ?_ ?_ <;> intro hg <;> (first | (exfalso; (try simp only [decide_eq_true_eq, decide_eq_false_iff_not] at hg); omega) | rw [hg])) | refine vdf_of Tryz.func161 rfl Tryz.ntmps161 Tryz.results161 ?_)
  rw [hd]
  exact nx_sub []
theorem rdnum_no (f : Bool) (b : List UInt8) (w : Nat) (hw : 1 ≤ w ∧ w ≤ 8) (h : ¬ w ≤ b.length) : VM1 Tryz.prog 142 1 [.ptr 0 0, .d (i64D w)] [.c 0 0 [.d (.sl false f (byD b)), .d (i64D 0)]] 1 (.ret (.d (u64D 0))) [.c 0 0 [.d (.sl false f (byD b)), .d (i64D 110)]] 1 := by
  have ci := ois_v w (by omega)
  have hl := byD_len b
  refine vm1_of Tryz.func142 rfl Tryz.ntmps142 Tryz.results142 fun B M => ?_
  repeat' (first | fail | fail | refine nzl ?_ | refine nzd ?_ | ((first | with_reducible refine vl_id ?_ | with_reducible refine vd_id ?_); first | refine cz (ci) ?_ | (refine vq_l (oneed_ok 111) ?_; first | refine vs_call (oneed_ok 111) ?_ | refine vs_pan (oneed_no 111) ?_ | (refine vs_cifp (oneed_if _ 111) ?_ ?_ <;> intro _ <;> (try (exfalso; omega))) | (refine vs_cif (oneed_if _ 111) ?_ ?_ <;> intro _)) | (refine vq_l (oneed_ok 2) ?_; first | refine vs_call (oneed_ok 2) ?_ | refine vs_pan (oneed_no 2) ?_ | (refine vs_cifp (oneed_if _ 2) ?_ ?_ <;> intro _ <;> (try (exfalso; omega))) | (refine vs_cif (oneed_if _ 2) ?_ ?_ <;> intro _)) | (refine vq_l (oneed_ok 110) ?_; first | refine vs_call (oneed_ok 110) ?_ | refine vs_pan (oneed_no 110) ?_ | (refine vs_cifp (oneed_if _ 110) ?_ ?_ <;> intro _ <;> (try (exfalso; omega))) | (refine vs_cif (oneed_if _ 110) ?_ ?_ <;> intro _)) | refine vs_vc (hc := vc_of Tryz.func157 rfl Tryz.ntmps157 Tryz.results157 fun _ => ?_) | refine vs_vc (hc := vc_of Tryz.func155 rfl Tryz.ntmps155 Tryz.results155 fun _ => ?_) | refine vs_vc (hc := vc_of Tryz.func154 rfl Tryz.ntmps154 Tryz.results154 fun _ => ?_) | refine vs_eqpn ?_ | refine vs_nepn ?_ | refine vs_vc (hc := vc_tries (fd := 161) Tryz.func160 rfl Tryz.ntmps160 Tryz.results160 fun _ => ?_)) | refine nzo ?_ | refine nc ?_ ?_ | (with_reducible intro _ <;> (try (exfalso; omega))) | refine vs_eqnil ?_ | refine vs_nenil ?_ | (refine nd ?_ ?_ <;> intro hg <;> (first | (exfalso; (try simp only [decide_eq_true_eq, decide_eq_false_iff_not] at hg); omega) | rw [hg])) | refine vdf_of Tryz.func161 rfl Tryz.ntmps161 Tryz.results161 ?_)
  exact nx_sub []
end Go.Proofs.YtkjpcjccddggoaaGreat

namespace Go.Proofs.YtkjpcjccddggoaaGreat
open Go.RowKit
set_option maxRecDepth 10000
set_option maxHeartbeats 4000000
theorem split2_v (b : List UInt8) (hb : b.length = 16) : VP Tryz.prog 77 [.sl false false [[i64D 8], [i64D 8]], bsD b] (· = .ret (.tup [.sl false true [[u64D (numN (b.take 8))], [u64D (numN (b.drop 8))]], i64D 0])) := by
  have hl : ([[i64D 8], [i64D 8]] : List (List D)).length = 2 := rfl
  have hbl := byD_len b
  have c1 := rdnum_v false b 8 (by omega) (by omega)
  have c2 := rdnum_v false (b.drop 8) 8 (by omega) (by simp; omega)
  rw [show ((8 : Nat) : Int) = 8 from rfl] at c1 c2
  have e1 : ([cellsD (u64D (numN (b.take 8)))] : List (List D)).length = 1 := rfl
  have e2 : ([cellsD (u64D (numN (b.take 8)))] ++ [cellsD (u64D (numN ((b.drop 8).take 8)))] : List (List D)).length = 2 := rfl
  have ht : (b.drop 8).take 8 = b.drop 8 := List.take_of_length_le (by simp; omega)
  refine VP.le ?_
  refine vp_of Tryz.func77 rfl Tryz.ntmps77 rfl Tryz.results77 fun B => ?_
  repeat' (first | fail | fail | refine nzl ?_ | refine nzd ?_ | ((first | with_reducible refine vl_id ?_ | with_reducible refine vd_id ?_); first | refine cz (size2_v) ?_ | (refine vq_l (oneed_ok 110) ?_; first | refine vs_call (oneed_ok 110) ?_ | refine vs_pan (oneed_no 110) ?_ | (refine vs_cifp (oneed_if _ 110) ?_ ?_ <;> intro _ <;> (try (exfalso; omega))) | (refine vs_cif (oneed_if _ 110) ?_ ?_ <;> intro _)) | (refine vq_l (oneed_ok 113) ?_; first | refine vs_call (oneed_ok 113) ?_ | refine vs_pan (oneed_no 113) ?_ | (refine vs_cifp (oneed_if _ 113) ?_ ?_ <;> intro _ <;> (try (exfalso; omega))) | (refine vs_cif (oneed_if _ 113) ?_ ?_ <;> intro _)) | refine vs_vc (hc := vc_of Tryz.func116 rfl Tryz.ntmps116 Tryz.results116 fun _ => ?_) | refine vs_vc (hc := vc_of Tryz.func117 rfl Tryz.ntmps117 Tryz.results117 fun _ => ?_) | refine vs_vc (hc := vc_tries (fd := 140) Tryz.func115 rfl Tryz.ntmps115 Tryz.results115 fun _ => ?_)) | refine nzo ?_ | refine nc ?_ ?_ | (with_reducible intro _ <;> (try (exfalso; omega))) | refine vs_eqnil ?_ | refine vs_nenil ?_ | (refine nd ?_ ?_ <;> intro hg <;> (first | (exfalso; (try simp only [decide_eq_true_eq, decide_eq_false_iff_not] at hg); omega) | rw [hg])) | refine vdf_of Tryz.func140 rfl Tryz.ntmps140 Tryz.results140 ?_)
  refine vw_range rfl rfl rfl rfl rfl rfl rfl fun R T hOk => ?_
  refine vmb_of Tryz.func141 rfl Tryz.ntmps141 Tryz.results141 fun M2 => ?_
  repeat' (first | fail | fail | refine nzl ?_ | refine nzd ?_ | ((first | with_reducible refine vl_id ?_ | with_reducible refine vd_id ?_); first | fail) | refine nzo ?_ | refine nc ?_ ?_ | (with_reducible intro _ <;> (try (exfalso; omega))) | refine vs_eqnil ?_ | refine vs_nenil ?_ | (refine nd ?_ ?_ <;> intro hg <;> (first | (exfalso; (try simp only [decide_eq_true_eq, decide_eq_false_iff_not] at hg); omega) | rw [hg])) | fail)
  refine vw_rounds 3 ?_
  repeat' (first | fail | fail | refine nzl ?_ | refine nzd ?_ | ((first | with_reducible refine vl_id ?_ | with_reducible refine vd_id ?_); first | refine vs_yield (by assumption) fun _ _ => ?_ | refine vs_vm [(5, none)] c1 ?_ | refine vs_vm [(5, none)] c2 ?_) | refine nzo ?_ | refine nc ?_ ?_ | (with_reducible intro _ <;> (try (exfalso; omega))) | refine vs_eqnil ?_ | refine vs_nenil ?_ | (refine nd ?_ ?_ <;> intro hg <;> (first | (exfalso; (try simp only [decide_eq_true_eq, decide_eq_false_iff_not] at hg); omega) | rw [hg])) | refine vdf_of Tryz.func140 rfl Tryz.ntmps140 Tryz.results140 ?_)
  all_goals first | (exfalso; omega) | (rw [ht]; exact de_refl _)
end Go.Proofs.YtkjpcjccddggoaaGreat

namespace Go.Proofs.YtkjpcjccddggoaaGreat
open Go.RowKit
set_option maxRecDepth 10000
set_option maxHeartbeats 4000000
structure Vc where
  n0 : Nat
  n1 : Nat
  n2 : Nat
  n3 : Nat
  n4 : Nat
  n5 : Nat
  n6 : Nat
  n7 : Nat
  n8 : Nat
deriving DecidableEq
abbrev vcD (v : Vc) : List D := [u64D v.n0, u64D v.n1, u64D v.n2, u64D v.n3, u64D v.n4, u64D v.n5, u64D v.n6, u64D v.n7, u64D v.n8]
def mxT (n : Nat) : Bool := decide (n ≤ 4611686018427387904)
def vcB (v : Vc) : Bool := decide (v.n0 = 0) && mxT v.n1 && mxT v.n2 && mxT v.n3 && mxT v.n4 && mxT v.n5 && mxT v.n6 && mxT v.n7 && mxT v.n8
theorem vcB_iff (v : Vc) : vcB v = true ↔ v.n0 = 0 ∧ v.n1 ≤ 4611686018427387904 ∧ v.n2 ≤ 4611686018427387904 ∧ v.n3 ≤ 4611686018427387904 ∧ v.n4 ≤ 4611686018427387904 ∧ v.n5 ≤ 4611686018427387904 ∧ v.n6 ≤ 4611686018427387904 ∧ v.n7 ≤ 4611686018427387904 ∧ v.n8 ≤ 4611686018427387904 := by
  simp [vcB, mxT, and_assoc]
theorem vcB_t {v : Vc} (h : v.n0 = 0 ∧ v.n1 ≤ 4611686018427387904 ∧ v.n2 ≤ 4611686018427387904 ∧ v.n3 ≤ 4611686018427387904 ∧ v.n4 ≤ 4611686018427387904 ∧ v.n5 ≤ 4611686018427387904 ∧ v.n6 ≤ 4611686018427387904 ∧ v.n7 ≤ 4611686018427387904 ∧ v.n8 ≤ 4611686018427387904) : vcB v = true := (vcB_iff v).2 h
theorem vcB_f {v : Vc} (h : ¬ (v.n0 = 0 ∧ v.n1 ≤ 4611686018427387904 ∧ v.n2 ≤ 4611686018427387904 ∧ v.n3 ≤ 4611686018427387904 ∧ v.n4 ≤ 4611686018427387904 ∧ v.n5 ≤ 4611686018427387904 ∧ v.n6 ≤ 4611686018427387904 ∧ v.n7 ≤ 4611686018427387904 ∧ v.n8 ≤ 4611686018427387904)) : vcB v = false := by
  cases e : vcB v
  · rfl
  · exact (h ((vcB_iff v).1 e)).elim
theorem right13_v (v : Vc) : VP Tryz.prog 61 [.agg (vcD v)] (· = .ret (.lit (.bool (vcB v)))) := by
  refine vp_of Tryz.func61 rfl Tryz.ntmps61 rfl Tryz.results61 fun B => ?_
  repeat' (first | fail | fail | refine nzl ?_ | refine nzd ?_ | ((first | with_reducible refine vl_id ?_ | with_reducible refine vd_id ?_); first | fail) | refine nzo ?_ | refine nc ?_ ?_ | (with_reducible intro _ <;> (try (exfalso; omega))) | refine vs_eqnil ?_ | refine vs_nenil ?_ | (refine nd ?_ ?_ <;> intro hg <;> (first | (exfalso; (try simp only [decide_eq_true_eq, decide_eq_false_iff_not] at hg); omega) | rw [hg])) | fail)
  refine vw_rounds 10 ?_
  repeat' (first | fail | fail | refine nzl ?_ | refine nzd ?_ | ((first | with_reducible refine vl_id ?_ | with_reducible refine vd_id ?_); first | fail) | refine nzo ?_ | refine nc ?_ ?_ | (with_reducible intro _ <;> (try (exfalso; omega))) | refine vs_eqnil ?_ | refine vs_nenil ?_ | (refine nd ?_ ?_ <;> intro hg <;> (first | (exfalso; (try simp only [decide_eq_true_eq, decide_eq_false_iff_not] at hg); omega) | rw [hg])) | fail)
  all_goals first | (rw [vcB_f (by omega)]) | (rw [vcB_t (by omega)]) | trace_state
theorem vcheck_v (v : Vc) : VP Tryz.prog 63 [.agg (vcD v)] (· = .ret (i64D (if vcB v then 0 else 230))) := by
  refine vp_of Tryz.func63 rfl Tryz.ntmps63 rfl Tryz.results63 fun B => ?_
  repeat' (first | fail | fail | refine nzl ?_ | refine nzd ?_ | ((first | with_reducible refine vl_id ?_ | with_reducible refine vd_id ?_); first | refine vs_vc (hc := vc_of Tryz.func98 rfl Tryz.ntmps98 Tryz.results98 fun _ => ?_)) | refine nzo ?_ | refine nc ?_ ?_ | (with_reducible intro _ <;> (try (exfalso; omega))) | refine vs_eqnil ?_ | refine vs_nenil ?_ | (refine nd ?_ ?_ <;> intro hg <;> (first | (exfalso; (try simp only [decide_eq_true_eq, decide_eq_false_iff_not] at hg); omega) | rw [hg])) | fail)
  · rw [vcB_f (by omega)]; rfl
  refine vw_range rfl rfl rfl rfl rfl rfl rfl fun R T hOk => ?_
  refine vmb_of Tryz.func130 rfl Tryz.ntmps130 Tryz.results130 fun M2 => ?_
  repeat' (first | fail | fail | refine nzl ?_ | refine nzd ?_ | ((first | with_reducible refine vl_id ?_ | with_reducible refine vd_id ?_); first | fail) | refine nzo ?_ | refine nc ?_ ?_ | (with_reducible intro _ <;> (try (exfalso; omega))) | refine vs_eqnil ?_ | refine vs_nenil ?_ | (refine nd ?_ ?_ <;> intro hg <;> (first | (exfalso; (try simp only [decide_eq_true_eq, decide_eq_false_iff_not] at hg); omega) | rw [hg])) | fail)
  refine vw_rounds 10 ?_
  repeat' (first | fail | fail | refine nzl ?_ | refine nzd ?_ | ((first | with_reducible refine vl_id ?_ | with_reducible refine vd_id ?_); first | refine vs_yield (by assumption) fun _ _ => ?_) | refine nzo ?_ | refine nc ?_ ?_ | (with_reducible intro _ <;> (try (exfalso; omega))) | refine vs_eqnil ?_ | refine vs_nenil ?_ | (refine nd ?_ ?_ <;> intro hg <;> (first | (exfalso; (try simp only [decide_eq_true_eq, decide_eq_false_iff_not] at hg); omega) | rw [hg])) | fail)
  all_goals first | (rw [vcB_f (by omega)]; rfl) | (rw [vcB_t (by omega)]; rfl) | trace_state
/-- its bytes -/
def vcBy (v : Vc) : List UInt8 := layN 8 v.n1 ++ layN 8 v.n2 ++ layN 8 v.n3 ++ layN 8 v.n4 ++ layN 8 v.n5 ++ layN 8 v.n6 ++ layN 8 v.n7 ++ layN 8 v.n8
def Vc.in (v : Vc) : Prop := v.n0 < 18446744073709551616 ∧ v.n1 < 18446744073709551616 ∧ v.n2 < 18446744073709551616 ∧ v.n3 < 18446744073709551616 ∧ v.n4 < 18446744073709551616 ∧ v.n5 < 18446744073709551616 ∧ v.n6 < 18446744073709551616 ∧ v.n7 < 18446744073709551616 ∧ v.n8 < 18446744073709551616
theorem vector19_v (v : Vc) (h : v.in) : VP Tryz.prog 73 [.agg (vcD v)] (· = .ret (.sl false true (byD (vcBy v)))) := by
  obtain ⟨h0, h1, h2, h3, h4, h5, h6, h7, h8⟩ := h
  have c1 := lay01_v 8 v.n1 (by omega) h1
  have c2 := lay01_v 8 v.n2 (by omega) h2
  have c3 := lay01_v 8 v.n3 (by omega) h3
  have c4 := lay01_v 8 v.n4 (by omega) h4
  have c5 := lay01_v 8 v.n5 (by omega) h5
  have c6 := lay01_v 8 v.n6 (by omega) h6
  have c7 := lay01_v 8 v.n7 (by omega) h7
  have c8 := lay01_v 8 v.n8 (by omega) h8
  have l1 := layN_len 8 v.n1
  have l2 := layN_len 8 v.n2
  have l3 := layN_len 8 v.n3
  have l4 := layN_len 8 v.n4
  have l5 := layN_len 8 v.n5
  have l6 := layN_len 8 v.n6
  have l7 := layN_len 8 v.n7
  have l8 := layN_len 8 v.n8
  refine VP.le ?_
  refine vp_of Tryz.func73 rfl Tryz.ntmps73 rfl Tryz.results73 fun B => ?_
  repeat' (first | fail | fail | refine nzl ?_ | refine nzd ?_ | ((first | with_reducible refine vl_id ?_ | with_reducible refine vd_id ?_); first | fail) | refine nzo ?_ | refine nc ?_ ?_ | (with_reducible intro _ <;> (try (exfalso; omega))) | refine vs_eqnil ?_ | refine vs_nenil ?_ | (refine nd ?_ ?_ <;> intro hg <;> (first | (exfalso; (try simp only [decide_eq_true_eq, decide_eq_false_iff_not] at hg); omega) | rw [hg])) | fail)
  refine vw_nilT 3 5 1 rfl ?_
  refine vw_rounds 9 ?_
  repeat' (first | fail | fail | refine nzl ?_ | refine nzd ?_ | ((first | with_reducible refine vl_id ?_ | with_reducible refine vd_id ?_); first | refine cz (c1) ?_ | refine cz (c2) ?_ | refine cz (c3) ?_ | refine cz (c4) ?_ | refine cz (c5) ?_ | refine cz (c6) ?_ | refine cz (c7) ?_ | refine cz (c8) ?_) | refine nzo ?_ | refine nc ?_ ?_ | (with_reducible intro _ <;> (try (exfalso; omega))) | refine vs_eqnil ?_ | refine vs_nenil ?_ | (refine nd ?_ ?_ <;> intro hg <;> (first | (exfalso; (try simp only [decide_eq_true_eq, decide_eq_false_iff_not] at hg); omega) | rw [hg])) | fail)
  have hv : ([] : List (List D)) ++ byD (layN 8 v.n1) ++ byD (layN 8 v.n2) ++ byD (layN 8 v.n3) ++ byD (layN 8 v.n4) ++ byD (layN 8 v.n5) ++ byD (layN 8 v.n6) ++ byD (layN 8 v.n7) ++ byD (layN 8 v.n8) = byD (vcBy v) := by simp [vcBy, byD]
  rw [hv]
  exact de_refl _
def vcOf (b : List UInt8) : Vc := ⟨0, numN (b.take 8), numN ((b.take 16).drop 8), numN ((b.take 24).drop 16), numN ((b.take 32).drop 24), numN ((b.take 40).drop 32), numN ((b.take 48).drop 40), numN ((b.take 56).drop 48), numN ((b.take 64).drop 56)⟩
def Vc.zero : Vc := ⟨0, 0, 0, 0, 0, 0, 0, 0, 0⟩
def take19 (b : List UInt8) : Vc × Int × Int := if b.length < 64 then (.zero, 0, 110) else if vcB (vcOf b) then (vcOf b, 64, 0) else (.zero, 0, 290)
theorem take19_v (b : List UInt8) : VP Tryz.prog 81 [bsD b] (· = .ret (.tup [.agg (vcD (take19 b).1), i64D (take19 b).2.1, i64D (take19 b).2.2])) := by
  have hbl := byD_len b
  by_cases hl : b.length < 64
  · rw [take19, if_pos hl]
    refine vp_of Tryz.func81 rfl Tryz.ntmps81 rfl Tryz.results81 fun B => ?_
    repeat' (first | fail | fail | refine nzl ?_ | refine nzd ?_ | ((first | with_reducible refine vl_id ?_ | with_reducible refine vd_id ?_); first | fail) | refine nzo ?_ | refine nc ?_ ?_ | (with_reducible intro _ <;> (try (exfalso; omega))) | refine vs_eqnil ?_ | refine vs_nenil ?_ | (refine nd ?_ ?_ <;> intro hg <;> (first | (exfalso; (try simp only [decide_eq_true_eq, decide_eq_false_iff_not] at hg); omega) | rw [hg])) | fail)
    all_goals first | rfl | trace_state
  have h1 : cutL (some (8 * 1 - 8)) (some (8 * 1)) (byD b) = byD ((b.take 8).drop 0) := cutA _ b 0 8
  have h2 : cutL (some (8 * (1 + 1) - 8)) (some (8 * (1 + 1))) (byD b) = byD ((b.take 16).drop 8) := cutA _ b 8 16
  have h3 : cutL (some (8 * (1 + 1 + 1) - 8)) (some (8 * (1 + 1 + 1))) (byD b) = byD ((b.take 24).drop 16) := cutA _ b 16 24
  have h4 : cutL (some (8 * (1 + 1 + 1 + 1) - 8)) (some (8 * (1 + 1 + 1 + 1))) (byD b) = byD ((b.take 32).drop 24) := cutA _ b 24 32
  have h5 : cutL (some (8 * (1 + 1 + 1 + 1 + 1) - 8)) (some (8 * (1 + 1 + 1 + 1 + 1))) (byD b) = byD ((b.take 40).drop 32) := cutA _ b 32 40
  have h6 : cutL (some (8 * (1 + 1 + 1 + 1 + 1 + 1) - 8)) (some (8 * (1 + 1 + 1 + 1 + 1 + 1))) (byD b) = byD ((b.take 48).drop 40) := cutA _ b 40 48
  have h7 : cutL (some (8 * (1 + 1 + 1 + 1 + 1 + 1 + 1) - 8)) (some (8 * (1 + 1 + 1 + 1 + 1 + 1 + 1))) (byD b) = byD ((b.take 56).drop 48) := cutA _ b 48 56
  have h8 : cutL (some (8 * (1 + 1 + 1 + 1 + 1 + 1 + 1 + 1) - 8)) (some (8 * (1 + 1 + 1 + 1 + 1 + 1 + 1 + 1))) (byD b) = byD ((b.take 64).drop 56) := cutA _ b 56 64
  rw [List.drop_zero] at h1
  have c1 := number01_v (b.take 8) (by simp; omega)
  have c2 := number01_v ((b.take 16).drop 8) (by simp; omega)
  have c3 := number01_v ((b.take 24).drop 16) (by simp; omega)
  have c4 := number01_v ((b.take 32).drop 24) (by simp; omega)
  have c5 := number01_v ((b.take 40).drop 32) (by simp; omega)
  have c6 := number01_v ((b.take 48).drop 40) (by simp; omega)
  have c7 := number01_v ((b.take 56).drop 48) (by simp; omega)
  have c8 := number01_v ((b.take 64).drop 56) (by simp; omega)
  have cr := right13_v (vcOf b)
  obtain ⟨r, hr⟩ : ∃ r, vcB (vcOf b) = r := ⟨_, rfl⟩
  have ht : take19 b = if r then (vcOf b, 64, 0) else (.zero, 0, 290) := by rw [take19, if_neg hl, hr]
  rw [hr] at cr
  rw [ht]
  clear ht hr
  simp only [vcOf] at cr ⊢
  refine vp_of Tryz.func81 rfl Tryz.ntmps81 rfl Tryz.results81 fun B => ?_
  repeat' (first | fail | fail | refine nzl ?_ | refine nzd ?_ | ((first | with_reducible refine vl_id ?_ | with_reducible refine vd_id ?_); first | fail) | refine nzo ?_ | refine nc ?_ ?_ | (with_reducible intro _ <;> (try (exfalso; omega))) | refine vs_eqnil ?_ | refine vs_nenil ?_ | (refine nd ?_ ?_ <;> intro hg <;> (first | (exfalso; (try simp only [decide_eq_true_eq, decide_eq_false_iff_not] at hg); omega) | rw [hg])) | fail)
  refine vw_rounds 9 ?_
  repeat' (first | fail | fail | refine nzl ?_ | refine nzd ?_ | ((first | with_reducible refine vl_id ?_ | with_reducible refine vd_id ?_); first | (rw [h1]; first | refine cz (c1) ?_) | (rw [h2]; first | refine cz (c2) ?_) | (rw [h3]; first | refine cz (c3) ?_) | (rw [h4]; first | refine cz (c4) ?_) | (rw [h5]; first | refine cz (c5) ?_) | (rw [h6]; first | refine cz (c6) ?_) | (rw [h7]; first | refine cz (c7) ?_) | (rw [h8]; first | refine cz (c8) ?_) | refine cz (cr) ?_) | refine nzo ?_ | refine nc ?_ ?_ | (with_reducible intro _ <;> (try (exfalso; omega))) | refine vs_eqnil ?_ | refine vs_nenil ?_ | (refine nd ?_ ?_ <;> intro hg <;> (first | (exfalso; (try simp only [decide_eq_true_eq, decide_eq_false_iff_not] at hg); omega) | rw [hg])) | fail)
  all_goals (rename_i hx; cases r)
  all_goals first | rfl | (exact absurd hx (by decide))
end Go.Proofs.YtkjpcjccddggoaaGreat
