/- Walks by data and names, part 37: Layer 21, by V: bytes. Numbers as bytes: plain. Octet, by V: numbers laid. -/
import Derived.Test.YtkjpcjccddggoaaGreatQk28
import Derived.Test.YtkjpcjccddggoaaGreatQk36
import Derived.Test.YtkjpcjccddggoaaGreatQk25
namespace Go.Proofs.YtkjpcjccddggoaaGreat
open Go.RowKit
set_option maxRecDepth 10000
set_option maxHeartbeats 4000000
theorem equal_v (a b : List UInt8) : VP Tryz.prog 14 [bsD a, bsD b] (· = .ret (.lit (.bool (decide (a = b))))) := by
  refine vp_of Tryz.func14 rfl Tryz.ntmps14 rfl Tryz.results14 fun B => ?_
  have hb := byD_len b
  have ha := byD_len a
  repeat' (first | fail | fail | refine nzl ?_ | refine nzd ?_ | ((first | with_reducible refine vl_id ?_ | with_reducible refine vd_id ?_); first | fail) | refine nzo ?_ | refine nc ?_ ?_ | (with_reducible intro _ <;> (try (exfalso; omega))) | refine vs_eqnil ?_ | refine vs_nenil ?_ | (refine nd ?_ ?_ <;> intro hg <;> (first | (exfalso; (try simp only [decide_eq_true_eq, decide_eq_false_iff_not] at hg); omega) | rw [hg])) | fail)
  · rw [decide_eq_false (fun h => by subst h; omega)]
  · refine vw_each 0 a (fun x => [.lit (vb x)]) (fun (i : Nat) (_ : Unit) => ⟨[(13, I .i64 i), (12, I .i64 (byD a).length), (0, .d (.sl false false (byD a))), (1, .d (.sl false false (byD b)))], [], 0⟩) (fun i _ => decide (a = b) = decide (a.drop i = b.drop i)) () (sub_z) rfl (fun i y x hT hi hx hx' hlt hlm hlen hdr => ?_) (fun y hT hlt hlm => ?_)
    · have hlb : i < b.length := by omega
      have hb' : b[i]? = some b[i] := List.getElem?_eq_getElem hlb
      have hbd := List.drop_eq_getElem_cons hlb
      generalize b[i] = z at *
      have hbx : (byD b)[((i : Nat) : Int).toNat]? = some [.lit (vb z)] := by simp [hb']
      rw [hdr, hbd] at hT
      repeat' (first | fail | fail | refine nzl ?_ | refine nzd ?_ | ((first | with_reducible refine vl_id ?_ | with_reducible refine vd_id ?_); first | fail) | refine nzo ?_ | refine nc ?_ ?_ | (with_reducible intro _ <;> (try (exfalso; omega))) | refine vs_eqnil ?_ | refine vs_nenil ?_ | (refine nd ?_ ?_ <;> intro hg <;> (first | (exfalso; (try simp only [decide_eq_true_eq, decide_eq_false_iff_not] at hg); omega) | rw [hg])) | fail)
      · rename_i hne; rw [hT, decide_eq_false (fun h => u8_ne hne (List.cons.inj h).1)]
      · rename_i heq; refine nx_each () hi ?_ (sub_z)
        rw [hT, u8_eq heq]; simp
    · repeat' (first | fail | fail | refine nzl ?_ | refine nzd ?_ | ((first | with_reducible refine vl_id ?_ | with_reducible refine vd_id ?_); first | fail) | refine nzo ?_ | refine nc ?_ ?_ | (with_reducible intro _ <;> (try (exfalso; omega))) | refine vs_eqnil ?_ | refine vs_nenil ?_ | (refine nd ?_ ?_ <;> intro hg <;> (first | (exfalso; (try simp only [decide_eq_true_eq, decide_eq_false_iff_not] at hg); omega) | rw [hg])) | fail)
      rw [hT, List.drop_of_length_le (Nat.le_refl _), List.drop_of_length_le (by omega), decide_eq_true rfl]
theorem clone_v (b : List UInt8) (hb : b.length ≤ 140737488355328) : VP Tryz.prog 23 [bsD b] (· = .ret (.sl false true (byD b))) := by
  have hl := byD_len b
  refine VP.le ?_
  refine vp_of Tryz.func23 rfl Tryz.ntmps23 rfl Tryz.results23 fun B => ?_
  repeat' (first | fail | fail | refine nzl ?_ | refine nzd ?_ | ((first | with_reducible refine vl_id ?_ | with_reducible refine vd_id ?_); first | fail) | refine nzo ?_ | refine nc ?_ ?_ | (with_reducible intro _ <;> (try (exfalso; omega))) | refine vs_eqnil ?_ | refine vs_nenil ?_ | (refine nd ?_ ?_ <;> intro hg <;> (first | (exfalso; (try simp only [decide_eq_true_eq, decide_eq_false_iff_not] at hg); omega) | rw [hg])) | fail)
  · have : b = [] := List.eq_nil_of_length_eq_zero (by simp_all)
    subst this
    exact de_nil
  · exact de_refl _
theorem grow0_v : VP Tryz.prog 86 [.lit (.slice none 0 0), i64D 0] (· = .ret (.lit (.slice none 0 0))) := by
  refine vp_of Tryz.func86 rfl Tryz.ntmps86 rfl Tryz.results86 fun B => ?_
  repeat' (first | fail | fail | refine nzl ?_ | refine nzd ?_ | ((first | with_reducible refine vl_id ?_ | with_reducible refine vd_id ?_); first | refine vs_cap0 ?_) | refine nzo ?_ | refine nc ?_ ?_ | (with_reducible intro _ <;> (try (exfalso; omega))) | refine vs_eqnil ?_ | refine vs_nenil ?_ | (refine nd ?_ ?_ <;> intro hg <;> (first | (exfalso; (try simp only [decide_eq_true_eq, decide_eq_false_iff_not] at hg); omega) | rw [hg])) | fail)
  all_goals first | rfl | trace_state
theorem growp_v (n : Int) (h0 : 0 < n) (hb : n ≤ 140737488355328) : VP Tryz.prog 86 [.lit (.slice none 0 0), i64D n] (· = .own 5 1 []) := by
  refine vp_of Tryz.func86 rfl Tryz.ntmps86 rfl Tryz.results86 fun B => ?_
  repeat' (first | fail | fail | refine nzl ?_ | refine nzd ?_ | ((first | with_reducible refine vl_id ?_ | with_reducible refine vd_id ?_); first | refine vs_cap0 ?_ | refine vs_slnil ?_ | refine vs_appm (by omega) (by omega) ?_ | refine vs_slrow ?_) | refine nzo ?_ | refine nc ?_ ?_ | (with_reducible intro _ <;> (try (exfalso; omega))) | refine vs_eqnil ?_ | refine vs_nenil ?_ | (refine nd ?_ ?_ <;> intro hg <;> (first | (exfalso; (try simp only [decide_eq_true_eq, decide_eq_false_iff_not] at hg); omega) | rw [hg])) | fail)
  all_goals first | rfl | trace_state
abbrev fD (b : List UInt8) : List D := [bsD b]
def sumL (l : List (List UInt8)) : Nat := l.flatten.length
theorem sumL_take (l : List (List UInt8)) {i : Nat} {x : List UInt8} (h : l[i]? = some x) : sumL (l.take (i + 1)) = sumL (l.take i) + x.length := by
  rw [List.take_add_one, h]; simp [sumL]
theorem sumL_le (l : List (List UInt8)) (i : Nat) : sumL (l.take i) ≤ sumL l := by
  conv => rhs; rw [← List.take_append_drop i l]
  simp only [sumL, List.flatten_append, List.length_append]; omega
theorem concat_v (l : List (List UInt8)) (hb : sumL l ≤ 140737488355328) : VP Tryz.prog 34 [.sl false false (l.map fD)] (· = .ret (.sl false true (byD l.flatten))) := by
  refine VP.le ?_
  refine vp_of Tryz.func34 rfl Tryz.ntmps34 rfl Tryz.results34 fun B => ?_
  repeat' (first | fail | fail | refine nzl ?_ | refine nzd ?_ | ((first | with_reducible refine vl_id ?_ | with_reducible refine vd_id ?_); first | fail) | refine nzo ?_ | refine nc ?_ ?_ | (with_reducible intro _ <;> (try (exfalso; omega))) | refine vs_eqnil ?_ | refine vs_nenil ?_ | (refine nd ?_ ?_ <;> intro hg <;> (first | (exfalso; (try simp only [decide_eq_true_eq, decide_eq_false_iff_not] at hg); omega) | rw [hg])) | fail)
  refine vw_each 9 l fD (fun (i : Nat) (_ : Unit) => ⟨[(11, I .i64 i), (10, I .i64 (l.map fD).length), (9, .d (.sl false false (l.map fD))), (3, I .i64 (sumL (l.take i))), (0, .d (.sl false false (l.map fD)))], [], 0⟩) (fun i _ => True) () (sub_z) trivial (fun i y x hT hi hx hx' hlt hlm hlen hdr => ?_) (fun y hT hlt hlm => ?_)
  · have h1 := sumL_take l hx
    have h2 := sumL_le l (i + 1)
    have hxl := byD_len x
    repeat' (first | fail | fail | refine nzl ?_ | refine nzd ?_ | ((first | with_reducible refine vl_id ?_ | with_reducible refine vd_id ?_); first | fail) | refine nzo ?_ | refine nc ?_ ?_ | (with_reducible intro _ <;> (try (exfalso; omega))) | refine vs_eqnil ?_ | refine vs_nenil ?_ | (refine nd ?_ ?_ <;> intro hg <;> (first | (exfalso; (try simp only [decide_eq_true_eq, decide_eq_false_iff_not] at hg); omega) | rw [hg])) | fail)
    refine nx_each () hi trivial ?_
    rw [h1, Int.natCast_add, ← hxl]
    exact (sub_z)
  · rw [List.take_of_length_le (Nat.le_refl _)]
    rcases Nat.eq_zero_or_pos (sumL l) with hz | hp
    · have cg := grow0_v
      rw [hz, show ((0 : Nat) : Int) = 0 from rfl]
      repeat' (first | fail | fail | refine nzl ?_ | refine nzd ?_ | ((first | with_reducible refine vl_id ?_ | with_reducible refine vd_id ?_); first | refine cz (cg) ?_) | refine nzo ?_ | refine nc ?_ ?_ | (with_reducible intro _ <;> (try (exfalso; omega))) | refine vs_eqnil ?_ | refine vs_nenil ?_ | (refine nd ?_ ?_ <;> intro hg <;> (first | (exfalso; (try simp only [decide_eq_true_eq, decide_eq_false_iff_not] at hg); omega) | rw [hg])) | fail)
      refine vw_nilT 6 5 1 rfl ?_
      refine vw_each 25 l fD (fun (i : Nat) (_ : Unit) => ⟨[(27, I .i64 i), (26, I .i64 (l.map fD).length), (25, .d (.sl false false (l.map fD))), (6, .row 0 i)], [.r true true 0 i 5 1 (byD (l.take i).flatten)], 1⟩) (fun i _ => True) () (sub_z) trivial (fun i y x hT hi hx hx' hlt hlm hlen hdr => ?_) (fun y hT hlt hlm => ?_)
      · have h1 := sumL_take l hx
        have h2 := sumL_le l (i + 1)
        have hxl := byD_len x
        have hyl : (byD (l.take i).flatten).length = sumL (l.take i) := byD_len _
        have htk : byD (l.take (i + 1)).flatten = byD (l.take i).flatten ++ byD x := by rw [List.take_add_one, hx]; simp
        repeat' (first | fail | fail | refine nzl ?_ | refine nzd ?_ | ((first | with_reducible refine vl_id ?_ | with_reducible refine vd_id ?_); first | fail) | refine nzo ?_ | refine nc ?_ ?_ | (with_reducible intro _ <;> (try (exfalso; omega))) | refine vs_eqnil ?_ | refine vs_nenil ?_ | (refine nd ?_ ?_ <;> intro hg <;> (first | (exfalso; (try simp only [decide_eq_true_eq, decide_eq_false_iff_not] at hg); omega) | rw [hg])) | fail)
        refine nx_each () hi trivial ?_
        rw [htk]
        exact (sub_z)
      · repeat' (first | fail | fail | refine nzl ?_ | refine nzd ?_ | ((first | with_reducible refine vl_id ?_ | with_reducible refine vd_id ?_); first | fail) | refine nzo ?_ | refine nc ?_ ?_ | (with_reducible intro _ <;> (try (exfalso; omega))) | refine vs_eqnil ?_ | refine vs_nenil ?_ | (refine nd ?_ ?_ <;> intro hg <;> (first | (exfalso; (try simp only [decide_eq_true_eq, decide_eq_false_iff_not] at hg); omega) | rw [hg])) | fail)
        rw [List.take_of_length_le (Nat.le_refl _)]
        exact de_refl _
    · have cg := growp_v (sumL l) (by omega) (by omega)
      repeat' (first | fail | fail | refine nzl ?_ | refine nzd ?_ | ((first | with_reducible refine vl_id ?_ | with_reducible refine vd_id ?_); first | refine cz (cg) ?_) | refine nzo ?_ | refine nc ?_ ?_ | (with_reducible intro _ <;> (try (exfalso; omega))) | refine vs_eqnil ?_ | refine vs_nenil ?_ | (refine nd ?_ ?_ <;> intro hg <;> (first | (exfalso; (try simp only [decide_eq_true_eq, decide_eq_false_iff_not] at hg); omega) | rw [hg])) | fail)
      refine vw_each 25 l fD (fun (i : Nat) (_ : Unit) => ⟨[(27, I .i64 i), (26, I .i64 (l.map fD).length), (25, .d (.sl false false (l.map fD))), (6, .row 0 i)], [.r true true 0 i 5 1 (byD (l.take i).flatten)], 1⟩) (fun i _ => True) () (sub_z) trivial (fun i y x hT hi hx hx' hlt hlm hlen hdr => ?_) (fun y hT hlt hlm => ?_)
      · have h1 := sumL_take l hx
        have h2 := sumL_le l (i + 1)
        have hxl := byD_len x
        have hyl : (byD (l.take i).flatten).length = sumL (l.take i) := byD_len _
        have htk : byD (l.take (i + 1)).flatten = byD (l.take i).flatten ++ byD x := by rw [List.take_add_one, hx]; simp
        repeat' (first | fail | fail | refine nzl ?_ | refine nzd ?_ | ((first | with_reducible refine vl_id ?_ | with_reducible refine vd_id ?_); first | fail) | refine nzo ?_ | refine nc ?_ ?_ | (with_reducible intro _ <;> (try (exfalso; omega))) | refine vs_eqnil ?_ | refine vs_nenil ?_ | (refine nd ?_ ?_ <;> intro hg <;> (first | (exfalso; (try simp only [decide_eq_true_eq, decide_eq_false_iff_not] at hg); omega) | rw [hg])) | fail)
        refine nx_each () hi trivial ?_
        rw [htk]
        exact (sub_z)
      · repeat' (first | fail | fail | refine nzl ?_ | refine nzd ?_ | ((first | with_reducible refine vl_id ?_ | with_reducible refine vd_id ?_); first | fail) | refine nzo ?_ | refine nc ?_ ?_ | (with_reducible intro _ <;> (try (exfalso; omega))) | refine vs_eqnil ?_ | refine vs_nenil ?_ | (refine nd ?_ ?_ <;> intro hg <;> (first | (exfalso; (try simp only [decide_eq_true_eq, decide_eq_false_iff_not] at hg); omega) | rw [hg])) | fail)
        rw [List.take_of_length_le (Nat.le_refl _)]
        exact de_refl _
end Go.Proofs.YtkjpcjccddggoaaGreat

namespace Go.Proofs.YtkjpcjccddggoaaGreat
open Go.RowKit
/-- so many bytes of a number, the great ones first -/
def layN : Nat → Nat → List UInt8
  | 0, _ => []
  | w + 1, n => layN w (n / 256) ++ [UInt8.ofNat (n % 256)]
def numN (b : List UInt8) : Nat := b.foldl (fun a x => 256 * a + x.toNat) 0
theorem numN_snoc (b : List UInt8) (x : UInt8) : numN (b ++ [x]) = 256 * numN b + x.toNat := by simp [numN]
theorem layN_len : ∀ (w n : Nat), (layN w n).length = w
  | 0, _ => rfl
  | w + 1, n => by simp [layN, layN_len w]
theorem layN_cons : ∀ (w n : Nat), layN (w + 1) n = UInt8.ofNat (n / 256 ^ w % 256) :: layN w n
  | 0, n => by simp [layN]
  | w + 1, n => by
    rw [show layN (w + 1 + 1) n = layN (w + 1) (n / 256) ++ [UInt8.ofNat (n % 256)] from rfl, layN_cons w (n / 256)]
    simp only [layN, List.cons_append, Nat.div_div_eq_div_mul, Nat.pow_succ]
    rw [Nat.mul_comm]
theorem u8_of (n : Nat) (h : n < 256) : (UInt8.ofNat n).toNat = n := by simp []; omega
theorem vb_of (n : Nat) (h : n < 256) : vb (UInt8.ofNat n) = .int .u8 n := by simp only [vb, u8_of n h]
theorem numN_lt : ∀ (b : List UInt8), numN b < 256 ^ b.length := fun b => by
  suffices ∀ n (b : List UInt8), b.length = n → numN b < 256 ^ n from this _ b rfl
  intro n
  induction n with
  | zero => intro b hb; have := List.eq_nil_of_length_eq_zero hb; subst this; simp [numN]
  | succ n ih =>
    intro b hb
    obtain ⟨c, x, rfl⟩ : ∃ c x, b = c ++ [x] := ⟨b.dropLast, b.getLast (by intro h; simp [h] at hb), (List.dropLast_concat_getLast _).symm⟩
    have h1 := ih c (by simpa using hb)
    have h2 := x.toNat_lt
    rw [numN_snoc, Nat.pow_succ]; omega
theorem pow_le (a b : Nat) (h : a ≤ b) : 256 ^ a ≤ 256 ^ b := Nat.pow_le_pow_right (by omega) h
theorem numN_small (b : List UInt8) (h : b.length ≤ 7) : numN b < 72057594037927936 := Nat.lt_of_lt_of_le (numN_lt b) (pow_le _ 7 h)
theorem wrap_82 (n : Nat) : IntKind.u8.wrap (n : Int) = ((n % 256 : Nat) : Int) := by
  rw [show (n : Int) = 256 * ((n / 256 : Nat) : Int) + ((n % 256 : Nat) : Int) by omega]; simp [IntKind.wrap, IntKind.bits, IntKind.signed]
theorem rem_step (w n : Nat) : n / 256 ^ w % 256 < 256 := Nat.mod_lt _ (by omega)
set_option maxRecDepth 10000
set_option maxHeartbeats 4000000
end Go.Proofs.YtkjpcjccddggoaaGreat

namespace Go.Proofs.YtkjpcjccddggoaaGreat
open Go.RowKit
set_option maxRecDepth 10000
set_option maxHeartbeats 4000000
theorem oneed_ok (e : Int) : VP Tryz.prog 104 [.lit (.bool true), i64D e] (· = .ret (.tup [])) := by
  refine vp_of Tryz.func104 rfl Tryz.ntmps104 rfl Tryz.results104 fun B => ?_
  repeat' (first | fail | fail | refine nzl ?_ | refine nzd ?_ | ((first | with_reducible refine vl_id ?_ | with_reducible refine vd_id ?_); first | fail) | refine nzo ?_ | refine nc ?_ ?_ | (with_reducible intro _ <;> (try (exfalso; omega))) | refine vs_eqnil ?_ | refine vs_nenil ?_ | (refine nd ?_ ?_ <;> intro hg <;> (first | (exfalso; (try simp only [decide_eq_true_eq, decide_eq_false_iff_not] at hg); omega) | rw [hg])) | fail)
  all_goals rfl
theorem oneed_no (e : Int) : VP Tryz.prog 104 [.lit (.bool false), i64D e] (· = .panic (errD e)) := by
  refine vp_of Tryz.func104 rfl Tryz.ntmps104 rfl Tryz.results104 fun B => ?_
  repeat' (first | fail | fail | refine nzl ?_ | refine nzd ?_ | ((first | with_reducible refine vl_id ?_ | with_reducible refine vd_id ?_); first | fail) | refine nzo ?_ | refine nc ?_ ?_ | (with_reducible intro _ <;> (try (exfalso; omega))) | refine vs_eqnil ?_ | refine vs_nenil ?_ | (refine nd ?_ ?_ <;> intro hg <;> (first | (exfalso; (try simp only [decide_eq_true_eq, decide_eq_false_iff_not] at hg); omega) | rw [hg])) | fail)
  all_goals rfl
theorem oneed_if (c : Bool) (e : Int) : VP Tryz.prog 104 [.lit (.bool c), i64D e] (· = if c then .ret (.tup []) else .panic (errD e)) := by
  cases c with
  | true => exact oneed_ok e
  | false => exact oneed_no e
theorem ois_v (w : Int) (h : 1 ≤ w ∧ w ≤ 8) : VP Tryz.prog 132 [i64D w] (· = .ret (.lit (.bool true))) := by
  refine vp_of Tryz.func132 rfl Tryz.ntmps132 rfl Tryz.results132 fun B => ?_
  repeat' (first | fail | fail | refine nzl ?_ | refine nzd ?_ | ((first | with_reducible refine vl_id ?_ | with_reducible refine vd_id ?_); first | fail) | refine nzo ?_ | refine nc ?_ ?_ | (with_reducible intro _ <;> (try (exfalso; omega))) | refine vs_eqnil ?_ | refine vs_nenil ?_ | (refine nd ?_ ?_ <;> intro hg <;> (first | (exfalso; (try simp only [decide_eq_true_eq, decide_eq_false_iff_not] at hg); omega) | rw [hg])) | fail)
  all_goals simp; omega
theorem or_step (n x : Nat) (hn : n < 72057594037927936) (hx : x < 256) : IntKind.u64.wrap ((BitVec.ofInt IntKind.u64.bits (IntKind.u64.wrap ((n : Int) * 2 ^ min (Int.toNat 8) IntKind.u64.bits)) ||| BitVec.ofInt IntKind.u64.bits (x : Int)).toNat : Nat) = ((256 * n + x : Nat) : Int) := by
  rw [show ((n : Int) * 2 ^ min (Int.toNat 8) IntKind.u64.bits) = ((256 * n : Nat) : Int) by rw [show (2 : Int) ^ min (Int.toNat 8) IntKind.u64.bits = 256 from rfl]; omega]
  rw [show IntKind.u64.wrap ((256 * n : Nat) : Int) = ((256 * n : Nat) : Int) from wrap_in (by simp only [inK]; omega)]
  have h : (BitVec.ofInt IntKind.u64.bits ((256 * n : Nat) : Int) ||| BitVec.ofInt IntKind.u64.bits (x : Int)).toNat = 256 * n + x := by
    rw [BitVec.toNat_or, BitVec.ofInt_natCast, BitVec.ofInt_natCast, BitVec.toNat_ofNat, BitVec.toNat_ofNat, show (2 : Nat) ^ IntKind.u64.bits = 18446744073709551616 from rfl, Nat.mod_eq_of_lt (by omega), Nat.mod_eq_of_lt (by omega)]
    have := Nat.shiftLeft_add_eq_or_of_lt (i := 8) (b := x) (by omega) n
    rw [Nat.shiftLeft_eq, show 2 ^ 8 = 256 from rfl] at this
    rw [Nat.mul_comm 256 n, ← this]
  rw [h, wrap_in (by simp only [inK]; omega)]
theorem onum_v (b : List UInt8) (hb : b.length ≤ 8) : VP Tryz.prog 156 [bsD b] (· = .ret (u64D (numN b))) := by
  refine vp_of Tryz.func156 rfl Tryz.ntmps156 rfl Tryz.results156 fun B => ?_
  have ha := byD_len b
  repeat' (first | fail | fail | refine nzl ?_ | refine nzd ?_ | ((first | with_reducible refine vl_id ?_ | with_reducible refine vd_id ?_); first | fail) | refine nzo ?_ | refine nc ?_ ?_ | (with_reducible intro _ <;> (try (exfalso; omega))) | refine vs_eqnil ?_ | refine vs_nenil ?_ | (refine nd ?_ ?_ <;> intro hg <;> (first | (exfalso; (try simp only [decide_eq_true_eq, decide_eq_false_iff_not] at hg); omega) | rw [hg])) | fail)
  refine vw_each 6 b (fun x => [.lit (vb x)]) (fun (i : Nat) (_ : Unit) => ⟨[(8, I .i64 i), (7, I .i64 (byD b).length), (6, .d (.sl false false (byD b))), (3, I .u64 (numN (b.take i)))], [], 0⟩) (fun i _ => True) () (sub_z) trivial (fun i y x hT hi hx hx' hlt hlm hlen hdr => ?_) (fun y hT hlt hlm => ?_)
  · have htk : numN (b.take (i + 1)) = 256 * numN (b.take i) + x.toNat := by rw [List.take_add_one, hx]; exact numN_snoc _ _
    have h1 := numN_small (b.take i) (by simp; omega)
    have h2 := x.toNat_lt
    repeat' (first | fail | fail | refine nzl ?_ | refine nzd ?_ | ((first | with_reducible refine vl_id ?_ | with_reducible refine vd_id ?_); first | fail) | refine nzo ?_ | refine nc ?_ ?_ | (with_reducible intro _ <;> (try (exfalso; omega))) | refine vs_eqnil ?_ | refine vs_nenil ?_ | (refine nd ?_ ?_ <;> intro hg <;> (first | (exfalso; (try simp only [decide_eq_true_eq, decide_eq_false_iff_not] at hg); omega) | rw [hg])) | fail)
    refine nx_each () hi trivial ?_
    rw [or_step _ _ h1 h2, ← htk]
    exact (sub_z)
  · repeat' (first | fail | fail | refine nzl ?_ | refine nzd ?_ | ((first | with_reducible refine vl_id ?_ | with_reducible refine vd_id ?_); first | fail) | refine nzo ?_ | refine nc ?_ ?_ | (with_reducible intro _ <;> (try (exfalso; omega))) | refine vs_eqnil ?_ | refine vs_nenil ?_ | (refine nd ?_ ?_ <;> intro hg <;> (first | (exfalso; (try simp only [decide_eq_true_eq, decide_eq_false_iff_not] at hg); omega) | rw [hg])) | fail)
    rw [List.take_of_length_le (Nat.le_refl _)]
theorem behind_v (a b : List UInt8) (h : a.length + b.length ≤ 140737488355328) : VP Tryz.prog 152 [bsD a, bsD b] (· = .own 5 1 (byD (a ++ b))) := by
  refine vp_of Tryz.func152 rfl Tryz.ntmps152 rfl Tryz.results152 fun B => ?_
  have ha := byD_len a
  have hb := byD_len b
  repeat' (first | fail | fail | refine nzl ?_ | refine nzd ?_ | ((first | with_reducible refine vl_id ?_ | with_reducible refine vd_id ?_); first | refine vs_makec ?_) | refine nzo ?_ | refine nc ?_ ?_ | (with_reducible intro _ <;> (try (exfalso; omega))) | refine vs_eqnil ?_ | refine vs_nenil ?_ | (refine nd ?_ ?_ <;> intro hg <;> (first | (exfalso; (try simp only [decide_eq_true_eq, decide_eq_false_iff_not] at hg); omega) | rw [hg])) | fail)
  all_goals simp [byD]
theorem shr_lay (n k : Nat) (h : k ≤ 8) : (n : Int).fdiv (2 ^ min (8 * (k : Int)).toNat IntKind.u64.bits) = ((n / 256 ^ k : Nat) : Int) := by
  rw [show min (8 * (k : Int)).toNat IntKind.u64.bits = 8 * k by rw [show IntKind.u64.bits = 64 from rfl]; omega, Int.fdiv_eq_ediv_of_nonneg _ (Int.pow_nonneg (by omega)), show (256 : Nat) = 2 ^ 8 from rfl, ← Nat.pow_mul]
  simp
theorem lay_map (w n : Nat) (h : w ≤ 8) : byD (layN (w + 1) n) = [.lit (.int .u8 (IntKind.u8.wrap ((n : Int).fdiv (2 ^ min (8 * (w : Int)).toNat IntKind.u64.bits))))] :: byD (layN w n) := by
  rw [layN_cons, shr_lay n w h, wrap_82]
  simp only [byD, List.map_cons, vb_of _ (rem_step w n)]
theorem laid_v (w n : Nat) (hw : 1 ≤ w ∧ w ≤ 8) (hn : n < 256 ^ w) : VP Tryz.prog 105 [i64D w, u64D n] (· = .ret (bsD (layN w n))) := by
  have ci := ois_v w (by omega)
  have hz : (n : Int).fdiv (2 ^ min (8 * (w : Int)).toNat IntKind.u64.bits) = 0 := by rw [shr_lay n w hw.2, Nat.div_eq_of_lt hn]; rfl
  have c2 := oneed_ok 112
  rw [← decide_eq_true hz] at c2
  have h8 : w = 1 ∨ w = 2 ∨ w = 3 ∨ w = 4 ∨ w = 5 ∨ w = 6 ∨ w = 7 ∨ w = 8 := by omega
  rcases h8 with rfl | rfl | rfl | rfl | rfl | rfl | rfl | rfl
  all_goals
    refine vp_of Tryz.func105 rfl Tryz.ntmps105 rfl Tryz.results105 fun B => ?_
    repeat' (first | fail | fail | refine nzl ?_ | refine nzd ?_ | ((first | with_reducible refine vl_id ?_ | with_reducible refine vd_id ?_); first | refine cz (ci) ?_ | refine cz (oneed_ok 111) ?_ | refine cz (oneed_ok 112) ?_ | refine cz (c2) ?_) | refine nzo ?_ | refine nc ?_ ?_ | (with_reducible intro _ <;> (try (exfalso; omega))) | refine vs_eqnil ?_ | refine vs_nenil ?_ | (refine nd ?_ ?_ <;> intro hg <;> (first | (exfalso; (try simp only [decide_eq_true_eq, decide_eq_false_iff_not] at hg); omega) | rw [hg])) | fail)
    refine vw_rounds 9 ?_
    repeat' (first | fail | fail | refine nzl ?_ | refine nzd ?_ | ((first | with_reducible refine vl_id ?_ | with_reducible refine vd_id ?_); first | refine vs_slicelo ?_) | refine nzo ?_ | refine nc ?_ ?_ | (with_reducible intro _ <;> (try (exfalso; omega))) | refine vs_eqnil ?_ | refine vs_nenil ?_ | (refine nd ?_ ?_ <;> intro hg <;> (first | (exfalso; (try simp only [decide_eq_true_eq, decide_eq_false_iff_not] at hg); omega) | rw [hg])) | fail)
  all_goals (show _ = R.ret (.sl false false (byD _)))
  all_goals (repeat rw [lay_map _ n (by omega)])
  all_goals rfl
end Go.Proofs.YtkjpcjccddggoaaGreat

namespace Go.Proofs.YtkjpcjccddggoaaGreat
open Go.RowKit
set_option maxRecDepth 10000
set_option maxHeartbeats 4000000
theorem put_v (b : List UInt8) (w n : Nat) (hw : 1 ≤ w ∧ w ≤ 8) (hn : n < 256 ^ w) (hb : b.length ≤ 100000000) : VP Tryz.prog 135 [bsD b, i64D w, u64D n] (· = .ret (.tup [.sl false true (byD (b ++ layN w n)), i64D 0])) := by
  have c1 := laid_v w n hw hn
  have c2 := behind_v b (layN w n) (by rw [layN_len]; omega)
  refine vp_of Tryz.func135 rfl Tryz.ntmps135 rfl Tryz.results135 fun B => ?_
  repeat' (first | fail | fail | refine nzl ?_ | refine nzd ?_ | ((first | with_reducible refine vl_id ?_ | with_reducible refine vd_id ?_); first | refine cz (c1) ?_ | refine cz (c2) ?_ | refine vs_vc (hc := vc_of Tryz.func151 rfl Tryz.ntmps151 Tryz.results151 fun _ => ?_) | refine vs_vc (hc := vc_tries (fd := 131) Tryz.func101 rfl Tryz.ntmps101 Tryz.results101 fun _ => ?_)) | refine nzo ?_ | refine nc ?_ ?_ | (with_reducible intro _ <;> (try (exfalso; omega))) | refine vs_eqnil ?_ | refine vs_nenil ?_ | (refine nd ?_ ?_ <;> intro hg <;> (first | (exfalso; (try simp only [decide_eq_true_eq, decide_eq_false_iff_not] at hg); omega) | rw [hg])) | refine vdf_of Tryz.func131 rfl Tryz.ntmps131 Tryz.results131 ?_)
  all_goals first | rfl | trace_state
theorem size2_v : VP Tryz.prog 103 [.sl false false [[i64D 8], [i64D 8]]] (· = .ret (i64D 16)) := by
  have ci := ois_v 8 (by omega)
  have hl : ([[i64D 8], [i64D 8]] : List (List D)).length = 2 := rfl
  refine vp_of Tryz.func103 rfl Tryz.ntmps103 rfl Tryz.results103 fun B => ?_
  repeat' (first | fail | fail | refine nzl ?_ | refine nzd ?_ | ((first | with_reducible refine vl_id ?_ | with_reducible refine vd_id ?_); first | fail) | refine nzo ?_ | refine nc ?_ ?_ | (with_reducible intro _ <;> (try (exfalso; omega))) | refine vs_eqnil ?_ | refine vs_nenil ?_ | (refine nd ?_ ?_ <;> intro hg <;> (first | (exfalso; (try simp only [decide_eq_true_eq, decide_eq_false_iff_not] at hg); omega) | rw [hg])) | fail)
  refine vw_rounds 3 ?_
  repeat' (first | fail | fail | refine nzl ?_ | refine nzd ?_ | ((first | with_reducible refine vl_id ?_ | with_reducible refine vd_id ?_); first | refine cz (ci) ?_ | refine cz (oneed_ok 111) ?_) | refine nzo ?_ | refine nc ?_ ?_ | (with_reducible intro _ <;> (try (exfalso; omega))) | refine vs_eqnil ?_ | refine vs_nenil ?_ | (refine nd ?_ ?_ <;> intro hg <;> (first | (exfalso; (try simp only [decide_eq_true_eq, decide_eq_false_iff_not] at hg); omega) | rw [hg])) | fail)
  all_goals first | rfl | trace_state
theorem lay2_v (a b : Nat) (ha : a < 18446744073709551616) (hb : b < 18446744073709551616) : VP Tryz.prog 69 [.sl false false [[i64D 8], [i64D 8]], .sl false false [[u64D a], [u64D b]]] (· = .ret (.tup [.sl false true (byD (layN 8 a ++ layN 8 b)), i64D 0])) := by
  have c1 := laid_v 8 a (by omega) (by simpa using ha)
  have c2 := laid_v 8 b (by omega) (by simpa using hb)
  have l1 := layN_len 8 a
  have l2 := layN_len 8 b
  have hl : ([[i64D 8], [i64D 8]] : List (List D)).length = 2 := rfl
  have hl2 : ([[u64D a], [u64D b]] : List (List D)).length = 2 := rfl
  refine VP.le ?_
  refine vp_of Tryz.func69 rfl Tryz.ntmps69 rfl Tryz.results69 fun B => ?_
  repeat' (first | fail | fail | refine nzl ?_ | refine nzd ?_ | ((first | with_reducible refine vl_id ?_ | with_reducible refine vd_id ?_); first | refine cz (size2_v) ?_ | (refine vq_l (oneed_ok 2) ?_; first | refine vs_call (oneed_ok 2) ?_ | refine vs_pan (oneed_no 2) ?_ | (refine vs_cifp (oneed_if _ 2) ?_ ?_ <;> intro _ <;> (try (exfalso; omega))) | (refine vs_cif (oneed_if _ 2) ?_ ?_ <;> intro _)) | refine vs_vc (hc := vc_of Tryz.func102 rfl Tryz.ntmps102 Tryz.results102 fun _ => ?_) | refine vs_vc (hc := vc_tries (fd := 131) Tryz.func101 rfl Tryz.ntmps101 Tryz.results101 fun _ => ?_)) | refine nzo ?_ | refine nc ?_ ?_ | (with_reducible intro _ <;> (try (exfalso; omega))) | refine vs_eqnil ?_ | refine vs_nenil ?_ | (refine nd ?_ ?_ <;> intro hg <;> (first | (exfalso; (try simp only [decide_eq_true_eq, decide_eq_false_iff_not] at hg); omega) | rw [hg])) | refine vdf_of Tryz.func131 rfl Tryz.ntmps131 Tryz.results131 ?_)
  refine vw_nilT 3 5 1 rfl ?_
  refine vw_rounds 3 ?_
  repeat' (first | fail | fail | refine nzl ?_ | refine nzd ?_ | ((first | with_reducible refine vl_id ?_ | with_reducible refine vd_id ?_); first | refine cz (c1) ?_ | refine cz (c2) ?_) | refine nzo ?_ | refine nc ?_ ?_ | (with_reducible intro _ <;> (try (exfalso; omega))) | refine vs_eqnil ?_ | refine vs_nenil ?_ | (refine nd ?_ ?_ <;> intro hg <;> (first | (exfalso; (try simp only [decide_eq_true_eq, decide_eq_false_iff_not] at hg); omega) | rw [hg])) | refine vdf_of Tryz.func131 rfl Tryz.ntmps131 Tryz.results131 ?_)
  rw [show [] ++ byD (layN 8 a) ++ byD (layN 8 b) = byD (layN 8 a ++ layN 8 b) by simp [byD]]
  exact de_refl _
theorem cutN (b : List UInt8) (n : Nat) : cutL none (some (n : Int)) (byD b) = byD (b.take n) := by
  rw [cutL_eq]; simp [byD, List.map_take]
theorem cutD (b : List UInt8) (n : Nat) : cutL (some (n : Int)) none (byD b) = byD (b.drop n) := cutB _ b n
theorem rdnum_v (f : Bool) (b : List UInt8) (w : Nat) (hw : 1 ≤ w ∧ w ≤ 8) (h : w ≤ b.length) : VM1 Tryz.prog 142 1 [.ptr 0 0, .d (i64D w)] [.c 0 0 [.d (.sl false f (byD b)), .d (i64D 0)]] 1 (.ret (.d (u64D (numN (b.take w))))) [.c 0 0 [.d (.sl false f (byD (b.drop w))), .d (i64D 0)]] 1 := by
  have ci := ois_v w (by omega)
  have cn := onum_v (b.take w) (by simp; omega)
  have hl := byD_len b
  have hc := cutN b w
  have hd := cutD b w
  refine vm1_of Tryz.func142 rfl Tryz.ntmps142 Tryz.results142 fun B M => ?_
  repeat' (first | fail | fail | refine nzl ?_ | refine nzd ?_ | ((first | with_reducible refine vl_id ?_ | with_reducible refine vd_id ?_); first | refine cz (ci) ?_ | (refine vq_l (oneed_ok 111) ?_; first | refine vs_call (oneed_ok 111) ?_ | refine vs_pan (oneed_no 111) ?_ | (refine vs_cifp (oneed_if _ 111) ?_ ?_ <;> intro _ <;> (try (exfalso; omega))) | (refine vs_cif (oneed_if _ 111) ?_ ?_ <;> intro _)) | (refine vq_l (oneed_ok 2) ?_; first | refine vs_call (oneed_ok 2) ?_ | refine vs_pan (oneed_no 2) ?_ | (refine vs_cifp (oneed_if _ 2) ?_ ?_ <;> intro _ <;> (try (exfalso; omega))) | (refine vs_cif (oneed_if _ 2) ?_ ?_ <;> intro _)) | (refine vq_l (oneed_ok 110) ?_; first | refine vs_call (oneed_ok 110) ?_ | refine vs_pan (oneed_no 110) ?_ | (refine vs_cifp (oneed_if _ 110) ?_ ?_ <;> intro _ <;> (try (exfalso; omega))) | (refine vs_cif (oneed_if _ 110) ?_ ?_ <;> intro _)) | (rw [hc]; first | refine cz (cn) ?_) | refine vs_vc (hc := vc_of Tryz.func157 rfl Tryz.ntmps157 Tryz.results157 fun _ => ?_) | refine vs_vc (hc := vc_of Tryz.func155 rfl Tryz.ntmps155 Tryz.results155 fun _ => ?_) | refine vs_vc (hc := vc_of Tryz.func154 rfl Tryz.ntmps154 Tryz.results154 fun _ => ?_) | refine vs_eqpn ?_ | refine vs_nepn ?_ | refine vs_vc (hc := vc_tries (fd := 161) Tryz.func160 rfl Tryz.ntmps160 Tryz.results160 fun _ => ?_)) | refine nzo ?_ | refine nc ?_ ?_ | (with_reducible intro _ <;> (try (exfalso; omega))) | refine vs_eqnil ?_ | refine vs_nenil ?_ | (refine nd ?_ ?_ <;> intro hg <;> (first | (exfalso; (try simp only [decide_eq_true_eq, decide_eq_false_iff_not] at hg); omega) | rw [hg])) | refine vdf_of Tryz.func161 rfl Tryz.ntmps161 Tryz.results161 ?_)
  rw [hd]
  exact nx_sub []
theorem rdnum_no (f : Bool) (b : List UInt8) (w : Nat) (hw : 1 ≤ w ∧ w ≤ 8) (h : ¬ w ≤ b.length) : VM1 Tryz.prog 142 1 [.ptr 0 0, .d (i64D w)] [.c 0 0 [.d (.sl false f (byD b)), .d (i64D 0)]] 1 (.ret (.d (u64D 0))) [.c 0 0 [.d (.sl false f (byD b)), .d (i64D 110)]] 1 := by
  have ci := ois_v w (by omega)
  have hl := byD_len b
  refine vm1_of Tryz.func142 rfl Tryz.ntmps142 Tryz.results142 fun B M => ?_
  repeat' (first | fail | fail | refine nzl ?_ | refine nzd ?_ | ((first | with_reducible refine vl_id ?_ | with_reducible refine vd_id ?_); first | refine cz (ci) ?_ | (refine vq_l (oneed_ok 111) ?_; first | refine vs_call (oneed_ok 111) ?_ | refine vs_pan (oneed_no 111) ?_ | (refine vs_cifp (oneed_if _ 111) ?_ ?_ <;> intro _ <;> (try (exfalso; omega))) | (refine vs_cif (oneed_if _ 111) ?_ ?_ <;> intro _)) | (refine vq_l (oneed_ok 2) ?_; first | refine vs_call (oneed_ok 2) ?_ | refine vs_pan (oneed_no 2) ?_ | (refine vs_cifp (oneed_if _ 2) ?_ ?_ <;> intro _ <;> (try (exfalso; omega))) | (refine vs_cif (oneed_if _ 2) ?_ ?_ <;> intro _)) | (refine vq_l (oneed_ok 110) ?_; first | refine vs_call (oneed_ok 110) ?_ | refine vs_pan (oneed_no 110) ?_ | (refine vs_cifp (oneed_if _ 110) ?_ ?_ <;> intro _ <;> (try (exfalso; omega))) | (refine vs_cif (oneed_if _ 110) ?_ ?_ <;> intro _)) | refine vs_vc (hc := vc_of Tryz.func157 rfl Tryz.ntmps157 Tryz.results157 fun _ => ?_) | refine vs_vc (hc := vc_of Tryz.func155 rfl Tryz.ntmps155 Tryz.results155 fun _ => ?_) | refine vs_vc (hc := vc_of Tryz.func154 rfl Tryz.ntmps154 Tryz.results154 fun _ => ?_) | refine vs_eqpn ?_ | refine vs_nepn ?_ | refine vs_vc (hc := vc_tries (fd := 161) Tryz.func160 rfl Tryz.ntmps160 Tryz.results160 fun _ => ?_)) | refine nzo ?_ | refine nc ?_ ?_ | (with_reducible intro _ <;> (try (exfalso; omega))) | refine vs_eqnil ?_ | refine vs_nenil ?_ | (refine nd ?_ ?_ <;> intro hg <;> (first | (exfalso; (try simp only [decide_eq_true_eq, decide_eq_false_iff_not] at hg); omega) | rw [hg])) | refine vdf_of Tryz.func161 rfl Tryz.ntmps161 Tryz.results161 ?_)
  exact nx_sub []
end Go.Proofs.YtkjpcjccddggoaaGreat
