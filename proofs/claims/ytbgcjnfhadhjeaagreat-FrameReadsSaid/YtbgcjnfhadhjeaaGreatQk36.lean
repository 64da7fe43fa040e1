/- Walks by data and names, part 36: The document's layer 19, by V: what is taken from bytes: stamps, what a kind uses. -/
import Derived.Test.YtbgcjnfhadhjeaaGreatQk31
import Derived.Test.YtbgcjnfhadhjeaaGreatQk35
namespace Go.Proofs.YtbgcjnfhadhjeaaGreat
set_option maxRecDepth 20000
open Go.RowKit
set_option maxRecDepth 10000
set_option maxHeartbeats 8000000
def Zz : List UInt8 → Int × Int
 | [] => (0, 0)
 | x :: b => if 1 ≤ x.toNat ∧ x.toNat ≤ 8 then (match b with
  | [] => (x.toNat, 0)
  | y :: _ => if 1 ≤ y.toNat ∧ y.toNat ≤ 8 then (x.toNat, y.toNat) else (x.toNat, 0)) else (0, 0)
def WT (b : List UInt8) : Except Int ((Nat × Nat × List BO) × List UInt8) → D
 | .error e => .tup [.agg [An (Zz b).1, An (Zz b).2, .lit (.slice none 0 0)], .lit (.slice none 0 0), An e]
 | .ok ((w, h, l), t) => .tup [.agg [An w, An h, .sl false true (l.map Cq)], BD t, An 0]
theorem AbA (b : List UInt8) : VP Tryz.prog 231 [BD b] (· = .ret (WT b (Er b))) := by
 refine VP.le ?_
 refine Al fun B => ?_
 repeat' (first | refine Ai ?_ | refine Ah ?_ | refine nc ?_ ?_ | (with_reducible intro _ <;> (try (exfalso; omega))) | refine Aa ?_ | (refine nd ?_ ?_ <;> intro hg <;> first | exact xo hg | rw [hg]))
 refine AB 3 ?_
 repeat' (first | refine Ai ?_ | refine Ah ?_ | refine nc ?_ ?_ | (with_reducible intro _ <;> (try (exfalso; omega))) | refine Aa ?_ | (refine nd ?_ ?_ <;> intro hg <;> first | exact xo hg | rw [hg]))
 have e0 : CS [] = .error 110 := rfl
 rcases b with _ | ⟨x, b⟩
 ·have c := Dm
  repeat' (first | refine Ai ?_ | (refine As ?_; first | refine cz (c) ?_) | refine Ah ?_ | refine nc ?_ ?_ | (with_reducible intro _ <;> (try (exfalso; omega))) | refine Aa ?_ | (refine nd ?_ ?_ <;> intro hg <;> first | exact xo hg | rw [hg]))
  all_goals (simp only [WT, Zz, Er, e0, Cm]; infer_instance)
 have c := Dl x b
 have hx := x.toNat_lt
 have e1 : CS (x :: b) = if 1 ≤ x.toNat ∧ x.toNat ≤ 8 then .ok (x.toNat, b) else .error 290 := rfl
 by_cases h : 1 ≤ x.toNat ∧ x.toNat ≤ 8
 rotate_left 1
 ·rw [if_neg h] at e1
  repeat' (first | refine Ai ?_ | (refine As ?_; first | refine cz (c) ?_) | refine Ah ?_ | refine nc ?_ ?_ | (with_reducible intro _ <;> (try (exfalso; omega))) | refine Aa ?_ | (refine nd ?_ ?_ <;> intro hg <;> first | exact xo hg | rw [hg]))
  all_goals first | (exfalso; omega) | (simp only [WT, Zz, Er, e1, if_neg h, Cm]; infer_instance)
 rw [if_pos h] at e1
 repeat' (first | refine Ai ?_ | (refine As ?_; first | refine cz (c) ?_) | refine Ah ?_ | refine nc ?_ ?_ | (with_reducible intro _ <;> (try (exfalso; omega))) | refine Aa ?_ | (refine nd ?_ ?_ <;> intro hg <;> first | exact xo hg | rw [hg]))
 rcases b with _ | ⟨y, b⟩
 ·have c := Dm
  repeat' (first | refine Ai ?_ | (refine As ?_; first | refine cz (c) ?_) | refine Ah ?_ | refine nc ?_ ?_ | (with_reducible intro _ <;> (try (exfalso; omega))) | refine Aa ?_ | (refine nd ?_ ?_ <;> intro hg <;> first | exact xo hg | rw [hg]))
  all_goals (simp only [WT, Zz, Er, e1, e0, if_pos h, Cm]; infer_instance)
 have c := Dl y b
 have hy := y.toNat_lt
 have e2 : CS (y :: b) = if 1 ≤ y.toNat ∧ y.toNat ≤ 8 then .ok (y.toNat, b) else .error 290 := rfl
 by_cases h2 : 1 ≤ y.toNat ∧ y.toNat ≤ 8
 rotate_left 1
 ·rw [if_neg h2] at e2
  repeat' (first | refine Ai ?_ | (refine As ?_; first | refine cz (c) ?_) | refine Ah ?_ | refine nc ?_ ?_ | (with_reducible intro _ <;> (try (exfalso; omega))) | refine Aa ?_ | (refine nd ?_ ?_ <;> intro hg <;> first | exact xo hg | rw [hg]))
  all_goals first | (exfalso; omega) | (simp only [WT, Zz, Er, e1, e2, if_pos h, if_neg h2, Cm]; infer_instance)
 rw [if_pos h2] at e2
 have hm : 0 ≤ (x.toNat : Int) * y.toNat ∧ (x.toNat : Int) * y.toNat ≤ 64 := ⟨Int.mul_nonneg (by omega) (by omega), by
  have := Int.mul_le_mul (show (x.toNat : Int) ≤ 8 by omega) (show (y.toNat : Int) ≤ 8 by omega) (by omega) (by omega : (0 : Int) ≤ 8); omega⟩
 have hm2 : x.toNat * y.toNat ≤ 64 := by have := Nat.mul_le_mul h.2 h2.2; omega
 repeat' (first | refine Ai ?_ | (refine As ?_; first | refine cz (c) ?_) | refine Ah ?_ | refine nc ?_ ?_ | (with_reducible intro _ <;> (try (exfalso; omega))) | refine Aa ?_ | (refine nd ?_ ?_ <;> intro hg <;> first | exact xo hg | rw [hg]))
 cases hp : EX (x.toNat * y.toNat) b with
 | none =>
  have c := NW b (x.toNat * y.toNat) hm2 (Decidable.byContradiction fun hh => by
   obtain ⟨l, q, _⟩ := Nq (x.toNat * y.toNat) b (by omega)
   rw [hp] at q; cases q)
  rw [An, Int.natCast_mul] at c
  repeat' (first | refine Ai ?_ | (refine As ?_; first | refine cz (c) ?_) | refine Ah ?_ | refine nc ?_ ?_ | (with_reducible intro _ <;> (try (exfalso; omega))) | refine Aa ?_ | (refine nd ?_ ?_ <;> intro hg <;> first | exact xo hg | rw [hg]))
  all_goals (simp only [WT, Zz, Er, e1, e2, if_pos h, if_pos h2, hp, Cm]; infer_instance)
 | some q =>
  obtain ⟨l, t⟩ := q
  have c := NV b (x.toNat * y.toNat) hm2 hp
  rw [An, Int.natCast_mul] at c
  repeat' (first | refine Ai ?_ | (refine As ?_; first | refine cz (c) ?_) | refine Ah ?_ | refine nc ?_ ?_ | (with_reducible intro _ <;> (try (exfalso; omega))) | refine Aa ?_ | (refine nd ?_ ?_ <;> intro hg <;> first | exact xo hg | rw [hg]))
  all_goals (simp only [WT, Er, e1, e2, hp, Cm]; infer_instance)
def gB (b : List UInt8) (i : Nat) : Int := match b[i]? with
 | some x => (x.toNat : Int) + -64
 | none => 0
def gS : List UInt8 → Int
 | p :: q :: _ => ((256 * p.toNat + q.toNat : Nat) : Int)
 | _ => 0
def gZ (k : Int) (b : List UInt8) : Int := if k ≤ 2 then gS (b.drop 4) else if k = 5 then gS (b.drop 2) else 0
abbrev oP (i : Ba) (k x y x2 y2 z : Int) : List D := [AK i.t, An i.s, AK i.q, An k, An x, An y, An x2, An y2, An z, .lit (.int .u8 0), .lit (.int .u8 0), .lit (.int .u8 0), .lit (.int .u8 0), An 0, An 0, .lit (.slice none 0 0), AK 0, An 0, AK 0]
def BR (i : Ba) (k : Int) (b : List UInt8) : Except Int (A5 × List UInt8) → D
 | .error e => .tup [.agg (oP i k (if k ≤ 6 then gB b 0 else 0) (if k ≤ 6 then gB b 1 else 0) (if k ≤ 4 then gB b 2 else 0) (if k ≤ 4 then gB b 3 else 0) (gZ k b)), .lit (.slice none 0 0), An e]
 | .ok (o, t) => .tup [.agg (oM o), BD t, An 0]
abbrev zD (i : Ba) (k : Int) : List D := oP i k 0 0 0 0 0
theorem Qr {b : List UInt8} (h : Bs b = none) : b.length < 4 * 1 := by
 match b, h with
 | [], _ => simp
 | [_], _ => simp
 | [_, _], _ => simp
 | [_, _, _], _ => simp
theorem ZK (i : Ba) (k : Int) (hk : k = 1 ∨ k = 2) (b : List UInt8) : VP Tryz.prog 204 [.agg (zD i k), BD b] (· = .ret (BR i k b (AR { A5.zero with id := i, k := k } b))) := by
 have g6 : k ≤ 6 := by omega
 have g4 : k ≤ 4 := by omega
 have g2 : k ≤ 2 := by omega
 have g5 : ¬ k = 5 := by omega
 have u1 := AW k .x
 have u2 := AW k .y
 have u3 := AW k .x2
 have u4 := AW k .y2
 have u5 := AW k .z
 have u6 := AW k .c
 have u7 := AW k .s
 have u8 := AW k .t
 obtain ⟨n1, n2, n3, n4, n5, n6, n7, n8⟩ := Ty hk
 rw [n1] at u1
 rw [n2] at u2
 rw [n3] at u3
 rw [n4] at u4
 rw [n5] at u5
 rw [n6] at u6
 rw [n7] at u7
 rw [n8] at u8
 clear n1 n2 n3 n4 n5 n6 n7 n8
 have hln : ([AQ (D.lit (Value.string { data := #[88] })), AQ (D.lit (Value.string { data := #[89] })), AQ (D.lit (Value.string { data := #[88, 50] })), AQ (D.lit (Value.string { data := #[89, 50] }))] : List (List D)).length = 4 := rfl
 refine VP.le ?_
 simp only [MK, Fd.nm] at *
 refine Al fun B => ?_
 repeat' (first | refine Ai ?_ | refine Ah ?_ | refine nc ?_ ?_ | (with_reducible intro _ <;> (try (exfalso; omega))) | refine Aa ?_ | (refine nd ?_ ?_ <;> intro hg <;> first | exact xo hg | rw [hg]))
 refine AB 5 ?_
 repeat' (first | refine Ai ?_ | (refine As ?_; first | refine cz (u1) ?_ | refine cz (u2) ?_ | refine cz (u3) ?_ | refine cz (u4) ?_ | refine cz (u5) ?_ | refine cz (u6) ?_ | refine cz (u7) ?_ | refine cz (u8) ?_ | refine cz (c) ?_) | refine Ah ?_ | refine nc ?_ ?_ | (with_reducible intro _ <;> (try (exfalso; omega))) | refine Aa ?_ | (refine nd ?_ ?_ <;> intro hg <;> first | exact xo hg | rw [hg]))
 rcases b with _ | ⟨x, b⟩
 ·have c := Dm
  repeat' (first | refine Ai ?_ | (refine As ?_; first | refine cz (u1) ?_ | refine cz (u2) ?_ | refine cz (u3) ?_ | refine cz (u4) ?_ | refine cz (u5) ?_ | refine cz (u6) ?_ | refine cz (u7) ?_ | refine cz (u8) ?_ | refine cz (c) ?_) | refine Ah ?_ | refine nc ?_ ?_ | (with_reducible intro _ <;> (try (exfalso; omega))) | refine Aa ?_ | (refine nd ?_ ?_ <;> intro hg <;> first | exact xo hg | rw [hg]))
  all_goals (simp only [BR, gZ, gS, gB, List.drop_nil, List.getElem?_nil, AR, Ck, g6, g4, g2, g5, if_true, if_false, Cm]; infer_instance)
 have c := Dl x b
 have hbx := (x).toNat_lt
 repeat' (first | refine Ai ?_ | (refine As ?_; first | refine cz (u1) ?_ | refine cz (u2) ?_ | refine cz (u3) ?_ | refine cz (u4) ?_ | refine cz (u5) ?_ | refine cz (u6) ?_ | refine cz (u7) ?_ | refine cz (u8) ?_ | refine cz (c) ?_) | refine Ah ?_ | refine nc ?_ ?_ | (with_reducible intro _ <;> (try (exfalso; omega))) | refine Aa ?_ | (refine nd ?_ ?_ <;> intro hg <;> first | exact xo hg | rw [hg]))
 rcases b with _ | ⟨y, b⟩
 ·have c := Dm
  repeat' (first | refine Ai ?_ | (refine As ?_; first | refine cz (u1) ?_ | refine cz (u2) ?_ | refine cz (u3) ?_ | refine cz (u4) ?_ | refine cz (u5) ?_ | refine cz (u6) ?_ | refine cz (u7) ?_ | refine cz (u8) ?_ | refine cz (c) ?_) | refine Ah ?_ | refine nc ?_ ?_ | (with_reducible intro _ <;> (try (exfalso; omega))) | refine Aa ?_ | (refine nd ?_ ?_ <;> intro hg <;> first | exact xo hg | rw [hg]))
  all_goals (simp only [BR, gZ, gS, gB, List.drop_succ_cons, List.drop_nil, List.getElem?_nil, List.getElem?_cons_zero, List.getElem?_cons_succ, Int.sub_eq_add_neg, AR, Ck, g6, g4, g2, g5, if_true, if_false, Cm]; infer_instance)
 have c := Dl y b
 have hby := (y).toNat_lt
 repeat' (first | refine Ai ?_ | (refine As ?_; first | refine cz (u1) ?_ | refine cz (u2) ?_ | refine cz (u3) ?_ | refine cz (u4) ?_ | refine cz (u5) ?_ | refine cz (u6) ?_ | refine cz (u7) ?_ | refine cz (u8) ?_ | refine cz (c) ?_) | refine Ah ?_ | refine nc ?_ ?_ | (with_reducible intro _ <;> (try (exfalso; omega))) | refine Aa ?_ | (refine nd ?_ ?_ <;> intro hg <;> first | exact xo hg | rw [hg]))
 rcases b with _ | ⟨v, b⟩
 ·have c := Dm
  repeat' (first | refine Ai ?_ | (refine As ?_; first | refine cz (u1) ?_ | refine cz (u2) ?_ | refine cz (u3) ?_ | refine cz (u4) ?_ | refine cz (u5) ?_ | refine cz (u6) ?_ | refine cz (u7) ?_ | refine cz (u8) ?_ | refine cz (c) ?_) | refine Ah ?_ | refine nc ?_ ?_ | (with_reducible intro _ <;> (try (exfalso; omega))) | refine Aa ?_ | (refine nd ?_ ?_ <;> intro hg <;> first | exact xo hg | rw [hg]))
  all_goals (simp only [BR, gZ, gS, gB, List.drop_succ_cons, List.drop_nil, List.getElem?_nil, List.getElem?_cons_zero, List.getElem?_cons_succ, Int.sub_eq_add_neg, AR, Ck, Dh, g6, g4, g2, g5, if_true, if_false, Cm]; infer_instance)
 have c := Dl v b
 have hbv := (v).toNat_lt
 repeat' (first | refine Ai ?_ | (refine As ?_; first | refine cz (u1) ?_ | refine cz (u2) ?_ | refine cz (u3) ?_ | refine cz (u4) ?_ | refine cz (u5) ?_ | refine cz (u6) ?_ | refine cz (u7) ?_ | refine cz (u8) ?_ | refine cz (c) ?_) | refine Ah ?_ | refine nc ?_ ?_ | (with_reducible intro _ <;> (try (exfalso; omega))) | refine Aa ?_ | (refine nd ?_ ?_ <;> intro hg <;> first | exact xo hg | rw [hg]))
 rcases b with _ | ⟨z, b⟩
 ·have c := Dm
  repeat' (first | refine Ai ?_ | (refine As ?_; first | refine cz (u1) ?_ | refine cz (u2) ?_ | refine cz (u3) ?_ | refine cz (u4) ?_ | refine cz (u5) ?_ | refine cz (u6) ?_ | refine cz (u7) ?_ | refine cz (u8) ?_ | refine cz (c) ?_) | refine Ah ?_ | refine nc ?_ ?_ | (with_reducible intro _ <;> (try (exfalso; omega))) | refine Aa ?_ | (refine nd ?_ ?_ <;> intro hg <;> first | exact xo hg | rw [hg]))
  all_goals (simp only [BR, gZ, gS, gB, List.drop_succ_cons, List.drop_zero, List.drop_nil, List.getElem?_nil, List.getElem?_cons_zero, List.getElem?_cons_succ, Int.sub_eq_add_neg, AR, Ck, Dh, g6, g4, g2, g5, if_true, if_false, Cm]; infer_instance)
 have c := Dl z b
 have hbz := (z).toNat_lt
 repeat' (first | refine Ai ?_ | (refine As ?_; first | refine cz (u1) ?_ | refine cz (u2) ?_ | refine cz (u3) ?_ | refine cz (u4) ?_ | refine cz (u5) ?_ | refine cz (u6) ?_ | refine cz (u7) ?_ | refine cz (u8) ?_ | refine cz (c) ?_) | refine Ah ?_ | refine nc ?_ ?_ | (with_reducible intro _ <;> (try (exfalso; omega))) | refine Aa ?_ | (refine nd ?_ ?_ <;> intro hg <;> first | exact xo hg | rw [hg]))
 rcases b with _ | ⟨p, _ | ⟨q, b⟩⟩
 ·have c := Nj [] (by decide)
  repeat' (first | refine Ai ?_ | (refine As ?_; first | refine cz (u1) ?_ | refine cz (u2) ?_ | refine cz (u3) ?_ | refine cz (u4) ?_ | refine cz (u5) ?_ | refine cz (u6) ?_ | refine cz (u7) ?_ | refine cz (u8) ?_ | refine cz (c) ?_) | refine Ah ?_ | refine nc ?_ ?_ | (with_reducible intro _ <;> (try (exfalso; omega))) | refine Aa ?_ | (refine nd ?_ ?_ <;> intro hg <;> first | exact xo hg | rw [hg]))
  all_goals (simp only [BR, gZ, gS, gB, List.drop_succ_cons, List.drop_zero, List.drop_nil, List.getElem?_cons_zero, List.getElem?_cons_succ, Int.sub_eq_add_neg, AR, Ck, Dh, Bs, g6, g4, g2, g5, if_true, if_false, Cm]; infer_instance)
 ·have c := Nj [p] (by simp)
  repeat' (first | refine Ai ?_ | (refine As ?_; first | refine cz (u1) ?_ | refine cz (u2) ?_ | refine cz (u3) ?_ | refine cz (u4) ?_ | refine cz (u5) ?_ | refine cz (u6) ?_ | refine cz (u7) ?_ | refine cz (u8) ?_ | refine cz (c) ?_) | refine Ah ?_ | refine nc ?_ ?_ | (with_reducible intro _ <;> (try (exfalso; omega))) | refine Aa ?_ | (refine nd ?_ ?_ <;> intro hg <;> first | exact xo hg | rw [hg]))
  all_goals (simp only [BR, gZ, gS, gB, List.drop_succ_cons, List.drop_zero, List.getElem?_cons_zero, List.getElem?_cons_succ, Int.sub_eq_add_neg, AR, Ck, Dh, Bs, g6, g4, g2, g5, if_true, if_false, Cm]; infer_instance)
 have c := TG p q b
 have hbp := (p).toNat_lt
 have hbq := (q).toNat_lt
 repeat' (first | refine Ai ?_ | (refine As ?_; first | refine cz (u1) ?_ | refine cz (u2) ?_ | refine cz (u3) ?_ | refine cz (u4) ?_ | refine cz (u5) ?_ | refine cz (u6) ?_ | refine cz (u7) ?_ | refine cz (u8) ?_ | refine cz (c) ?_) | refine Ah ?_ | refine nc ?_ ?_ | (with_reducible intro _ <;> (try (exfalso; omega))) | refine Aa ?_ | (refine nd ?_ ?_ <;> intro hg <;> first | exact xo hg | rw [hg]))
 cases hc : Bs b with
 | none =>
  have c := NW b 1 (by decide) (Qr hc)
  repeat' (first | refine Ai ?_ | (refine As ?_; first | refine cz (u1) ?_ | refine cz (u2) ?_ | refine cz (u3) ?_ | refine cz (u4) ?_ | refine cz (u5) ?_ | refine cz (u6) ?_ | refine cz (u7) ?_ | refine cz (u8) ?_ | refine cz (c) ?_) | refine Ah ?_ | refine nc ?_ ?_ | (with_reducible intro _ <;> (try (exfalso; omega))) | refine Aa ?_ | (refine nd ?_ ?_ <;> intro hg <;> first | exact xo hg | rw [hg]))
  all_goals (simp only [BR, gZ, gS, gB, List.drop_succ_cons, List.drop_zero, List.getElem?_cons_zero, List.getElem?_cons_succ, Int.sub_eq_add_neg, AR, Ck, Dh, hc, g6, g4, g2, g5, if_true, if_false, Cm]; infer_instance)
 | some q =>
  obtain ⟨co, t⟩ := q
  have c := NV b 1 (by decide) (l := [co]) (t := t) (by simp only [EX, hc]; rfl)
  repeat' (first | refine Ai ?_ | (refine As ?_; first | refine cz (u1) ?_ | refine cz (u2) ?_ | refine cz (u3) ?_ | refine cz (u4) ?_ | refine cz (u5) ?_ | refine cz (u6) ?_ | refine cz (u7) ?_ | refine cz (u8) ?_ | refine cz (c) ?_) | refine Ah ?_ | refine nc ?_ ?_ | (with_reducible intro _ <;> (try (exfalso; omega))) | refine Aa ?_ | (refine nd ?_ ?_ <;> intro hg <;> first | exact xo hg | rw [hg]))
  all_goals (simp only [BR, AR, Ck, Dh, hc, g6, g4, g2, g5, if_true, if_false, Cm, oM, C6, A5.zero, Ba.zero, BO.zero, Fx, Int.sub_eq_add_neg, List.map_nil]; infer_instance)
theorem ZJ (i : Ba) (k : Int) (hk : k = 3 ∨ k = 4) (b : List UInt8) : VP Tryz.prog 204 [.agg (zD i k), BD b] (· = .ret (BR i k b (AR { A5.zero with id := i, k := k } b))) := by
 have g6 : k ≤ 6 := by omega
 have g4 : k ≤ 4 := by omega
 have g2 : ¬ k ≤ 2 := by omega
 have g5 : ¬ k = 5 := by omega
 have u1 := AW k .x
 have u2 := AW k .y
 have u3 := AW k .x2
 have u4 := AW k .y2
 have u5 := AW k .z
 have u6 := AW k .c
 have u7 := AW k .s
 have u8 := AW k .t
 obtain ⟨n1, n2, n3, n4, n5, n6, n7, n8⟩ := Tx hk
 rw [n1] at u1
 rw [n2] at u2
 rw [n3] at u3
 rw [n4] at u4
 rw [n5] at u5
 rw [n6] at u6
 rw [n7] at u7
 rw [n8] at u8
 clear n1 n2 n3 n4 n5 n6 n7 n8
 have hln : ([AQ (D.lit (Value.string { data := #[88] })), AQ (D.lit (Value.string { data := #[89] })), AQ (D.lit (Value.string { data := #[88, 50] })), AQ (D.lit (Value.string { data := #[89, 50] }))] : List (List D)).length = 4 := rfl
 refine VP.le ?_
 simp only [MK, Fd.nm] at *
 refine Al fun B => ?_
 repeat' (first | refine Ai ?_ | refine Ah ?_ | refine nc ?_ ?_ | (with_reducible intro _ <;> (try (exfalso; omega))) | refine Aa ?_ | (refine nd ?_ ?_ <;> intro hg <;> first | exact xo hg | rw [hg]))
 refine AB 5 ?_
 repeat' (first | refine Ai ?_ | (refine As ?_; first | refine cz (u1) ?_ | refine cz (u2) ?_ | refine cz (u3) ?_ | refine cz (u4) ?_ | refine cz (u5) ?_ | refine cz (u6) ?_ | refine cz (u7) ?_ | refine cz (u8) ?_ | refine cz (c) ?_) | refine Ah ?_ | refine nc ?_ ?_ | (with_reducible intro _ <;> (try (exfalso; omega))) | refine Aa ?_ | (refine nd ?_ ?_ <;> intro hg <;> first | exact xo hg | rw [hg]))
 rcases b with _ | ⟨x, b⟩
 ·have c := Dm
  repeat' (first | refine Ai ?_ | (refine As ?_; first | refine cz (u1) ?_ | refine cz (u2) ?_ | refine cz (u3) ?_ | refine cz (u4) ?_ | refine cz (u5) ?_ | refine cz (u6) ?_ | refine cz (u7) ?_ | refine cz (u8) ?_ | refine cz (c) ?_) | refine Ah ?_ | refine nc ?_ ?_ | (with_reducible intro _ <;> (try (exfalso; omega))) | refine Aa ?_ | (refine nd ?_ ?_ <;> intro hg <;> first | exact xo hg | rw [hg]))
  all_goals (simp only [BR, gZ, gS, gB, List.drop_nil, List.getElem?_nil, AR, Ck, g6, g4, g2, g5, if_true, if_false, Cm]; infer_instance)
 have c := Dl x b
 have hbx := (x).toNat_lt
 repeat' (first | refine Ai ?_ | (refine As ?_; first | refine cz (u1) ?_ | refine cz (u2) ?_ | refine cz (u3) ?_ | refine cz (u4) ?_ | refine cz (u5) ?_ | refine cz (u6) ?_ | refine cz (u7) ?_ | refine cz (u8) ?_ | refine cz (c) ?_) | refine Ah ?_ | refine nc ?_ ?_ | (with_reducible intro _ <;> (try (exfalso; omega))) | refine Aa ?_ | (refine nd ?_ ?_ <;> intro hg <;> first | exact xo hg | rw [hg]))
 rcases b with _ | ⟨y, b⟩
 ·have c := Dm
  repeat' (first | refine Ai ?_ | (refine As ?_; first | refine cz (u1) ?_ | refine cz (u2) ?_ | refine cz (u3) ?_ | refine cz (u4) ?_ | refine cz (u5) ?_ | refine cz (u6) ?_ | refine cz (u7) ?_ | refine cz (u8) ?_ | refine cz (c) ?_) | refine Ah ?_ | refine nc ?_ ?_ | (with_reducible intro _ <;> (try (exfalso; omega))) | refine Aa ?_ | (refine nd ?_ ?_ <;> intro hg <;> first | exact xo hg | rw [hg]))
  all_goals (simp only [BR, gZ, gS, gB, List.drop_succ_cons, List.drop_nil, List.getElem?_nil, List.getElem?_cons_zero, List.getElem?_cons_succ, Int.sub_eq_add_neg, AR, Ck, g6, g4, g2, g5, if_true, if_false, Cm]; infer_instance)
 have c := Dl y b
 have hby := (y).toNat_lt
 repeat' (first | refine Ai ?_ | (refine As ?_; first | refine cz (u1) ?_ | refine cz (u2) ?_ | refine cz (u3) ?_ | refine cz (u4) ?_ | refine cz (u5) ?_ | refine cz (u6) ?_ | refine cz (u7) ?_ | refine cz (u8) ?_ | refine cz (c) ?_) | refine Ah ?_ | refine nc ?_ ?_ | (with_reducible intro _ <;> (try (exfalso; omega))) | refine Aa ?_ | (refine nd ?_ ?_ <;> intro hg <;> first | exact xo hg | rw [hg]))
 rcases b with _ | ⟨v, b⟩
 ·have c := Dm
  repeat' (first | refine Ai ?_ | (refine As ?_; first | refine cz (u1) ?_ | refine cz (u2) ?_ | refine cz (u3) ?_ | refine cz (u4) ?_ | refine cz (u5) ?_ | refine cz (u6) ?_ | refine cz (u7) ?_ | refine cz (u8) ?_ | refine cz (c) ?_) | refine Ah ?_ | refine nc ?_ ?_ | (with_reducible intro _ <;> (try (exfalso; omega))) | refine Aa ?_ | (refine nd ?_ ?_ <;> intro hg <;> first | exact xo hg | rw [hg]))
  all_goals (simp only [BR, gZ, gS, gB, List.drop_succ_cons, List.drop_nil, List.getElem?_nil, List.getElem?_cons_zero, List.getElem?_cons_succ, Int.sub_eq_add_neg, AR, Ck, Dh, g6, g4, g2, g5, if_true, if_false, Cm]; infer_instance)
 have c := Dl v b
 have hbv := (v).toNat_lt
 repeat' (first | refine Ai ?_ | (refine As ?_; first | refine cz (u1) ?_ | refine cz (u2) ?_ | refine cz (u3) ?_ | refine cz (u4) ?_ | refine cz (u5) ?_ | refine cz (u6) ?_ | refine cz (u7) ?_ | refine cz (u8) ?_ | refine cz (c) ?_) | refine Ah ?_ | refine nc ?_ ?_ | (with_reducible intro _ <;> (try (exfalso; omega))) | refine Aa ?_ | (refine nd ?_ ?_ <;> intro hg <;> first | exact xo hg | rw [hg]))
 rcases b with _ | ⟨z, b⟩
 ·have c := Dm
  repeat' (first | refine Ai ?_ | (refine As ?_; first | refine cz (u1) ?_ | refine cz (u2) ?_ | refine cz (u3) ?_ | refine cz (u4) ?_ | refine cz (u5) ?_ | refine cz (u6) ?_ | refine cz (u7) ?_ | refine cz (u8) ?_ | refine cz (c) ?_) | refine Ah ?_ | refine nc ?_ ?_ | (with_reducible intro _ <;> (try (exfalso; omega))) | refine Aa ?_ | (refine nd ?_ ?_ <;> intro hg <;> first | exact xo hg | rw [hg]))
  all_goals (simp only [BR, gZ, gS, gB, List.drop_succ_cons, List.drop_zero, List.drop_nil, List.getElem?_nil, List.getElem?_cons_zero, List.getElem?_cons_succ, Int.sub_eq_add_neg, AR, Ck, Dh, g6, g4, g2, g5, if_true, if_false, Cm]; infer_instance)
 have c := Dl z b
 have hbz := (z).toNat_lt
 repeat' (first | refine Ai ?_ | (refine As ?_; first | refine cz (u1) ?_ | refine cz (u2) ?_ | refine cz (u3) ?_ | refine cz (u4) ?_ | refine cz (u5) ?_ | refine cz (u6) ?_ | refine cz (u7) ?_ | refine cz (u8) ?_ | refine cz (c) ?_) | refine Ah ?_ | refine nc ?_ ?_ | (with_reducible intro _ <;> (try (exfalso; omega))) | refine Aa ?_ | (refine nd ?_ ?_ <;> intro hg <;> first | exact xo hg | rw [hg]))
 cases hc : Bs b with
 | none =>
  have c := NW b 1 (by decide) (Qr hc)
  repeat' (first | refine Ai ?_ | (refine As ?_; first | refine cz (u1) ?_ | refine cz (u2) ?_ | refine cz (u3) ?_ | refine cz (u4) ?_ | refine cz (u5) ?_ | refine cz (u6) ?_ | refine cz (u7) ?_ | refine cz (u8) ?_ | refine cz (c) ?_) | refine Ah ?_ | refine nc ?_ ?_ | (with_reducible intro _ <;> (try (exfalso; omega))) | refine Aa ?_ | (refine nd ?_ ?_ <;> intro hg <;> first | exact xo hg | rw [hg]))
  all_goals (simp only [BR, gZ, gS, gB, List.drop_succ_cons, List.drop_zero, List.getElem?_cons_zero, List.getElem?_cons_succ, Int.sub_eq_add_neg, AR, Ck, Dh, hc, g6, g4, g2, g5, if_true, if_false, Cm]; infer_instance)
 | some q =>
  obtain ⟨co, t⟩ := q
  have c := NV b 1 (by decide) (l := [co]) (t := t) (by simp only [EX, hc]; rfl)
  repeat' (first | refine Ai ?_ | (refine As ?_; first | refine cz (u1) ?_ | refine cz (u2) ?_ | refine cz (u3) ?_ | refine cz (u4) ?_ | refine cz (u5) ?_ | refine cz (u6) ?_ | refine cz (u7) ?_ | refine cz (u8) ?_ | refine cz (c) ?_) | refine Ah ?_ | refine nc ?_ ?_ | (with_reducible intro _ <;> (try (exfalso; omega))) | refine Aa ?_ | (refine nd ?_ ?_ <;> intro hg <;> first | exact xo hg | rw [hg]))
  all_goals (simp only [BR, AR, Ck, Dh, hc, g6, g4, g2, g5, if_true, if_false, Cm, oM, C6, A5.zero, Ba.zero, BO.zero, Fx, Int.sub_eq_add_neg, List.map_nil]; infer_instance)
theorem ZI (i : Ba) (k : Int) (hk : k = 5) (b : List UInt8) : VP Tryz.prog 204 [.agg (zD i k), BD b] (· = .ret (BR i k b (AR { A5.zero with id := i, k := k } b))) := by
 have g6 : k ≤ 6 := by omega
 have g4 : ¬ k ≤ 4 := by omega
 have g5 : (k = 5) = True := eq_true hk
 have g2 : ¬ k ≤ 2 := by omega
 have u1 := AW k .x
 have u2 := AW k .y
 have u3 := AW k .x2
 have u4 := AW k .y2
 have u5 := AW k .z
 have u6 := AW k .c
 have u7 := AW k .s
 have u8 := AW k .t
 obtain ⟨n1, n2, n3, n4, n5, n6, n7, n8⟩ := Tw hk
 rw [n1] at u1
 rw [n2] at u2
 rw [n3] at u3
 rw [n4] at u4
 rw [n5] at u5
 rw [n6] at u6
 rw [n7] at u7
 rw [n8] at u8
 clear n1 n2 n3 n4 n5 n6 n7 n8
 have hln : ([AQ (D.lit (Value.string { data := #[88] })), AQ (D.lit (Value.string { data := #[89] })), AQ (D.lit (Value.string { data := #[88, 50] })), AQ (D.lit (Value.string { data := #[89, 50] }))] : List (List D)).length = 4 := rfl
 refine VP.le ?_
 simp only [MK, Fd.nm] at *
 refine Al fun B => ?_
 repeat' (first | refine Ai ?_ | refine Ah ?_ | refine nc ?_ ?_ | (with_reducible intro _ <;> (try (exfalso; omega))) | refine Aa ?_ | (refine nd ?_ ?_ <;> intro hg <;> first | exact xo hg | rw [hg]))
 refine AB 5 ?_
 repeat' (first | refine Ai ?_ | (refine As ?_; first | refine cz (u1) ?_ | refine cz (u2) ?_ | refine cz (u3) ?_ | refine cz (u4) ?_ | refine cz (u5) ?_ | refine cz (u6) ?_ | refine cz (u7) ?_ | refine cz (u8) ?_ | refine cz (c) ?_) | refine Ah ?_ | refine nc ?_ ?_ | (with_reducible intro _ <;> (try (exfalso; omega))) | refine Aa ?_ | (refine nd ?_ ?_ <;> intro hg <;> first | exact xo hg | rw [hg]))
 rcases b with _ | ⟨x, b⟩
 ·have c := Dm
  repeat' (first | refine Ai ?_ | (refine As ?_; first | refine cz (u1) ?_ | refine cz (u2) ?_ | refine cz (u3) ?_ | refine cz (u4) ?_ | refine cz (u5) ?_ | refine cz (u6) ?_ | refine cz (u7) ?_ | refine cz (u8) ?_ | refine cz (c) ?_) | refine Ah ?_ | refine nc ?_ ?_ | (with_reducible intro _ <;> (try (exfalso; omega))) | refine Aa ?_ | (refine nd ?_ ?_ <;> intro hg <;> first | exact xo hg | rw [hg]))
  all_goals (simp only [BR, gZ, gS, gB, List.drop_nil, List.getElem?_nil, AR, Ck, g6, g4, g2, g5, if_true, if_false, Cm]; infer_instance)
 have c := Dl x b
 have hbx := (x).toNat_lt
 repeat' (first | refine Ai ?_ | (refine As ?_; first | refine cz (u1) ?_ | refine cz (u2) ?_ | refine cz (u3) ?_ | refine cz (u4) ?_ | refine cz (u5) ?_ | refine cz (u6) ?_ | refine cz (u7) ?_ | refine cz (u8) ?_ | refine cz (c) ?_) | refine Ah ?_ | refine nc ?_ ?_ | (with_reducible intro _ <;> (try (exfalso; omega))) | refine Aa ?_ | (refine nd ?_ ?_ <;> intro hg <;> first | exact xo hg | rw [hg]))
 rcases b with _ | ⟨y, b⟩
 ·have c := Dm
  repeat' (first | refine Ai ?_ | (refine As ?_; first | refine cz (u1) ?_ | refine cz (u2) ?_ | refine cz (u3) ?_ | refine cz (u4) ?_ | refine cz (u5) ?_ | refine cz (u6) ?_ | refine cz (u7) ?_ | refine cz (u8) ?_ | refine cz (c) ?_) | refine Ah ?_ | refine nc ?_ ?_ | (with_reducible intro _ <;> (try (exfalso; omega))) | refine Aa ?_ | (refine nd ?_ ?_ <;> intro hg <;> first | exact xo hg | rw [hg]))
  all_goals (simp only [BR, gZ, gS, gB, List.drop_succ_cons, List.drop_nil, List.getElem?_nil, List.getElem?_cons_zero, List.getElem?_cons_succ, Int.sub_eq_add_neg, AR, Ck, g6, g4, g2, g5, if_true, if_false, Cm]; infer_instance)
 have c := Dl y b
 have hby := (y).toNat_lt
 repeat' (first | refine Ai ?_ | (refine As ?_; first | refine cz (u1) ?_ | refine cz (u2) ?_ | refine cz (u3) ?_ | refine cz (u4) ?_ | refine cz (u5) ?_ | refine cz (u6) ?_ | refine cz (u7) ?_ | refine cz (u8) ?_ | refine cz (c) ?_) | refine Ah ?_ | refine nc ?_ ?_ | (with_reducible intro _ <;> (try (exfalso; omega))) | refine Aa ?_ | (refine nd ?_ ?_ <;> intro hg <;> first | exact xo hg | rw [hg]))
 rcases b with _ | ⟨p, _ | ⟨q, b⟩⟩
 ·have c := Nj [] (by decide)
  repeat' (first | refine Ai ?_ | (refine As ?_; first | refine cz (u1) ?_ | refine cz (u2) ?_ | refine cz (u3) ?_ | refine cz (u4) ?_ | refine cz (u5) ?_ | refine cz (u6) ?_ | refine cz (u7) ?_ | refine cz (u8) ?_ | refine cz (c) ?_) | refine Ah ?_ | refine nc ?_ ?_ | (with_reducible intro _ <;> (try (exfalso; omega))) | refine Aa ?_ | (refine nd ?_ ?_ <;> intro hg <;> first | exact xo hg | rw [hg]))
  all_goals (simp only [BR, gZ, gS, gB, List.drop_succ_cons, List.drop_nil, List.getElem?_nil, List.getElem?_cons_zero, List.getElem?_cons_succ, Int.sub_eq_add_neg, AR, Ck, Dh, g6, g4, g2, g5, if_true, if_false, Cm]; infer_instance)
 ·have c := Nj [p] (by simp)
  repeat' (first | refine Ai ?_ | (refine As ?_; first | refine cz (u1) ?_ | refine cz (u2) ?_ | refine cz (u3) ?_ | refine cz (u4) ?_ | refine cz (u5) ?_ | refine cz (u6) ?_ | refine cz (u7) ?_ | refine cz (u8) ?_ | refine cz (c) ?_) | refine Ah ?_ | refine nc ?_ ?_ | (with_reducible intro _ <;> (try (exfalso; omega))) | refine Aa ?_ | (refine nd ?_ ?_ <;> intro hg <;> first | exact xo hg | rw [hg]))
  all_goals (simp only [BR, gZ, gS, gB, List.drop_succ_cons, List.drop_zero, List.drop_nil, List.getElem?_nil, List.getElem?_cons_zero, List.getElem?_cons_succ, Int.sub_eq_add_neg, AR, Ck, Dh, g6, g4, g2, g5, if_true, if_false, Cm]; infer_instance)
 have c := TG p q b
 have hbp := (p).toNat_lt
 have hbq := (q).toNat_lt
 repeat' (first | refine Ai ?_ | (refine As ?_; first | refine cz (u1) ?_ | refine cz (u2) ?_ | refine cz (u3) ?_ | refine cz (u4) ?_ | refine cz (u5) ?_ | refine cz (u6) ?_ | refine cz (u7) ?_ | refine cz (u8) ?_ | refine cz (c) ?_) | refine Ah ?_ | refine nc ?_ ?_ | (with_reducible intro _ <;> (try (exfalso; omega))) | refine Aa ?_ | (refine nd ?_ ?_ <;> intro hg <;> first | exact xo hg | rw [hg]))
 cases hc : Bs b with
 | none =>
  have c := NW b 1 (by decide) (Qr hc)
  repeat' (first | refine Ai ?_ | (refine As ?_; first | refine cz (u1) ?_ | refine cz (u2) ?_ | refine cz (u3) ?_ | refine cz (u4) ?_ | refine cz (u5) ?_ | refine cz (u6) ?_ | refine cz (u7) ?_ | refine cz (u8) ?_ | refine cz (c) ?_) | refine Ah ?_ | refine nc ?_ ?_ | (with_reducible intro _ <;> (try (exfalso; omega))) | refine Aa ?_ | (refine nd ?_ ?_ <;> intro hg <;> first | exact xo hg | rw [hg]))
  all_goals (simp only [BR, gZ, gS, gB, List.drop_succ_cons, List.drop_zero, List.getElem?_cons_zero, List.getElem?_cons_succ, Int.sub_eq_add_neg, AR, Ck, Dh, hc, g6, g4, g2, g5, if_true, if_false, Cm]; infer_instance)
 | some q =>
  obtain ⟨co, t⟩ := q
  have c := NV b 1 (by decide) (l := [co]) (t := t) (by simp only [EX, hc]; rfl)
  repeat' (first | refine Ai ?_ | (refine As ?_; first | refine cz (u1) ?_ | refine cz (u2) ?_ | refine cz (u3) ?_ | refine cz (u4) ?_ | refine cz (u5) ?_ | refine cz (u6) ?_ | refine cz (u7) ?_ | refine cz (u8) ?_ | refine cz (c) ?_) | refine Ah ?_ | refine nc ?_ ?_ | (with_reducible intro _ <;> (try (exfalso; omega))) | refine Aa ?_ | (refine nd ?_ ?_ <;> intro hg <;> first | exact xo hg | rw [hg]))
  all_goals (simp only [BR, AR, Ck, Dh, hc, g6, g4, g2, g5, if_true, if_false, Cm, oM, C6, A5.zero, Ba.zero, BO.zero, Fx, Int.sub_eq_add_neg, List.map_nil]; infer_instance)
theorem ZH (i : Ba) (k : Int) (hk : k = 6) (b : List UInt8) : VP Tryz.prog 204 [.agg (zD i k), BD b] (· = .ret (BR i k b (AR { A5.zero with id := i, k := k } b))) := by
 have g6 : k ≤ 6 := by omega
 have g4 : ¬ k ≤ 4 := by omega
 have g5 : ¬ k = 5 := by omega
 have g2 : ¬ k ≤ 2 := by omega
 have u1 := AW k .x
 have u2 := AW k .y
 have u3 := AW k .x2
 have u4 := AW k .y2
 have u5 := AW k .z
 have u6 := AW k .c
 have u7 := AW k .s
 have u8 := AW k .t
 obtain ⟨n1, n2, n3, n4, n5, n6, n7, n8⟩ := Tv hk
 rw [n1] at u1
 rw [n2] at u2
 rw [n3] at u3
 rw [n4] at u4
 rw [n5] at u5
 rw [n6] at u6
 rw [n7] at u7
 rw [n8] at u8
 clear n1 n2 n3 n4 n5 n6 n7 n8
 have hln : ([AQ (D.lit (Value.string { data := #[88] })), AQ (D.lit (Value.string { data := #[89] })), AQ (D.lit (Value.string { data := #[88, 50] })), AQ (D.lit (Value.string { data := #[89, 50] }))] : List (List D)).length = 4 := rfl
 refine VP.le ?_
 simp only [MK, Fd.nm] at *
 refine Al fun B => ?_
 repeat' (first | refine Ai ?_ | refine Ah ?_ | refine nc ?_ ?_ | (with_reducible intro _ <;> (try (exfalso; omega))) | refine Aa ?_ | (refine nd ?_ ?_ <;> intro hg <;> first | exact xo hg | rw [hg]))
 refine AB 5 ?_
 repeat' (first | refine Ai ?_ | (refine As ?_; first | refine cz (u1) ?_ | refine cz (u2) ?_ | refine cz (u3) ?_ | refine cz (u4) ?_ | refine cz (u5) ?_ | refine cz (u6) ?_ | refine cz (u7) ?_ | refine cz (u8) ?_ | refine cz (c) ?_) | refine Ah ?_ | refine nc ?_ ?_ | (with_reducible intro _ <;> (try (exfalso; omega))) | refine Aa ?_ | (refine nd ?_ ?_ <;> intro hg <;> first | exact xo hg | rw [hg]))
 rcases b with _ | ⟨x, b⟩
 ·have c := Dm
  repeat' (first | refine Ai ?_ | (refine As ?_; first | refine cz (u1) ?_ | refine cz (u2) ?_ | refine cz (u3) ?_ | refine cz (u4) ?_ | refine cz (u5) ?_ | refine cz (u6) ?_ | refine cz (u7) ?_ | refine cz (u8) ?_ | refine cz (c) ?_) | refine Ah ?_ | refine nc ?_ ?_ | (with_reducible intro _ <;> (try (exfalso; omega))) | refine Aa ?_ | (refine nd ?_ ?_ <;> intro hg <;> first | exact xo hg | rw [hg]))
  all_goals (simp only [BR, gZ, gS, gB, List.drop_nil, List.getElem?_nil, AR, Ck, g6, g4, g2, g5, if_true, if_false, Cm]; infer_instance)
 have c := Dl x b
 have hbx := (x).toNat_lt
 repeat' (first | refine Ai ?_ | (refine As ?_; first | refine cz (u1) ?_ | refine cz (u2) ?_ | refine cz (u3) ?_ | refine cz (u4) ?_ | refine cz (u5) ?_ | refine cz (u6) ?_ | refine cz (u7) ?_ | refine cz (u8) ?_ | refine cz (c) ?_) | refine Ah ?_ | refine nc ?_ ?_ | (with_reducible intro _ <;> (try (exfalso; omega))) | refine Aa ?_ | (refine nd ?_ ?_ <;> intro hg <;> first | exact xo hg | rw [hg]))
 rcases b with _ | ⟨y, b⟩
 ·have c := Dm
  repeat' (first | refine Ai ?_ | (refine As ?_; first | refine cz (u1) ?_ | refine cz (u2) ?_ | refine cz (u3) ?_ | refine cz (u4) ?_ | refine cz (u5) ?_ | refine cz (u6) ?_ | refine cz (u7) ?_ | refine cz (u8) ?_ | refine cz (c) ?_) | refine Ah ?_ | refine nc ?_ ?_ | (with_reducible intro _ <;> (try (exfalso; omega))) | refine Aa ?_ | (refine nd ?_ ?_ <;> intro hg <;> first | exact xo hg | rw [hg]))
  all_goals (simp only [BR, gZ, gS, gB, List.drop_succ_cons, List.drop_nil, List.getElem?_nil, List.getElem?_cons_zero, List.getElem?_cons_succ, Int.sub_eq_add_neg, AR, Ck, g6, g4, g2, g5, if_true, if_false, Cm]; infer_instance)
 have c := Dl y b
 have hby := (y).toNat_lt
 repeat' (first | refine Ai ?_ | (refine As ?_; first | refine cz (u1) ?_ | refine cz (u2) ?_ | refine cz (u3) ?_ | refine cz (u4) ?_ | refine cz (u5) ?_ | refine cz (u6) ?_ | refine cz (u7) ?_ | refine cz (u8) ?_ | refine cz (c) ?_) | refine Ah ?_ | refine nc ?_ ?_ | (with_reducible intro _ <;> (try (exfalso; omega))) | refine Aa ?_ | (refine nd ?_ ?_ <;> intro hg <;> first | exact xo hg | rw [hg]))
 have c := AbA b
 cases hs : Er b with
 | error e =>
  rw [hs] at c
  simp only [WT] at c
  rcases Um hs with rfl | rfl
  all_goals
   repeat' (first | refine Ai ?_ | (refine As ?_; first | refine cz (u1) ?_ | refine cz (u2) ?_ | refine cz (u3) ?_ | refine cz (u4) ?_ | refine cz (u5) ?_ | refine cz (u6) ?_ | refine cz (u7) ?_ | refine cz (u8) ?_ | refine cz (c) ?_) | refine Ah ?_ | refine nc ?_ ?_ | (with_reducible intro _ <;> (try (exfalso; omega))) | refine Aa ?_ | (refine nd ?_ ?_ <;> intro hg <;> first | exact xo hg | rw [hg]))
   all_goals (simp only [BR, gZ, gS, gB, List.drop_succ_cons, List.drop_zero, List.getElem?_cons_zero, List.getElem?_cons_succ, Int.sub_eq_add_neg, AR, Ck, hs, g6, g4, g2, g5, if_true, if_false, Cm]; infer_instance)
 | ok q =>
  obtain ⟨⟨w, h, l⟩, t⟩ := q
  rw [hs] at c
  simp only [WT] at c
  repeat' (first | refine Ai ?_ | (refine As ?_; first | refine cz (u1) ?_ | refine cz (u2) ?_ | refine cz (u3) ?_ | refine cz (u4) ?_ | refine cz (u5) ?_ | refine cz (u6) ?_ | refine cz (u7) ?_ | refine cz (u8) ?_ | refine cz (c) ?_) | refine Ah ?_ | refine nc ?_ ?_ | (with_reducible intro _ <;> (try (exfalso; omega))) | refine Aa ?_ | (refine nd ?_ ?_ <;> intro hg <;> first | exact xo hg | rw [hg]))
  all_goals (simp only [BR, AR, Ck, hs, g6, g4, g2, g5, if_true, if_false, Cm, oM, C6, A5.zero, Ba.zero, BO.zero, PB, Fx, Int.sub_eq_add_neg]; infer_instance)
theorem ZG (i : Ba) (k : Int) (hk : k = 7 ∨ k = 8) (b : List UInt8) : VP Tryz.prog 204 [.agg (zD i k), BD b] (· = .ret (BR i k b (AR { A5.zero with id := i, k := k } b))) := by
 have g6 : ¬ k ≤ 6 := by omega
 have g4 : ¬ k ≤ 4 := by omega
 have g2 : ¬ k ≤ 2 := by omega
 have g5 : ¬ k = 5 := by omega
 have u1 := AW k .x
 have u2 := AW k .y
 have u3 := AW k .x2
 have u4 := AW k .y2
 have u5 := AW k .z
 have u6 := AW k .c
 have u7 := AW k .s
 have u8 := AW k .t
 obtain ⟨n1, n2, n3, n4, n5, n6, n7, n8⟩ := Tu hk
 rw [n1] at u1
 rw [n2] at u2
 rw [n3] at u3
 rw [n4] at u4
 rw [n5] at u5
 rw [n6] at u6
 rw [n7] at u7
 rw [n8] at u8
 clear n1 n2 n3 n4 n5 n6 n7 n8
 have hln : ([AQ (D.lit (Value.string { data := #[88] })), AQ (D.lit (Value.string { data := #[89] })), AQ (D.lit (Value.string { data := #[88, 50] })), AQ (D.lit (Value.string { data := #[89, 50] }))] : List (List D)).length = 4 := rfl
 refine VP.le ?_
 simp only [MK, Fd.nm] at *
 refine Al fun B => ?_
 repeat' (first | refine Ai ?_ | refine Ah ?_ | refine nc ?_ ?_ | (with_reducible intro _ <;> (try (exfalso; omega))) | refine Aa ?_ | (refine nd ?_ ?_ <;> intro hg <;> first | exact xo hg | rw [hg]))
 refine AB 5 ?_
 repeat' (first | refine Ai ?_ | (refine As ?_; first | refine cz (u1) ?_ | refine cz (u2) ?_ | refine cz (u3) ?_ | refine cz (u4) ?_ | refine cz (u5) ?_ | refine cz (u6) ?_ | refine cz (u7) ?_ | refine cz (u8) ?_ | refine cz (c) ?_) | refine Ah ?_ | refine nc ?_ ?_ | (with_reducible intro _ <;> (try (exfalso; omega))) | refine Aa ?_ | (refine nd ?_ ?_ <;> intro hg <;> first | exact xo hg | rw [hg]))
 by_cases hl : 17 ≤ b.length
 ·have c := Vz b hl
  repeat' (first | refine Ai ?_ | (refine As ?_; first | refine cz (u1) ?_ | refine cz (u2) ?_ | refine cz (u3) ?_ | refine cz (u4) ?_ | refine cz (u5) ?_ | refine cz (u6) ?_ | refine cz (u7) ?_ | refine cz (u8) ?_ | refine cz (c) ?_) | refine Ah ?_ | refine nc ?_ ?_ | (with_reducible intro _ <;> (try (exfalso; omega))) | refine Aa ?_ | (refine nd ?_ ?_ <;> intro hg <;> first | exact xo hg | rw [hg]))
  all_goals (simp only [BR, AR, D6, hl, g6, if_true, if_false, Cm, oM, C6, A5.zero, Ba.zero, BO.zero, PB, List.map_nil]; infer_instance)
 ·have c := VB b (by omega)
  repeat' (first | refine Ai ?_ | (refine As ?_; first | refine cz (u1) ?_ | refine cz (u2) ?_ | refine cz (u3) ?_ | refine cz (u4) ?_ | refine cz (u5) ?_ | refine cz (u6) ?_ | refine cz (u7) ?_ | refine cz (u8) ?_ | refine cz (c) ?_) | refine Ah ?_ | refine nc ?_ ?_ | (with_reducible intro _ <;> (try (exfalso; omega))) | refine Aa ?_ | (refine nd ?_ ?_ <;> intro hg <;> first | exact xo hg | rw [hg]))
  all_goals (simp only [BR, gZ, gS, gB, AR, D6, hl, g6, g4, g2, g5, if_false, Cm]; infer_instance)
theorem W0 (i : Ba) (k : Nat) (hk : 1 ≤ k ∧ k ≤ 8) (b : List UInt8) : VP Tryz.prog 204 [.agg (zD i k), BD b] (· = .ret (BR i k b (AR { A5.zero with id := i, k := k } b))) := by
 rcases YM (k : Int) with h | h | h | h | h | h
 ·exact ZK i k h b
 ·exact ZJ i k h b
 ·exact ZI i k h b
 ·exact ZH i k h b
 ·exact ZG i k h b
 ·omega

end Go.Proofs.YtbgcjnfhadhjeaaGreat