/- Walks by data and names, part 35: The document's layer 12, by V: which operations may be. The document's layer 19, by V: the bytes of operations. The document's layer 19, by V: a stamp's bytes. -/
import Derived.Test.YtbgcjnfhadhjeaaGreatPk31
import Derived.Test.YtbgcjnfhadhjeaaGreatPk33
import Derived.Test.YtbgcjnfhadhjeaaGreatPk34
namespace Go.Proofs.YtbgcjnfhadhjeaaGreat
set_option maxRecDepth 20000
open Go.RowKit
set_option maxRecDepth 10000
set_option maxHeartbeats 4000000
theorem PU (o : Bb) (hl : o.px.length ≤ 1000000) : VP Tryz.prog 66 [.agg (oD o)] (· = .ret (.lit (.bool (Da o)))) := by
 have c1 := K1 o.id
 have c2 := Uc o
 have c3 := MM (Bw o) o
 have c4 := PV o hl
 have c5 := K1 o.tg
 have c6 := Rn o.tg o.id
 simp only [Da, Kn]
 generalize Jz o.id = r1 at *
 generalize decide (Bw o = o) = r3 at *
 generalize Rd o = r4 at *
 generalize Jz o.tg = r5 at *
 generalize HZ o.tg o.id = r6 at *
 generalize Bw o = q at *
 simp only [oD, De, F9] at *
 refine Am fun B => ?_
 repeat' (first | refine Al ?_ | (refine Ay ?_; first | refine cz (c1) ?_ | refine cz (c2) ?_ | refine cz (c3) ?_ | refine cz (c4) ?_ | refine cz (c5) ?_ | refine cz (c6) ?_) | refine Ak ?_ | refine nc ?_ ?_ | (with_reducible intro _ <;> (try (exfalso; omega))) | refine Ad ?_ | (refine nd ?_ ?_ <;> intro hg <;> first | exact xo hg | rw [hg]))
 all_goals (try (show R.ret _ = R.ret _; clear c1 c2 c3 c4 c5 c6; simp_all; fail_if_success (focus skip)))
 all_goals (try (show R.ret _ = R.ret _; clear c1 c2 c3 c4 c5 c6; simp_all; omega))
 have hl4 : ([AT (Ar o.x), AT (Ar o.y), AT (Ar o.x2), AT (Ar o.y2)] : List (List D)).length = 4 := rfl
 refine AF 5 ?_
 repeat' (first | refine Al ?_ | (refine Ay ?_; first | refine cz (c4) ?_ | refine cz (c5) ?_ | refine cz (c6) ?_) | refine Ak ?_ | refine nc ?_ ?_ | (with_reducible intro _ <;> (try (exfalso; omega))) | refine Ad ?_ | (refine nd ?_ ?_ <;> intro hg <;> first | exact xo hg | rw [hg]))
 all_goals (try (show R.ret _ = R.ret _; clear c1 c2 c3 c4 c5 c6; simp_all; fail_if_success (focus skip)))
 all_goals (try (show R.ret _ = R.ret _; clear c1 c2 c3 c4 c5 c6; simp_all; omega))

set_option maxRecDepth 20000
set_option maxRecDepth 10000
theorem KB (w n : Nat) (hw : w ≤ 8) (hn : n < 18446744073709551616) : VP Tryz.prog 89 [Ar w, AW n] (· = .own 5 1 (AH (Av w n))) := by
 refine Am fun B => ?_
 repeat' (first | refine Al ?_ | refine Ak ?_ | refine nc ?_ ?_ | (with_reducible intro _ <;> (try (exfalso; omega))) | refine Ad ?_ | (refine nd ?_ ?_ <;> intro hg <;> first | exact xo hg | rw [hg]))
 refine Hw 5 5 1 rfl ?_
 refine BT (fun i : Nat => ⟨[(7, I .i64 i), (6, I .i64 w), (5, .row 0 0), (1, I .u64 ((n / 256 ^ i : Nat) : Int))], [.r true true 0 0 5 1 (AH (Av i n))], 1⟩) (fun i => i ≤ w) (fun i => w - i) 0 (by rw [Nat.pow_zero, Nat.div_one]; exact (AI)) (Nat.zero_le _) fun i hi => ?_
 have hm : n / 256 ^ i < 18446744073709551616 := Nat.lt_of_le_of_lt (Nat.div_le_self _ _) hn
 have hst : n / 256 ^ (i + 1) = n / 256 ^ i / 256 := by rw [Nat.pow_succ, Nat.div_div_eq_div_mul]
 have hc := HO i n
 generalize n / 256 ^ i = m at *
 have hb : vb (UInt8.ofNat (m % 256)) = .int .u8 (IntKind.u8.wrap ((m : Int).tmod 256)) := by
  rw [Ou _ (Nat.mod_lt _ (by omega)), Int.tmod_eq_emod_of_nonneg (by omega), show (m : Int) % 256 = ((m % 256 : Nat) : Int) by omega, SX _ (Nat.mod_lt _ (by omega))]
 have hl : (AH (Av i n)).length = i := by rw [AA, As]
 have hl2 := As i n
 rcases Nat.lt_or_ge i w with h | h
 ·repeat' (first | refine Al ?_ | refine Ak ?_ | refine nc ?_ ?_ | (with_reducible intro _ <;> (try (exfalso; omega))) | refine Ad ?_ | (refine nd ?_ ?_ <;> intro hg <;> first | exact xo hg | rw [hg]))
  refine AU (i + 1) (show i + 1 ≤ _ by omega) (show w - (i + 1) < w - i by omega) ?_
  rw [hc, hst, ← SW m hm]
  simp only [AH, List.map_cons, hb]
  exact (CO [(0, _, _)])
 ·repeat' (first | refine Al ?_ | refine Ak ?_ | refine nc ?_ ?_ | (with_reducible intro _ <;> (try (exfalso; omega))) | refine Ad ?_ | (refine nd ?_ ?_ <;> intro hg <;> first | exact xo hg | rw [hg]))
  rw [show w = i by omega]
theorem MR (a b : List UInt8) (h : a.length + b.length ≤ 140737488355328) : VP Tryz.prog 148 [CV a, CV b] (· = .own 5 1 (AH (a ++ b))) := by
 have ha := AA a
 have hb := AA b
 have hab : AH (a ++ b) = AH a ++ AH b := List.map_append
 rw [hab]
 refine Am fun B => ?_
 repeat' (first | refine Al ?_ | refine Ak ?_ | refine nc ?_ ?_ | (with_reducible intro _ <;> (try (exfalso; omega))) | refine Ad ?_ | (refine nd ?_ ?_ <;> intro hg <;> first | exact xo hg | rw [hg]))
 all_goals first | rfl | trace_state
theorem IM (n : Int) (h0 : 0 ≤ n) (h1 : n < 256) : AH (Av 1 n.toNat) = [[.lit (.int .u8 n)]] := by
 rw [Qw]
 simp only [AH, List.map_cons, List.map_nil, vb]
 rw [TH n h0 h1]
theorem Dz (a b : List UInt8) : AH (a ++ b) = AH a ++ AH b := List.map_append
theorem VR (i : Bk) (h : Jz i = true) : VP Tryz.prog 193 [.agg (F9 i)] (· = .own 5 1 (AH (CP i))) := by
 have hi := QC h
 have c1 := KB 8 i.t (by omega) (by omega)
 have c2 := KB 8 i.q (by omega) (by omega)
 have l1 := As 8 i.t
 have l2 := As 8 i.q
 have c3 := MR (Av 8 i.t ++ Av 1 i.s.toNat) (Av 8 i.q) (by simp [As])
 have hb1 : (AH (Av 8 i.t)).length = 8 := by rw [AA, l1]
 have hL : AH (Av 8 i.t) ++ [AT (.lit (.int .u8 i.s))] = AH (Av 8 i.t ++ Av 1 i.s.toNat) := by rw [Dz, IM i.s (by omega) (by omega)]; rfl
 rw [show ((8 : Nat) : Int) = 8 from rfl] at c1 c2
 simp only [CP]
 generalize Av 8 i.t ++ Av 1 i.s.toNat = L at *
 generalize Av 8 i.t = L1 at *
 generalize Av 8 i.q = L2 at *
 simp only [F9]
 refine Am fun B => ?_
 repeat' (first | rw [hL] | refine Al ?_ | (refine Ay ?_; first | refine cz (c1) ?_ | refine cz (c2) ?_ | refine cz (c3) ?_) | refine Ak ?_ | refine nc ?_ ?_ | (with_reducible intro _ <;> (try (exfalso; omega))) | refine Ad ?_ | (refine nd ?_ ?_ <;> intro hg <;> first | exact xo hg | rw [hg]))
 all_goals first | rfl | trace_state
theorem J5 (o : Bb) (f : Fd) : VP Tryz.prog 194 [.agg (oD o), Mg f] (· = .ret (Ar (match f with | .x => o.x | .y => o.y | .x2 => o.x2 | _ => o.y2))) := by
 cases f
 all_goals
  simp only [oD, De, Mg, Fd.nm]
  refine Am fun B => ?_
  repeat' (first | refine Al ?_ | refine Ak ?_ | refine nc ?_ ?_ | (with_reducible intro _ <;> (try (exfalso; omega))) | refine Ad ?_ | (refine nd ?_ ?_ <;> intro hg <;> first | exact xo hg | rw [hg]))
  all_goals rfl
theorem V7 (c : BL) : VP Tryz.prog 195 [.agg (CI c)] (· = .own 5 1 (AH (c4 c))) := by
 simp only [CI]
 refine Am fun B => ?_
 repeat' (first | refine Al ?_ | refine Ak ?_ | refine nc ?_ ?_ | (with_reducible intro _ <;> (try (exfalso; omega))) | refine Ad ?_ | (refine nd ?_ ?_ <;> intro hg <;> first | exact xo hg | rw [hg]))
 all_goals first | rfl | trace_state

set_option maxRecDepth 20000
set_option maxRecDepth 10000
theorem AbM (o : Bb) (h : Da o = true) (hk : o.k = 6) : VP Tryz.prog 149 [.agg (oD o)] (· = .ret (.sl false true (AH (Cf o)))) := by
 obtain ⟨h1, h2, h3, ⟨h4, h5, h6, h7⟩, h8, h9, ha⟩ := EM h
 have hz := RM h
 have ci := VR o.id h1
 have u1 := BV o.k .x
 have u2 := BV o.k .y
 have u3 := BV o.k .x2
 have u4 := BV o.k .y2
 have u5 := BV o.k .z
 have u6 := BV o.k .c
 have u7 := BV o.k .s
 have u8 := BV o.k .t
 have a1 := J5 o .x
 have a2 := J5 o .y
 have a3 := J5 o .x2
 have a4 := J5 o .y2
 have cl := KB 2 o.z.toNat (by omega) (by omega)
 have cc := V7 o.c
 simp only [Kn, Bool.and_eq_true, decide_eq_true_eq] at h4 h5 h6 h7
 have e1 := IM (o.x + 64) (by omega) (by omega)
 have e2 := IM (o.y + 64) (by omega) (by omega)
 have e3 := IM (o.x2 + 64) (by omega) (by omega)
 have e4 := IM (o.y2 + 64) (by omega) (by omega)
 have e0 := IM o.k (by omega) (by omega)
 rw [AW, show ((o.z.toNat : Nat) : Int) = o.z by omega, show ((2 : Nat) : Int) = 2 from rfl] at cl
 refine VP.le ?_
 have hln : ([AT (D.lit (Value.string { data := #[88] })), AT (D.lit (Value.string { data := #[89] })), AT (D.lit (Value.string { data := #[88, 50] })), AT (D.lit (Value.string { data := #[89, 50] }))] : List (List D)).length = 4 := rfl
 obtain ⟨n1, n2, n3, n4, n5, n6, n7, n8⟩ := TA hk
 rw [n1] at u1
 rw [n2] at u2
 rw [n3] at u3
 rw [n4] at u4
 rw [n5] at u5
 rw [n6] at u6
 rw [n7] at u7
 rw [n8] at u8
 clear n1 n2 n3 n4 n5 n6 n7 n8
 rw [show AH (Cf o) = AH (Av 1 o.k.toNat) ++ AH (CP o.id) ++ AH (GN o.x) ++ AH (GN o.y) ++ AH (Av 1 o.w.toNat) ++ AH (Av 1 o.h.toNat) ++ AH (Eh o.px) by
  rw [Cf, Bu, if_neg (by omega), if_neg (by omega), if_neg (by omega), if_pos hk]; simp only [CU, Dz, List.append_assoc]]
 have l1 : (AH (CP o.id)).length = 17 := by rw [AA, C0]
 simp only [GN]
 obtain ⟨s1, s2, s3⟩ := JR (h9 hk)
 simp only [Bv, Bool.and_eq_true, decide_eq_true_eq] at s1 s2
 have e5 := IM o.w (by omega) (by omega)
 have e6 := IM o.h (by omega) (by omega)
 rw [e0, e1, e2, e5, e6]
 generalize AH (CP o.id) = L1 at *
 simp only [oD, De, Mg, Fd.nm] at *
 refine Am fun B => ?_
 repeat' (first | refine Al ?_ | (refine Ay ?_; first | refine cz (ci) ?_) | refine Ak ?_ | refine nc ?_ ?_ | (with_reducible intro _ <;> (try (exfalso; omega))) | refine Ad ?_ | (refine nd ?_ ?_ <;> intro hg <;> first | exact xo hg | rw [hg]))
 refine AF 5 ?_
 repeat' (first | refine Al ?_ | (refine Ay ?_; first | refine cz (u1) ?_ | refine cz (u2) ?_ | refine cz (u3) ?_ | refine cz (u4) ?_ | refine cz (u5) ?_ | refine cz (u6) ?_ | refine cz (u7) ?_ | refine cz (u8) ?_ | refine cz (a1) ?_ | refine cz (a2) ?_) | refine Ak ?_ | refine nc ?_ ?_ | (with_reducible intro _ <;> (try (exfalso; omega))) | refine Ad ?_ | (refine nd ?_ ?_ <;> intro hg <;> first | exact xo hg | rw [hg]))
 have hpl := Dl o.px
 have hl64 : o.px.length ≤ 64 := by rw [s3]; exact Nat.mul_le_mul (show o.w.toNat ≤ 8 by omega) (show o.h.toNat ≤ 8 by omega)
 refine Bi 68 o.px CI (fun (i : Nat) (_ : Unit) => ⟨[(70, I .i64 i), (69, I .i64 (o.px.map CI).length), (68, .d (Iu o.px)), (3, .row 1 0), (1, .ptr 0 0)],
   [.r true true 1 0 5 1 ([AT (.lit (.int .u8 o.k))] ++ L1 ++ [AT (.lit (.int .u8 (o.x + 64)))] ++ [AT (.lit (.int .u8 (o.y + 64)))] ++ [AT (.lit (.int .u8 o.w)), AT (.lit (.int .u8 o.h))] ++ AH (Eh (o.px.take i))), .c 0 0 ((oD o).map V.d)], 2⟩) (fun i _ => True) () (by rw [List.take_zero, show AH (Eh []) = [] from rfl, List.append_nil]; exact (CO [(1, _, _)])) trivial (fun i y x hT hi hx hx' hlt hlm hlen hdr => ?_) (fun y hT hlt hlm => ?_)
 ·have cx := V7 x
  have htk : AH (Eh (o.px.take (i + 1))) = AH (Eh (o.px.take i)) ++ AH (c4 x) := by rw [List.take_add_one, hx]; simp [Eh, AH]
  have hpn2 : (Eh (o.px.take i)).length ≤ 256 := by rw [FZ, List.length_take]; omega
  have hpn : (AH (Eh (o.px.take i))).length ≤ 256 := by rw [AA, FZ, List.length_take]; omega
  repeat' (first | refine Al ?_ | (refine Ay ?_; first | refine cz (cx) ?_) | refine Ak ?_ | refine nc ?_ ?_ | (with_reducible intro _ <;> (try (exfalso; omega))) | refine Ad ?_ | (refine nd ?_ ?_ <;> intro hg <;> first | exact xo hg | rw [hg]))
  refine Be () hi trivial ?_
  rw [htk, ← List.append_assoc]
  exact (CO [(1, _, _)])
 ·rw [List.take_of_length_le (Nat.le_refl _)]
  simp only [oD, De] at *
  repeat' (first | refine Al ?_ | (refine Ay ?_; first | refine cz (u1) ?_ | refine cz (u2) ?_ | refine cz (u3) ?_ | refine cz (u4) ?_ | refine cz (u5) ?_ | refine cz (u6) ?_ | refine cz (u7) ?_ | refine cz (u8) ?_) | refine Ak ?_ | refine nc ?_ ?_ | (with_reducible intro _ <;> (try (exfalso; omega))) | refine Ad ?_ | (refine nd ?_ ?_ <;> intro hg <;> first | exact xo hg | rw [hg]))
  simp only [List.append_assoc, List.cons_append, List.nil_append, AT]
  exact AP _

set_option maxRecDepth 20000
set_option maxRecDepth 10000
theorem AbL (o : Bb) (h : Da o = true) (hne : o.k ≠ 6) : VP Tryz.prog 149 [.agg (oD o)] (· = .ret (.sl false true (AH (Cf o)))) := by
 obtain ⟨h1, h2, h3, ⟨h4, h5, h6, h7⟩, h8, h9, ha⟩ := EM h
 have hz := RM h
 have ci := VR o.id h1
 have u1 := BV o.k .x
 have u2 := BV o.k .y
 have u3 := BV o.k .x2
 have u4 := BV o.k .y2
 have u5 := BV o.k .z
 have u6 := BV o.k .c
 have u7 := BV o.k .s
 have u8 := BV o.k .t
 have a1 := J5 o .x
 have a2 := J5 o .y
 have a3 := J5 o .x2
 have a4 := J5 o .y2
 have cl := KB 2 o.z.toNat (by omega) (by omega)
 have cc := V7 o.c
 simp only [Kn, Bool.and_eq_true, decide_eq_true_eq] at h4 h5 h6 h7
 have e1 := IM (o.x + 64) (by omega) (by omega)
 have e2 := IM (o.y + 64) (by omega) (by omega)
 have e3 := IM (o.x2 + 64) (by omega) (by omega)
 have e4 := IM (o.y2 + 64) (by omega) (by omega)
 have e0 := IM o.k (by omega) (by omega)
 rw [AW, show ((o.z.toNat : Nat) : Int) = o.z by omega, show ((2 : Nat) : Int) = 2 from rfl] at cl
 refine VP.le ?_
 have hln : ([AT (D.lit (Value.string { data := #[88] })), AT (D.lit (Value.string { data := #[89] })), AT (D.lit (Value.string { data := #[88, 50] })), AT (D.lit (Value.string { data := #[89, 50] }))] : List (List D)).length = 4 := rfl
 rcases YE o.k with hk | hk | hk | hk | hk | hk
 ·obtain ⟨n1, n2, n3, n4, n5, n6, n7, n8⟩ := TD hk
  rw [n1] at u1
  rw [n2] at u2
  rw [n3] at u3
  rw [n4] at u4
  rw [n5] at u5
  rw [n6] at u6
  rw [n7] at u7
  rw [n8] at u8
  clear n1 n2 n3 n4 n5 n6 n7 n8
  rw [show AH (Cf o) = AH (Av 1 o.k.toNat) ++ AH (CP o.id) ++ AH (GN o.x) ++ AH (GN o.y) ++ AH (GN o.x2) ++ AH (GN o.y2) ++ AH (Et o) ++ AH (c4 o.c) by
   rw [Cf, Bu, if_pos hk]; simp only [CU, FK, Dz, List.append_assoc]]
  have l1 : (AH (CP o.id)).length = 17 := by rw [AA, C0]
  simp only [GN]
  rw [e0, e1, e2, e3, e4]
  have l2 : (AH (Et o)).length = 2 := by rw [AA, Et, As]
  simp only [Et] at l2 ⊢
  generalize AH (Av 2 o.z.toNat) = L2 at *
  generalize AH (CP o.id) = L1 at *
  simp only [oD, De, Mg, Fd.nm] at *
  refine Am fun B => ?_
  repeat' (first | refine Al ?_ | (refine Ay ?_; first | refine cz (ci) ?_) | refine Ak ?_ | refine nc ?_ ?_ | (with_reducible intro _ <;> (try (exfalso; omega))) | refine Ad ?_ | (refine nd ?_ ?_ <;> intro hg <;> first | exact xo hg | rw [hg]))
  refine AF 5 ?_
  repeat' (first | refine Al ?_ | (refine Ay ?_; first | refine cz (u1) ?_ | refine cz (u2) ?_ | refine cz (u3) ?_ | refine cz (u4) ?_ | refine cz (u5) ?_ | refine cz (u6) ?_ | refine cz (u7) ?_ | refine cz (u8) ?_ | refine cz (a1) ?_ | refine cz (a2) ?_ | refine cz (a3) ?_ | refine cz (a4) ?_ | refine cz (cl) ?_ | refine cz (cc) ?_) | refine Ak ?_ | refine nc ?_ ?_ | (with_reducible intro _ <;> (try (exfalso; omega))) | refine Ad ?_ | (refine nd ?_ ?_ <;> intro hg <;> first | exact xo hg | rw [hg]))
  all_goals exact AP _
 ·obtain ⟨n1, n2, n3, n4, n5, n6, n7, n8⟩ := TC hk
  rw [n1] at u1
  rw [n2] at u2
  rw [n3] at u3
  rw [n4] at u4
  rw [n5] at u5
  rw [n6] at u6
  rw [n7] at u7
  rw [n8] at u8
  clear n1 n2 n3 n4 n5 n6 n7 n8
  rw [show AH (Cf o) = AH (Av 1 o.k.toNat) ++ AH (CP o.id) ++ AH (GN o.x) ++ AH (GN o.y) ++ AH (GN o.x2) ++ AH (GN o.y2) ++ AH (c4 o.c) by
   rw [Cf, Bu, if_neg (by omega), if_pos hk]; simp only [CU, FK, Dz, List.append_assoc]]
  have l1 : (AH (CP o.id)).length = 17 := by rw [AA, C0]
  simp only [GN]
  rw [e0, e1, e2, e3, e4]
  generalize AH (CP o.id) = L1 at *
  simp only [oD, De, Mg, Fd.nm] at *
  refine Am fun B => ?_
  repeat' (first | refine Al ?_ | (refine Ay ?_; first | refine cz (ci) ?_) | refine Ak ?_ | refine nc ?_ ?_ | (with_reducible intro _ <;> (try (exfalso; omega))) | refine Ad ?_ | (refine nd ?_ ?_ <;> intro hg <;> first | exact xo hg | rw [hg]))
  refine AF 5 ?_
  repeat' (first | refine Al ?_ | (refine Ay ?_; first | refine cz (u1) ?_ | refine cz (u2) ?_ | refine cz (u3) ?_ | refine cz (u4) ?_ | refine cz (u5) ?_ | refine cz (u6) ?_ | refine cz (u7) ?_ | refine cz (u8) ?_ | refine cz (a1) ?_ | refine cz (a2) ?_ | refine cz (a3) ?_ | refine cz (a4) ?_ | refine cz (cc) ?_) | refine Ak ?_ | refine nc ?_ ?_ | (with_reducible intro _ <;> (try (exfalso; omega))) | refine Ad ?_ | (refine nd ?_ ?_ <;> intro hg <;> first | exact xo hg | rw [hg]))
  all_goals exact AP _
 ·obtain ⟨n1, n2, n3, n4, n5, n6, n7, n8⟩ := TB hk
  rw [n1] at u1
  rw [n2] at u2
  rw [n3] at u3
  rw [n4] at u4
  rw [n5] at u5
  rw [n6] at u6
  rw [n7] at u7
  rw [n8] at u8
  clear n1 n2 n3 n4 n5 n6 n7 n8
  rw [show AH (Cf o) = AH (Av 1 o.k.toNat) ++ AH (CP o.id) ++ AH (GN o.x) ++ AH (GN o.y) ++ AH (Et o) ++ AH (c4 o.c) by
   rw [Cf, Bu, if_neg (by omega), if_neg (by omega), if_pos hk]; simp only [CU, Dz, List.append_assoc]]
  have l1 : (AH (CP o.id)).length = 17 := by rw [AA, C0]
  simp only [GN]
  rw [e0, e1, e2]
  have l2 : (AH (Et o)).length = 2 := by rw [AA, Et, As]
  simp only [Et] at l2 ⊢
  generalize AH (Av 2 o.z.toNat) = L2 at *
  generalize AH (CP o.id) = L1 at *
  simp only [oD, De, Mg, Fd.nm] at *
  refine Am fun B => ?_
  repeat' (first | refine Al ?_ | (refine Ay ?_; first | refine cz (ci) ?_) | refine Ak ?_ | refine nc ?_ ?_ | (with_reducible intro _ <;> (try (exfalso; omega))) | refine Ad ?_ | (refine nd ?_ ?_ <;> intro hg <;> first | exact xo hg | rw [hg]))
  refine AF 5 ?_
  repeat' (first | refine Al ?_ | (refine Ay ?_; first | refine cz (u1) ?_ | refine cz (u2) ?_ | refine cz (u3) ?_ | refine cz (u4) ?_ | refine cz (u5) ?_ | refine cz (u6) ?_ | refine cz (u7) ?_ | refine cz (u8) ?_ | refine cz (a1) ?_ | refine cz (a2) ?_ | refine cz (cl) ?_ | refine cz (cc) ?_) | refine Ak ?_ | refine nc ?_ ?_ | (with_reducible intro _ <;> (try (exfalso; omega))) | refine Ad ?_ | (refine nd ?_ ?_ <;> intro hg <;> first | exact xo hg | rw [hg]))
  all_goals exact AP _
 ·exact (hne hk).elim
 ·obtain ⟨n1, n2, n3, n4, n5, n6, n7, n8⟩ := Tz hk
  rw [n1] at u1
  rw [n2] at u2
  rw [n3] at u3
  rw [n4] at u4
  rw [n5] at u5
  rw [n6] at u6
  rw [n7] at u7
  rw [n8] at u8
  clear n1 n2 n3 n4 n5 n6 n7 n8
  rw [show AH (Cf o) = AH (Av 1 o.k.toNat) ++ AH (CP o.id) ++ AH (CP o.tg) by
   rw [Cf, Bu, if_neg (by omega), if_neg (by omega), if_neg (by omega), if_neg (by omega)]; simp only [Dz, List.append_assoc]]
  have l1 : (AH (CP o.id)).length = 17 := by rw [AA, C0]
  have ci2 := VR o.tg (ha (by omega)).1
  have l3 : (AH (CP o.tg)).length = 17 := by rw [AA, C0]
  rw [e0]
  clear cl cc a1 a2 a3 a4 e1 e2 e3 e4
  generalize AH (CP o.tg) = L3 at *
  generalize AH (CP o.id) = L1 at *
  simp only [oD, De, Mg, Fd.nm] at *
  refine Am fun B => ?_
  repeat' (first | refine Al ?_ | (refine Ay ?_; first | refine cz (ci) ?_) | refine Ak ?_ | refine nc ?_ ?_ | (with_reducible intro _ <;> (try (exfalso; omega))) | refine Ad ?_ | (refine nd ?_ ?_ <;> intro hg <;> first | exact xo hg | rw [hg]))
  refine AF 5 ?_
  repeat' (first | refine Al ?_ | (refine Ay ?_; first | refine cz (u1) ?_ | refine cz (u2) ?_ | refine cz (u3) ?_ | refine cz (u4) ?_ | refine cz (u5) ?_ | refine cz (u6) ?_ | refine cz (u7) ?_ | refine cz (u8) ?_ | refine cz (ci2) ?_) | refine Ak ?_ | refine nc ?_ ?_ | (with_reducible intro _ <;> (try (exfalso; omega))) | refine Ad ?_ | (refine nd ?_ ?_ <;> intro hg <;> first | exact xo hg | rw [hg]))
  all_goals exact AP _
 ·omega
theorem AbK (o : Bb) (h : Da o = true) : VP Tryz.prog 149 [.agg (oD o)] (· = .ret (.sl false true (AH (Cf o)))) := by
 by_cases h6 : o.k = 6
 ·exact AbM o h h6
 ·exact AbL o h h6

set_option maxRecDepth 20000
set_option maxRecDepth 10000
def Xw (o : Bb) : Bb := { o with px := o.px.take 66 }
instance AaI (l : List Bb) : CC (l.map oM) (l.map oD) := BS l _ _ (fun _ => inferInstance) (fun _ => rfl)
instance Z2 (l : List Bb) : FI (l.map oM) := HI l _
theorem Zv (l : List Bb) (h : ∀ o ∈ l, Da o = true) (hl : l.length ≤ 64) : VP Tryz.prog 91 [Ej l] (· = .ret (.sl false true (AH (C9 l)))) := by
 have hln := DW l
 have e0 := IM (l.map oD).length (by omega) (by omega)
 refine VP.le ?_
 refine Am fun B => ?_
 repeat' (first | refine Al ?_ | refine Ak ?_ | refine nc ?_ ?_ | (with_reducible intro _ <;> (try (exfalso; omega))) | refine Ad ?_ | (refine nd ?_ ?_ <;> intro hg <;> first | exact xo hg | rw [hg]))
 refine Bi 10 l oD (fun (i : Nat) (_ : Unit) => ⟨[(12, I .i64 i), (11, I .i64 (l.map oD).length), (10, .d (Ej l)), (3, .row 0 0)], [.r true true 0 0 5 1 ([AT (.lit (.int .u8 ((l.map oD).length : Int)))] ++ AH ((l.take i).flatMap Cf))], 1⟩) (fun i _ => True) () (by rw [List.take_zero, List.flatMap_nil, show AH [] = [] from rfl, List.append_nil]; exact (CO [(0, _, _)])) trivial (fun i y x hT hi hx hx' hlt hlm hlen hdr => ?_) (fun y hT hlt hlm => ?_)
 ·have c := AbK x (h x (List.mem_of_getElem? hx))
  have htk : AH ((l.take (i + 1)).flatMap Cf) = AH ((l.take i).flatMap Cf) ++ AH (Cf x) := by rw [List.take_add_one, hx]; simp [AH]
  have h1 : ((l.take i).flatMap Cf).length ≤ 64000 := by
   have := NO (l.take i) fun o ho => h o (List.mem_of_mem_take ho)
   have h2 : (l.take i).length ≤ i := by simp; omega
   omega
  have h2 := Va (h x (List.mem_of_getElem? hx))
  obtain ⟨L, hL⟩ : ∃ L, (l.take i).flatMap Cf = L := ⟨_, rfl⟩
  rw [hL] at htk h1 ⊢
  simp only [oD, De] at hx' c
  repeat' (first | refine Al ?_ | (refine Ay ?_; first | refine cz (c) ?_) | refine Ak ?_ | refine nc ?_ ?_ | (with_reducible intro _ <;> (try (exfalso; omega))) | refine Ad ?_ | (refine nd ?_ ?_ <;> intro hg <;> first | exact xo hg | rw [hg]))
  refine Be () hi trivial ?_
  rw [htk, ← List.append_assoc]
  exact (CO [(0, _, _)])
 ·rw [List.take_of_length_le (Nat.le_refl _)]
  repeat' (first | refine Al ?_ | refine Ak ?_ | refine nc ?_ ?_ | (with_reducible intro _ <;> (try (exfalso; omega))) | refine Ad ?_ | (refine nd ?_ ?_ <;> intro hg <;> first | exact xo hg | rw [hg]))
  rw [C9, Dz, ← hln, ← Int.toNat_natCast (l.map oD).length, e0]
  exact AP _

set_option maxRecDepth 20000
set_option maxRecDepth 10000
theorem Aao (F : Nat) (l m : List Bb) (cF : ∀ x z : Bb, VP Tryz.prog F [.agg (oD x), .agg (oD z)] (· = .ret (.lit (.bool (decide (x = z)))))) :
  VP Tryz.prog 47 [Ej l, Ej m, .fn F [] []] (· = .ret (.lit (.bool (decide (l = m))))) := by
 rw [← QG]
 refine Am fun B => ?_
 have hl := DW l
 have hm := DW m
 generalize hp : (fun x y : Bb => decide (x = y)) = p
 repeat' (first | refine Al ?_ | refine Ak ?_ | refine nc ?_ ?_ | (with_reducible intro _ <;> (try (exfalso; omega))) | refine Ad ?_ | (refine nd ?_ ?_ <;> intro hg <;> first | exact xo hg | rw [hg]))
 ·rw [N5 (by omega)]
 ·refine Bi 15 l oD (fun (i : Nat) (_ : Unit) => ⟨[(17, I .i64 i), (16, I .i64 (l.map oD).length), (15, .d (Ej l)), (1, .d (Ej m)), (2, .d (.fn F [] []))], [], 0⟩) (fun i _ => PH p l m = PH p (l.drop i) (m.drop i)) () (AI) rfl (fun i y x hT hi hx hx' hlt hlm hlen hdr => ?_) (fun y hT hlt hlm => ?_)
  ·have hlb : i < m.length := by omega
   have hb' : m[i]? = some m[i] := List.getElem?_eq_getElem hlb
   have hbd := List.drop_eq_getElem_cons hlb
   generalize m[i] = z at *
   have hbx : (m.map oD)[((i : Nat) : Int).toNat]? = some (oD z) := by simp [hb']
   rw [hdr, hbd] at hT
   have c := cF x z
   rw [show decide (x = z) = p x z by rw [← hp]] at c
   simp only [oD, De] at c hx' hbx ⊢
   repeat' (first | refine Al ?_ | (refine Ay ?_; first | refine cz (c) ?_) | refine Ak ?_ | refine nc ?_ ?_ | (with_reducible intro _ <;> (try (exfalso; omega))) | refine Ad ?_ | (refine nd ?_ ?_ <;> intro hg <;> first | exact xo hg | rw [hg]))
   ·rw [hT]; simp_all [PH]
   ·refine Be () hi ?_ (AI); rw [hT]; simp_all [PH]
  ·repeat' (first | refine Al ?_ | refine Ak ?_ | refine nc ?_ ?_ | (with_reducible intro _ <;> (try (exfalso; omega))) | refine Ad ?_ | (refine nd ?_ ?_ <;> intro hg <;> first | exact xo hg | rw [hg]))
   rw [hT, List.drop_of_length_le (Nat.le_refl _), List.drop_of_length_le (by omega)]; rfl
theorem XZ (l m : List Bb) : VP Tryz.prog 47 [Ej l, Ej m, .fn 48 [] []] (· = .ret (.lit (.bool (decide (l = m))))) := Aao _ l m RI

set_option maxRecDepth 20000
set_option maxRecDepth 10000
abbrev Db (b o : D) (x : Fr) : List D := [Ar x.k, AW x.ep, Ar x.si, AW x.sn, Ar x.ix, Ar x.my, b, o,
 AW x.v.n0, AW x.v.n1, AW x.v.n2, AW x.v.n3, AW x.v.n4, AW x.v.n5, AW x.v.n6, AW x.v.n7, AW x.v.n8, AW x.fl, AW x.fq, AW x.pr, AW x.tl,
 AW x.w.n0, AW x.w.n1, AW x.w.n2, AW x.w.n3, AW x.w.n4, AW x.w.n5, AW x.w.n6, AW x.w.n7, AW x.w.n8]
abbrev Cj (g : Bool) (x : Fr) : List D := Db (.sl false g (AH x.bs)) (.sl false g (x.os.map (De g))) x
abbrev E4 : D := .lit (.slice none 0 0)
def AbP (b : D) (l : List UInt8) : Prop := b = CV l ∨ b = E4 ∧ l = []
def AbO (o : D) (l : List Bb) : Prop := o = Ej l ∨ o = E4 ∧ l = []
abbrev Bx (x : Fr) : List D := Cj false x
abbrev Gl (x : Fr) : List D := Cj true x
def Fl.nm : Fl → List UInt8
 | .ep => [69, 112, 111, 99, 104]
 | .si => [83, 105, 116, 101]
 | .sn => [83, 110, 97, 112]
 | .ix => [73, 110, 100, 101, 120]
 | .my => [77, 97, 110, 121]
 | .bs => [66, 121, 116, 101, 115]
 | .os => [79, 112, 115]
 | .v => [86, 101, 99, 116, 111, 114]
 | .fl => [70, 108, 111, 111, 114]
 | .fq => [70, 108, 111, 111, 114, 83, 101, 113]
 | .pr => [80, 114, 111, 112, 111, 115, 101, 100]
 | .tl => [84, 111, 108, 100]
 | .w => [66, 121]
abbrev Iz (n : Fl) : D := .lit (Bl n.nm)
abbrev EN (l : List Fl) : List (List D) := l.map fun n => [Iz n]
theorem LF (l : List Fl) : (EN l).length = l.length := List.length_map _
instance Acc (l : List Fl) : CC (EN l) (EN l) := BS l _ _ (fun _ => inferInstance) (fun _ => rfl)
instance AaG (l : List Fl) : FI (EN l) := HI l _
def Bp (k : Int) : List UInt8 := if k = 1 then [106, 111, 105, 110] else if k = 2 then [99, 104, 117, 110, 107] else if k = 3 then [111, 112, 115] else if k = 4 then [115, 116, 97, 116, 117, 115] else if k = 5 then [115, 116, 97, 116, 101] else []
theorem IV (k : Int) : k = 1 ∨ k = 2 ∨ k = 3 ∨ k = 4 ∨ k = 5 ∨ (k ≠ 1 ∧ k ≠ 2 ∧ k ≠ 3 ∧ k ≠ 4 ∧ k ≠ 5) := by omega
theorem W0 (k : Int) : VP Tryz.prog 18 [Ar k] (· = .ret (.lit (Bl (Bp k)))) := by
 rcases IV k with rfl | rfl | rfl | rfl | rfl | ⟨h1, h2, h3, h4, h5⟩
 all_goals
  refine Am fun B => ?_
  repeat' (first | refine Al ?_ | refine Ak ?_ | refine nc ?_ ?_ | (with_reducible intro _ <;> (try (exfalso; omega))) | refine Ad ?_ | (refine nd ?_ ?_ <;> intro hg <;> first | exact xo hg | rw [hg]))
 all_goals first | rfl | (simp only [Bp]; rw [if_neg h1, if_neg h2, if_neg h3, if_neg h4, if_neg h5])
theorem K3 (k : Int) : VP Tryz.prog 21 [Ar k] (· = .ret (.sl false true (EN (AV k)))) := by
 refine VP.le ?_
 rcases IV k with rfl | rfl | rfl | rfl | rfl | ⟨h1, h2, h3, h4, h5⟩
 all_goals
  refine Am fun B => ?_
  repeat' (first | refine Al ?_ | refine Ak ?_ | refine nc ?_ ?_ | (with_reducible intro _ <;> (try (exfalso; omega))) | refine Ad ?_ | (refine nd ?_ ?_ <;> intro hg <;> first | exact xo hg | rw [hg]))
 all_goals first | exact AP _ | (simp only [AV]; rw [if_neg h1, if_neg h2, if_neg h3, if_neg h4, if_neg h5]; exact QI) | (simp only [HN]; infer_instance)
theorem NT {v : V} {l : List V} (h : Co v = true) (k : BH l = true) : BH (v :: l) = true := by simp only [BH, h, k]
theorem W4 (b o : D) (hb : Co (.d b) = true) (ho : Co (.d o) = true) (f g : Fr) (n : Fl) :
  VP Tryz.prog 65 [.agg (Db b o f), .agg (Bx g), Iz n] (· = .ret (.agg (Db (if n = .bs then CV g.bs else b) (if n = .os then Ej g.os else o) (Ko f g n)))) := by
 cases n
 all_goals
  simp only [Iz, Fl.nm, Ko, Bx, Cj, Db, reduceCtorEq, if_false, if_true]
  refine Am fun B => ?_
  repeat' (first | refine Al ?_ | refine Ak ?_ | refine nc ?_ ?_ | (with_reducible intro _ <;> (try (exfalso; omega))) | refine Ad ?_ | (refine nd ?_ ?_ <;> intro hg <;> first | exact xo hg | rw [hg]) | refine WD ?_ (by (with_reducible apply FT) <;> first | rfl | (repeat (first | exact rfl | refine NT (by first | rfl | assumption) ?_))))
 all_goals rfl

set_option maxRecDepth 20000
theorem Lm : EF Tryz.prog 28 (fun _ : Fr => True) Bx :=
 (EF.struct (tot := 30) Tryz.underlying28 (by kernel_rfl) (BZ.cons CR rfl (BZ.cons E3 (by kernel_rfl) (BZ.cons CR (by kernel_rfl) (BZ.cons E3 (by kernel_rfl) (BZ.cons CR (by kernel_rfl) (BZ.cons CR (by kernel_rfl) (BZ.cons U7 (by kernel_rfl) (BZ.cons Xz (by kernel_rfl) (BZ.cons U3 (by kernel_rfl) (BZ.cons E3 (by kernel_rfl) (BZ.cons E3 (by kernel_rfl) (BZ.cons E3 (by kernel_rfl) (BZ.cons E3 (by kernel_rfl) (BZ.cons U3 (by kernel_rfl) (BZ.nil (by kernel_rfl))))))))))))))))).map
  (fun (k, ep, si, sn, ix, my, bs, os, v, fl, fq, pr, tl, w, _) h => ⟨⟨k, ep.toNat, si, sn.toNat, ix, my, bs, os, v, fl.toNat, fq.toNat, pr.toNat, tl.toNat, w⟩, trivial, by
   obtain ⟨_, h1, _, h2, _, _, _, _, _, h3, h4, h5, h6, _, _⟩ := h
   have q1 : ((ep.toNat : Nat) : Int) = ep := Int.toNat_of_nonneg h1.1
   have q2 : ((sn.toNat : Nat) : Int) = sn := Int.toNat_of_nonneg h2.1
   have q3 : ((fl.toNat : Nat) : Int) = fl := Int.toNat_of_nonneg h3.1
   have q4 : ((fq.toNat : Nat) : Int) = fq := Int.toNat_of_nonneg h4.1
   have q5 : ((pr.toNat : Nat) : Int) = pr := Int.toNat_of_nonneg h5.1
   have q6 : ((tl.toNat : Nat) : Int) = tl := Int.toNat_of_nonneg h6.1
   simp only [Bx, Cj, Db, AW]
   rw [q1, q2, q3, q4, q5, q6]
   rfl⟩) (fun z hz => by rw [show Tryz.prog.cellsOf 28 = 30 by kernel_rfl]; rfl)

end Go.Proofs.YtbgcjnfhadhjeaaGreat