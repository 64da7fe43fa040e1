/- Walks by data and names, part 41: The document's layer 19, by V: the bytes of operations. The document's layer 19, by V: a stamp's bytes. The document's layer 19, by V: operations' bytes. -/
import Derived.ShutString
import Derived.ChangeOld
import Derived.JoinedOf
import Derived.Test.YtnjaohdadaifhaaGreatPk40
import Derived.Test.YtnjaohdadaifhaaGreatPk34
import Derived.Test.YtnjaohdadaifhaaGreatPk25
import Derived.Test.YtnjaohdadaifhaaGreatPk3
namespace Go.Proofs.YtnjaohdadaifhaaGreat
set_option maxRecDepth 20000
open Go.RowKit
set_option maxRecDepth 10000
set_option maxHeartbeats 4000000
theorem lay01_o (w n : Nat) (hw : w ≤ 8) (hn : n < 18446744073709551616) : VP Tryz.prog 62 [i64D w, u64D n] (· = .own 5 1 (byD (layN w n))) := by
  refine vp_of Tryz.func62 rfl Tryz.ntmps62 rfl Tryz.results62 fun B => ?_
  repeat' (first | refine nz1 ?_ | refine nzo ?_ | refine nc ?_ ?_ | (with_reducible intro _ <;> (try (exfalso; omega))) | refine nnil ?_ | (refine nd ?_ ?_ <;> intro hg <;> first | exact xo hg | rw [hg]))
  refine vw_nilT 5 5 1 rfl ?_
  refine vw_loop (fun i : Nat => ⟨[(7, I .i64 i), (6, I .i64 w), (5, .row 0 0), (1, I .u64 ((n / 256 ^ i : Nat) : Int))], [.r true true 0 0 5 1 (byD (layN i n))], 1⟩) (fun i => i ≤ w) (fun i => w - i) 0 (by rw [Nat.pow_zero, Nat.div_one]; exact (sub_z)) (Nat.zero_le _) fun i hi => ?_
  have hm : n / 256 ^ i < 18446744073709551616 := Nat.lt_of_le_of_lt (Nat.div_le_self _ _) hn
  have hst : n / 256 ^ (i + 1) = n / 256 ^ i / 256 := by rw [Nat.pow_succ, Nat.div_div_eq_div_mul]
  have hc := layN_cons i n
  generalize n / 256 ^ i = m at *
  have hb : vb (UInt8.ofNat (m % 256)) = .int .u8 (IntKind.u8.wrap ((m : Int).tmod 256)) := by
    rw [vb_of _ (Nat.mod_lt _ (by omega)), Int.tmod_eq_emod_of_nonneg (by omega), show (m : Int) % 256 = ((m % 256 : Nat) : Int) by omega, wrap_8 _ (Nat.mod_lt _ (by omega))]
  have hl : (byD (layN i n)).length = i := by rw [byD_len, layN_len]
  have hl2 := layN_len i n
  rcases Nat.lt_or_ge i w with h | h
  · repeat' (first | refine nz1 ?_ | refine nzo ?_ | refine nc ?_ ?_ | (with_reducible intro _ <;> (try (exfalso; omega))) | refine nnil ?_ | (refine nd ?_ ?_ <;> intro hg <;> first | exact xo hg | rw [hg]))
    refine nx_loop (i + 1) (show i + 1 ≤ _ by omega) (show w - (i + 1) < w - i by omega) ?_
    rw [hc, hst, ← wrap_q m hm]
    simp only [byD, List.map_cons, hb]
    exact (sub_zr [(0, _, _)])
  · repeat' (first | refine nz1 ?_ | refine nzo ?_ | refine nc ?_ ?_ | (with_reducible intro _ <;> (try (exfalso; omega))) | refine nnil ?_ | (refine nd ?_ ?_ <;> intro hg <;> first | exact xo hg | rw [hg]))
    rw [show w = i by omega]
theorem rbehind_v (a b : List UInt8) (h : a.length + b.length ≤ 140737488355328) : VP Tryz.prog 61 [bsD a, bsD b] (· = .own 5 1 (byD (a ++ b))) := by
  have ha := byD_len a
  have hb := byD_len b
  have hab : byD (a ++ b) = byD a ++ byD b := List.map_append
  rw [hab]
  refine vp_of Tryz.func61 rfl Tryz.ntmps61 rfl Tryz.results61 fun B => ?_
  repeat' (first | refine nz1 ?_ | refine nzo ?_ | refine nc ?_ ?_ | (with_reducible intro _ <;> (try (exfalso; omega))) | refine nnil ?_ | (refine nd ?_ ?_ <;> intro hg <;> first | exact xo hg | rw [hg]))
  all_goals first | rfl | trace_state
theorem one8 (n : Int) (h0 : 0 ≤ n) (h1 : n < 256) : byD (layN 1 n.toNat) = [[.lit (.int .u8 n)]] := by
  rw [lay1]
  simp only [byD, List.map_cons, List.map_nil, vb]
  rw [u8_z n h0 h1]
theorem byD_app (a b : List UInt8) : byD (a ++ b) = byD a ++ byD b := List.map_append
theorem idR_v (i : Idd) (h : idB i = true) : VP Tryz.prog 23 [.agg (idD i)] (· = .own 5 1 (byD (idBy i))) := by
  have hi := idB_in h
  have c1 := lay01_o 8 i.t (by omega) (by omega)
  have c2 := lay01_o 8 i.q (by omega) (by omega)
  have l1 := layN_len 8 i.t
  have l2 := layN_len 8 i.q
  have c3 := rbehind_v (layN 8 i.t ++ layN 1 i.s.toNat) (layN 8 i.q) (by simp [layN_len])
  have hb1 : (byD (layN 8 i.t)).length = 8 := by rw [byD_len, l1]
  have hL : byD (layN 8 i.t) ++ [cellsD (.lit (.int .u8 i.s))] = byD (layN 8 i.t ++ layN 1 i.s.toNat) := by rw [byD_app, one8 i.s (by omega) (by omega)]; rfl
  rw [show ((8 : Nat) : Int) = 8 from rfl] at c1 c2
  simp only [idBy]
  generalize layN 8 i.t ++ layN 1 i.s.toNat = L at *
  generalize layN 8 i.t = L1 at *
  generalize layN 8 i.q = L2 at *
  simp only [idD]
  refine vp_of Tryz.func23 rfl Tryz.ntmps23 rfl Tryz.results23 fun B => ?_
  repeat' (first | rw [hL] | refine nz1 ?_ | (refine vid ?_; first | refine cz (c1) ?_ | refine cz (c2) ?_ | refine cz (c3) ?_) | refine nzo ?_ | refine nc ?_ ?_ | (with_reducible intro _ <;> (try (exfalso; omega))) | refine nnil ?_ | (refine nd ?_ ?_ <;> intro hg <;> first | exact xo hg | rw [hg]))
  all_goals first | rfl | trace_state
theorem atR_v (o : Opp) (f : Fd) : VP Tryz.prog 67 [.agg (oD o), nmD f] (· = .ret (i64D (match f with | .x => o.x | .y => o.y | .x2 => o.x2 | _ => o.y2))) := by
  cases f
  all_goals
    simp only [oD, oDf, nmD, Fd.nm]
    refine vp_of Tryz.func67 rfl Tryz.ntmps67 rfl Tryz.results67 fun B => ?_
    repeat' (first | refine nz1 ?_ | refine nzo ?_ | refine nc ?_ ?_ | (with_reducible intro _ <;> (try (exfalso; omega))) | refine nnil ?_ | (refine nd ?_ ?_ <;> intro hg <;> first | exact xo hg | rw [hg]))
    all_goals rfl
theorem coR_v (c : Col) : VP Tryz.prog 68 [.agg (colD c)] (· = .own 5 1 (byD (c4 c))) := by
  simp only [colD]
  refine vp_of Tryz.func68 rfl Tryz.ntmps68 rfl Tryz.results68 fun B => ?_
  repeat' (first | refine nz1 ?_ | refine nzo ?_ | refine nc ?_ ?_ | (with_reducible intro _ <;> (try (exfalso; omega))) | refine nnil ?_ | (refine nd ?_ ?_ <;> intro hg <;> first | exact xo hg | rw [hg]))
  all_goals first | rfl | trace_state
end Go.Proofs.YtnjaohdadaifhaaGreat

namespace Go.Proofs.YtnjaohdadaifhaaGreat
set_option maxRecDepth 20000
open Go.RowKit
set_option maxRecDepth 10000
set_option maxHeartbeats 4000000
theorem opR_d (o : Opp) (h : opB o = true) (hk : o.k = 6) : VP Tryz.prog 27 [.agg (oD o)] (· = .ret (.sl false true (byD (opBy o)))) := by
  obtain ⟨h1, h2, h3, ⟨h4, h5, h6, h7⟩, h8, h9, ha⟩ := opB_in h
  have hz := opB_z h
  have ci := idR_v o.id h1
  have u1 := uses_v o.k .x
  have u2 := uses_v o.k .y
  have u3 := uses_v o.k .x2
  have u4 := uses_v o.k .y2
  have u5 := uses_v o.k .z
  have u6 := uses_v o.k .c
  have u7 := uses_v o.k .s
  have u8 := uses_v o.k .t
  have a1 := atR_v o .x
  have a2 := atR_v o .y
  have a3 := atR_v o .x2
  have a4 := atR_v o .y2
  have cl := lay01_o 2 o.z.toNat (by omega) (by omega)
  have cc := coR_v o.c
  simp only [atB, Bool.and_eq_true, decide_eq_true_eq] at h4 h5 h6 h7
  have e1 := one8 (o.x + 64) (by omega) (by omega)
  have e2 := one8 (o.y + 64) (by omega) (by omega)
  have e3 := one8 (o.x2 + 64) (by omega) (by omega)
  have e4 := one8 (o.y2 + 64) (by omega) (by omega)
  have e0 := one8 o.k (by omega) (by omega)
  rw [u64D, show ((o.z.toNat : Nat) : Int) = o.z by omega, show ((2 : Nat) : Int) = 2 from rfl] at cl
  refine VP.le ?_
  have hln : ([cellsD (D.lit (Value.string { data := #[88] })), cellsD (D.lit (Value.string { data := #[89] })), cellsD (D.lit (Value.string { data := #[88, 50] })), cellsD (D.lit (Value.string { data := #[89, 50] }))] : List (List D)).length = 4 := rfl
  obtain ⟨n1, n2, n3, n4, n5, n6, n7, n8⟩ := uses_d hk
  rw [n1] at u1
  rw [n2] at u2
  rw [n3] at u3
  rw [n4] at u4
  rw [n5] at u5
  rw [n6] at u6
  rw [n7] at u7
  rw [n8] at u8
  clear n1 n2 n3 n4 n5 n6 n7 n8
  rw [show byD (opBy o) = byD (layN 1 o.k.toNat) ++ byD (idBy o.id) ++ byD (at1 o.x) ++ byD (at1 o.y) ++ byD (layN 1 o.w.toNat) ++ byD (layN 1 o.h.toNat) ++ byD (pxBy o.px) by
    rw [opBy, tailBy, if_neg (by omega), if_neg (by omega), if_neg (by omega), if_pos hk]; simp only [frBy, byD_app, List.append_assoc]]
  have l1 : (byD (idBy o.id)).length = 17 := by rw [byD_len, idBy_len]
  simp only [at1]
  obtain ⟨s1, s2, s3⟩ := st_in (h9 hk)
  simp only [sideB, Bool.and_eq_true, decide_eq_true_eq] at s1 s2
  have e5 := one8 o.w (by omega) (by omega)
  have e6 := one8 o.h (by omega) (by omega)
  rw [e0, e1, e2, e5, e6]
  generalize byD (idBy o.id) = L1 at *
  simp only [oD, oDf, nmD, Fd.nm] at *
  refine vp_of Tryz.func27 rfl Tryz.ntmps27 rfl Tryz.results27 fun B => ?_
  repeat' (first | refine nz1 ?_ | (refine vid ?_; first | refine cz (ci) ?_) | refine nzo ?_ | refine nc ?_ ?_ | (with_reducible intro _ <;> (try (exfalso; omega))) | refine nnil ?_ | (refine nd ?_ ?_ <;> intro hg <;> first | exact xo hg | rw [hg]))
  refine vw_rounds 5 ?_
  repeat' (first | refine nz1 ?_ | (refine vid ?_; first | refine cz (u1) ?_ | refine cz (u2) ?_ | refine cz (u3) ?_ | refine cz (u4) ?_ | refine cz (u5) ?_ | refine cz (u6) ?_ | refine cz (u7) ?_ | refine cz (u8) ?_ | refine cz (a1) ?_ | refine cz (a2) ?_) | refine nzo ?_ | refine nc ?_ ?_ | (with_reducible intro _ <;> (try (exfalso; omega))) | refine nnil ?_ | (refine nd ?_ ?_ <;> intro hg <;> first | exact xo hg | rw [hg]))
  have hpl := colD_len o.px
  have hl64 : o.px.length ≤ 64 := by rw [s3]; exact Nat.mul_le_mul (show o.w.toNat ≤ 8 by omega) (show o.h.toNat ≤ 8 by omega)
  refine vw_each 68 o.px colD (fun (i : Nat) (_ : Unit) => ⟨[(70, I .i64 i), (69, I .i64 (o.px.map colD).length), (68, .d (cosD o.px)), (3, .row 1 0), (1, .ptr 0 0)],
      [.r true true 1 0 5 1 ([cellsD (.lit (.int .u8 o.k))] ++ L1 ++ [cellsD (.lit (.int .u8 (o.x + 64)))] ++ [cellsD (.lit (.int .u8 (o.y + 64)))] ++ [cellsD (.lit (.int .u8 o.w)), cellsD (.lit (.int .u8 o.h))] ++ byD (pxBy (o.px.take i))), .c 0 0 ((oD o).map V.d)], 2⟩) (fun i _ => True) () (by rw [List.take_zero, show byD (pxBy []) = [] from rfl, List.append_nil]; exact (sub_zr [(1, _, _)])) trivial (fun i y x hT hi hx hx' hlt hlm hlen hdr => ?_) (fun y hT hlt hlm => ?_)
  · have cx := coR_v x
    have htk : byD (pxBy (o.px.take (i + 1))) = byD (pxBy (o.px.take i)) ++ byD (c4 x) := by rw [List.take_add_one, hx]; simp [pxBy, byD]
    have hpn2 : (pxBy (o.px.take i)).length ≤ 256 := by rw [pxBy_len, List.length_take]; omega
    have hpn : (byD (pxBy (o.px.take i))).length ≤ 256 := by rw [byD_len, pxBy_len, List.length_take]; omega
    repeat' (first | refine nz1 ?_ | (refine vid ?_; first | refine cz (cx) ?_) | refine nzo ?_ | refine nc ?_ ?_ | (with_reducible intro _ <;> (try (exfalso; omega))) | refine nnil ?_ | (refine nd ?_ ?_ <;> intro hg <;> first | exact xo hg | rw [hg]))
    refine nx_each () hi trivial ?_
    rw [htk, ← List.append_assoc]
    exact (sub_zr [(1, _, _)])
  · rw [List.take_of_length_le (Nat.le_refl _)]
    simp only [oD, oDf] at *
    repeat' (first | refine nz1 ?_ | (refine vid ?_; first | refine cz (u1) ?_ | refine cz (u2) ?_ | refine cz (u3) ?_ | refine cz (u4) ?_ | refine cz (u5) ?_ | refine cz (u6) ?_ | refine cz (u7) ?_ | refine cz (u8) ?_) | refine nzo ?_ | refine nc ?_ ?_ | (with_reducible intro _ <;> (try (exfalso; omega))) | refine nnil ?_ | (refine nd ?_ ?_ <;> intro hg <;> first | exact xo hg | rw [hg]))
    simp only [List.append_assoc, List.cons_append, List.nil_append, cellsD]
    exact de_refl _
end Go.Proofs.YtnjaohdadaifhaaGreat

namespace Go.Proofs.YtnjaohdadaifhaaGreat
set_option maxRecDepth 20000
open Go.RowKit
set_option maxRecDepth 10000
set_option maxHeartbeats 4000000
theorem opR_n (o : Opp) (h : opB o = true) (hne : o.k ≠ 6) : VP Tryz.prog 27 [.agg (oD o)] (· = .ret (.sl false true (byD (opBy o)))) := by
  obtain ⟨h1, h2, h3, ⟨h4, h5, h6, h7⟩, h8, h9, ha⟩ := opB_in h
  have hz := opB_z h
  have ci := idR_v o.id h1
  have u1 := uses_v o.k .x
  have u2 := uses_v o.k .y
  have u3 := uses_v o.k .x2
  have u4 := uses_v o.k .y2
  have u5 := uses_v o.k .z
  have u6 := uses_v o.k .c
  have u7 := uses_v o.k .s
  have u8 := uses_v o.k .t
  have a1 := atR_v o .x
  have a2 := atR_v o .y
  have a3 := atR_v o .x2
  have a4 := atR_v o .y2
  have cl := lay01_o 2 o.z.toNat (by omega) (by omega)
  have cc := coR_v o.c
  simp only [atB, Bool.and_eq_true, decide_eq_true_eq] at h4 h5 h6 h7
  have e1 := one8 (o.x + 64) (by omega) (by omega)
  have e2 := one8 (o.y + 64) (by omega) (by omega)
  have e3 := one8 (o.x2 + 64) (by omega) (by omega)
  have e4 := one8 (o.y2 + 64) (by omega) (by omega)
  have e0 := one8 o.k (by omega) (by omega)
  rw [u64D, show ((o.z.toNat : Nat) : Int) = o.z by omega, show ((2 : Nat) : Int) = 2 from rfl] at cl
  refine VP.le ?_
  have hln : ([cellsD (D.lit (Value.string { data := #[88] })), cellsD (D.lit (Value.string { data := #[89] })), cellsD (D.lit (Value.string { data := #[88, 50] })), cellsD (D.lit (Value.string { data := #[89, 50] }))] : List (List D)).length = 4 := rfl
  rcases k_six o.k with hk | hk | hk | hk | hk | hk
  · obtain ⟨n1, n2, n3, n4, n5, n6, n7, n8⟩ := uses_a hk
    rw [n1] at u1
    rw [n2] at u2
    rw [n3] at u3
    rw [n4] at u4
    rw [n5] at u5
    rw [n6] at u6
    rw [n7] at u7
    rw [n8] at u8
    clear n1 n2 n3 n4 n5 n6 n7 n8
    rw [show byD (opBy o) = byD (layN 1 o.k.toNat) ++ byD (idBy o.id) ++ byD (at1 o.x) ++ byD (at1 o.y) ++ byD (at1 o.x2) ++ byD (at1 o.y2) ++ byD (szBy o) ++ byD (c4 o.c) by
      rw [opBy, tailBy, if_pos hk]; simp only [frBy, toBy, byD_app, List.append_assoc]]
    have l1 : (byD (idBy o.id)).length = 17 := by rw [byD_len, idBy_len]
    simp only [at1]
    rw [e0, e1, e2, e3, e4]
    have l2 : (byD (szBy o)).length = 2 := by rw [byD_len, szBy, layN_len]
    simp only [szBy] at l2 ⊢
    generalize byD (layN 2 o.z.toNat) = L2 at *
    generalize byD (idBy o.id) = L1 at *
    simp only [oD, oDf, nmD, Fd.nm] at *
    refine vp_of Tryz.func27 rfl Tryz.ntmps27 rfl Tryz.results27 fun B => ?_
    repeat' (first | refine nz1 ?_ | (refine vid ?_; first | refine cz (ci) ?_) | refine nzo ?_ | refine nc ?_ ?_ | (with_reducible intro _ <;> (try (exfalso; omega))) | refine nnil ?_ | (refine nd ?_ ?_ <;> intro hg <;> first | exact xo hg | rw [hg]))
    refine vw_rounds 5 ?_
    repeat' (first | refine nz1 ?_ | (refine vid ?_; first | refine cz (u1) ?_ | refine cz (u2) ?_ | refine cz (u3) ?_ | refine cz (u4) ?_ | refine cz (u5) ?_ | refine cz (u6) ?_ | refine cz (u7) ?_ | refine cz (u8) ?_ | refine cz (a1) ?_ | refine cz (a2) ?_ | refine cz (a3) ?_ | refine cz (a4) ?_ | refine cz (cl) ?_ | refine cz (cc) ?_) | refine nzo ?_ | refine nc ?_ ?_ | (with_reducible intro _ <;> (try (exfalso; omega))) | refine nnil ?_ | (refine nd ?_ ?_ <;> intro hg <;> first | exact xo hg | rw [hg]))
    all_goals exact de_refl _
  · obtain ⟨n1, n2, n3, n4, n5, n6, n7, n8⟩ := uses_b hk
    rw [n1] at u1
    rw [n2] at u2
    rw [n3] at u3
    rw [n4] at u4
    rw [n5] at u5
    rw [n6] at u6
    rw [n7] at u7
    rw [n8] at u8
    clear n1 n2 n3 n4 n5 n6 n7 n8
    rw [show byD (opBy o) = byD (layN 1 o.k.toNat) ++ byD (idBy o.id) ++ byD (at1 o.x) ++ byD (at1 o.y) ++ byD (at1 o.x2) ++ byD (at1 o.y2) ++ byD (c4 o.c) by
      rw [opBy, tailBy, if_neg (by omega), if_pos hk]; simp only [frBy, toBy, byD_app, List.append_assoc]]
    have l1 : (byD (idBy o.id)).length = 17 := by rw [byD_len, idBy_len]
    simp only [at1]
    rw [e0, e1, e2, e3, e4]
    generalize byD (idBy o.id) = L1 at *
    simp only [oD, oDf, nmD, Fd.nm] at *
    refine vp_of Tryz.func27 rfl Tryz.ntmps27 rfl Tryz.results27 fun B => ?_
    repeat' (first | refine nz1 ?_ | (refine vid ?_; first | refine cz (ci) ?_) | refine nzo ?_ | refine nc ?_ ?_ | (with_reducible intro _ <;> (try (exfalso; omega))) | refine nnil ?_ | (refine nd ?_ ?_ <;> intro hg <;> first | exact xo hg | rw [hg]))
    refine vw_rounds 5 ?_
    repeat' (first | refine nz1 ?_ | (refine vid ?_; first | refine cz (u1) ?_ | refine cz (u2) ?_ | refine cz (u3) ?_ | refine cz (u4) ?_ | refine cz (u5) ?_ | refine cz (u6) ?_ | refine cz (u7) ?_ | refine cz (u8) ?_ | refine cz (a1) ?_ | refine cz (a2) ?_ | refine cz (a3) ?_ | refine cz (a4) ?_ | refine cz (cc) ?_) | refine nzo ?_ | refine nc ?_ ?_ | (with_reducible intro _ <;> (try (exfalso; omega))) | refine nnil ?_ | (refine nd ?_ ?_ <;> intro hg <;> first | exact xo hg | rw [hg]))
    all_goals exact de_refl _
  · obtain ⟨n1, n2, n3, n4, n5, n6, n7, n8⟩ := uses_c hk
    rw [n1] at u1
    rw [n2] at u2
    rw [n3] at u3
    rw [n4] at u4
    rw [n5] at u5
    rw [n6] at u6
    rw [n7] at u7
    rw [n8] at u8
    clear n1 n2 n3 n4 n5 n6 n7 n8
    rw [show byD (opBy o) = byD (layN 1 o.k.toNat) ++ byD (idBy o.id) ++ byD (at1 o.x) ++ byD (at1 o.y) ++ byD (szBy o) ++ byD (c4 o.c) by
      rw [opBy, tailBy, if_neg (by omega), if_neg (by omega), if_pos hk]; simp only [frBy, byD_app, List.append_assoc]]
    have l1 : (byD (idBy o.id)).length = 17 := by rw [byD_len, idBy_len]
    simp only [at1]
    rw [e0, e1, e2]
    have l2 : (byD (szBy o)).length = 2 := by rw [byD_len, szBy, layN_len]
    simp only [szBy] at l2 ⊢
    generalize byD (layN 2 o.z.toNat) = L2 at *
    generalize byD (idBy o.id) = L1 at *
    simp only [oD, oDf, nmD, Fd.nm] at *
    refine vp_of Tryz.func27 rfl Tryz.ntmps27 rfl Tryz.results27 fun B => ?_
    repeat' (first | refine nz1 ?_ | (refine vid ?_; first | refine cz (ci) ?_) | refine nzo ?_ | refine nc ?_ ?_ | (with_reducible intro _ <;> (try (exfalso; omega))) | refine nnil ?_ | (refine nd ?_ ?_ <;> intro hg <;> first | exact xo hg | rw [hg]))
    refine vw_rounds 5 ?_
    repeat' (first | refine nz1 ?_ | (refine vid ?_; first | refine cz (u1) ?_ | refine cz (u2) ?_ | refine cz (u3) ?_ | refine cz (u4) ?_ | refine cz (u5) ?_ | refine cz (u6) ?_ | refine cz (u7) ?_ | refine cz (u8) ?_ | refine cz (a1) ?_ | refine cz (a2) ?_ | refine cz (cl) ?_ | refine cz (cc) ?_) | refine nzo ?_ | refine nc ?_ ?_ | (with_reducible intro _ <;> (try (exfalso; omega))) | refine nnil ?_ | (refine nd ?_ ?_ <;> intro hg <;> first | exact xo hg | rw [hg]))
    all_goals exact de_refl _
  · exact (hne hk).elim
  · obtain ⟨n1, n2, n3, n4, n5, n6, n7, n8⟩ := uses_e hk
    rw [n1] at u1
    rw [n2] at u2
    rw [n3] at u3
    rw [n4] at u4
    rw [n5] at u5
    rw [n6] at u6
    rw [n7] at u7
    rw [n8] at u8
    clear n1 n2 n3 n4 n5 n6 n7 n8
    rw [show byD (opBy o) = byD (layN 1 o.k.toNat) ++ byD (idBy o.id) ++ byD (idBy o.tg) by
      rw [opBy, tailBy, if_neg (by omega), if_neg (by omega), if_neg (by omega), if_neg (by omega)]; simp only [byD_app, List.append_assoc]]
    have l1 : (byD (idBy o.id)).length = 17 := by rw [byD_len, idBy_len]
    have ci2 := idR_v o.tg (ha (by omega)).1
    have l3 : (byD (idBy o.tg)).length = 17 := by rw [byD_len, idBy_len]
    rw [e0]
    clear cl cc a1 a2 a3 a4 e1 e2 e3 e4
    generalize byD (idBy o.tg) = L3 at *
    generalize byD (idBy o.id) = L1 at *
    simp only [oD, oDf, nmD, Fd.nm] at *
    refine vp_of Tryz.func27 rfl Tryz.ntmps27 rfl Tryz.results27 fun B => ?_
    repeat' (first | refine nz1 ?_ | (refine vid ?_; first | refine cz (ci) ?_) | refine nzo ?_ | refine nc ?_ ?_ | (with_reducible intro _ <;> (try (exfalso; omega))) | refine nnil ?_ | (refine nd ?_ ?_ <;> intro hg <;> first | exact xo hg | rw [hg]))
    refine vw_rounds 5 ?_
    repeat' (first | refine nz1 ?_ | (refine vid ?_; first | refine cz (u1) ?_ | refine cz (u2) ?_ | refine cz (u3) ?_ | refine cz (u4) ?_ | refine cz (u5) ?_ | refine cz (u6) ?_ | refine cz (u7) ?_ | refine cz (u8) ?_ | refine cz (ci2) ?_) | refine nzo ?_ | refine nc ?_ ?_ | (with_reducible intro _ <;> (try (exfalso; omega))) | refine nnil ?_ | (refine nd ?_ ?_ <;> intro hg <;> first | exact xo hg | rw [hg]))
    all_goals exact de_refl _
  · omega
theorem opR_v (o : Opp) (h : opB o = true) : VP Tryz.prog 27 [.agg (oD o)] (· = .ret (.sl false true (byD (opBy o)))) := by
  by_cases h6 : o.k = 6
  · exact opR_d o h h6
  · exact opR_n o h h6
end Go.Proofs.YtnjaohdadaifhaaGreat

namespace Go.Proofs.YtnjaohdadaifhaaGreat
set_option maxRecDepth 20000
open Go.RowKit
set_option maxRecDepth 10000
set_option maxHeartbeats 4000000
def ownO (o : Opp) : Opp := { o with px := o.px.take 66 }
def fewO (l : List Opp) : List Opp := (l.take 66).map ownO
instance dlss_opsM (l : List Opp) : DLss (l.map oM) (l.map oD) := dlss_map l _ _ (fun _ => inferInstance) (fun _ => rfl)
instance newLs_opsM (l : List Opp) : NewLs (l.map oM) := newLs_map l _
theorem own19_v (o : Opp) : VP Tryz.prog 30 [.agg (oD o)] (· = .ret (.agg (oM (ownO o)))) := by
  have hcut := cutM colD o.px 66
  have cc := cloneCo_v (o.px.take 66) (by simp; omega)
  have hpl := colD_len o.px
  rw [show ((66 : Nat) : Int) = 66 from rfl] at hcut
  refine VP.le ?_
  simp only [oD, oM, oDf, ownO]
  refine vp_of Tryz.func30 rfl Tryz.ntmps30 rfl Tryz.results30 fun B => ?_
  repeat' (first | refine nz1 ?_ | (refine vid ?_; first | (rw [hcut]; first | refine cz (cc) ?_)) | refine nzo ?_ | refine nc ?_ ?_ | (with_reducible intro _ <;> (try (exfalso; omega))) | refine nnil ?_ | (refine nd ?_ ?_ <;> intro hg <;> first | exact xo hg | rw [hg]))
  all_goals first | exact de_refl _ | trace_state
theorem few19_v (l : List Opp) : VP Tryz.prog 7 [opsD l] (· = .ret (.sl false true ((fewO l).map oM))) := by
  refine VP.le ?_
  refine vp_of Tryz.func7 rfl Tryz.ntmps7 rfl Tryz.results7 fun B => ?_
  have hlm := opsD_len l
  have hcut := cutM oD l 66
  have hml : (l.take 66).length ≤ 66 := by simp; omega
  unfold fewO
  rw [show ((66 : Nat) : Int) = 66 from rfl] at hcut
  repeat' (first | rw [hcut] | refine nz1 ?_ | refine nzo ?_ | refine nc ?_ ?_ | (with_reducible intro _ <;> (try (exfalso; omega))) | refine nnil ?_ | (refine nd ?_ ?_ <;> intro hg <;> first | exact xo hg | rw [hg]))
  clear hcut
  generalize l.take 66 = m at *
  refine vw_nilT 3 42 19 rfl ?_
  refine vw_each 10 m oD (fun (i : Nat) (_ : Unit) => ⟨[(12, I .i64 i), (11, I .i64 (m.map oD).length), (10, .d (opsD m)), (3, .row 0 0)], [.r true true 0 0 42 19 (((m.take i).map ownO).map oM)], 1⟩) (fun i _ => True) () (sub_z) trivial (fun i y x hT hi hx hx' hlt hlm hlen hdr => ?_) (fun y hT hlt hlm => ?_)
  · have htk : m.take (i + 1) = m.take i ++ [x] := by rw [List.take_add_one, hx]; rfl
    have htl : (((m.take i).map ownO).map oM).length ≤ 66 := by simp; omega
    have hml2 := opsD_len m
    have c := own19_v x
    obtain ⟨x', hX⟩ : ∃ x', ownO x = x' := ⟨_, rfl⟩
    rw [hX] at c
    simp only [oD, oM, oDf] at hx' c
    repeat' (first | refine nz1 ?_ | (refine vid ?_; first | refine cz (c) ?_) | refine nzo ?_ | refine nc ?_ ?_ | (with_reducible intro _ <;> (try (exfalso; omega))) | refine nnil ?_ | (refine nd ?_ ?_ <;> intro hg <;> first | exact xo hg | rw [hg]))
    refine nx_each () hi trivial ?_
    simp only [htk, List.map_append, List.map_cons, List.map_nil, hX]
    exact (sub_zr [(0, _, _)])
  · repeat' (first | refine nz1 ?_ | refine nzo ?_ | refine nc ?_ ?_ | (with_reducible intro _ <;> (try (exfalso; omega))) | refine nnil ?_ | (refine nd ?_ ?_ <;> intro hg <;> first | exact xo hg | rw [hg]))
    rw [List.take_of_length_le (Nat.le_refl _)]
    exact de_refl _
theorem rowR_v (l : List Opp) (h : ∀ o ∈ l, opB o = true) (hl : l.length ≤ 64) : VP Tryz.prog 28 [opsD l] (· = .ret (.sl false true (byD (opsBy l)))) := by
  have hln := opsD_len l
  have e0 := one8 (l.map oD).length (by omega) (by omega)
  refine VP.le ?_
  refine vp_of Tryz.func28 rfl Tryz.ntmps28 rfl Tryz.results28 fun B => ?_
  repeat' (first | refine nz1 ?_ | refine nzo ?_ | refine nc ?_ ?_ | (with_reducible intro _ <;> (try (exfalso; omega))) | refine nnil ?_ | (refine nd ?_ ?_ <;> intro hg <;> first | exact xo hg | rw [hg]))
  refine vw_each 10 l oD (fun (i : Nat) (_ : Unit) => ⟨[(12, I .i64 i), (11, I .i64 (l.map oD).length), (10, .d (opsD l)), (3, .row 0 0)], [.r true true 0 0 5 1 ([cellsD (.lit (.int .u8 ((l.map oD).length : Int)))] ++ byD ((l.take i).flatMap opBy))], 1⟩) (fun i _ => True) () (by rw [List.take_zero, List.flatMap_nil, show byD [] = [] from rfl, List.append_nil]; exact (sub_zr [(0, _, _)])) trivial (fun i y x hT hi hx hx' hlt hlm hlen hdr => ?_) (fun y hT hlt hlm => ?_)
  · have c := opR_v x (h x (List.mem_of_getElem? hx))
    have htk : byD ((l.take (i + 1)).flatMap opBy) = byD ((l.take i).flatMap opBy) ++ byD (opBy x) := by rw [List.take_add_one, hx]; simp [byD]
    have h1 : ((l.take i).flatMap opBy).length ≤ 64000 := by
      have := ops_len (l.take i) fun o ho => h o (List.mem_of_mem_take ho)
      have h2 : (l.take i).length ≤ i := by simp; omega
      omega
    have h2 := op_len (h x (List.mem_of_getElem? hx))
    obtain ⟨L, hL⟩ : ∃ L, (l.take i).flatMap opBy = L := ⟨_, rfl⟩
    rw [hL] at htk h1 ⊢
    simp only [oD, oDf] at hx' c
    repeat' (first | refine nz1 ?_ | (refine vid ?_; first | refine cz (c) ?_) | refine nzo ?_ | refine nc ?_ ?_ | (with_reducible intro _ <;> (try (exfalso; omega))) | refine nnil ?_ | (refine nd ?_ ?_ <;> intro hg <;> first | exact xo hg | rw [hg]))
    refine nx_each () hi trivial ?_
    rw [htk, ← List.append_assoc]
    exact (sub_zr [(0, _, _)])
  · rw [List.take_of_length_le (Nat.le_refl _)]
    repeat' (first | refine nz1 ?_ | refine nzo ?_ | refine nc ?_ ?_ | (with_reducible intro _ <;> (try (exfalso; omega))) | refine nnil ?_ | (refine nd ?_ ?_ <;> intro hg <;> first | exact xo hg | rw [hg]))
    rw [opsBy, byD_app, ← hln, ← Int.toNat_natCast (l.map oD).length, e0]
    exact de_refl _
theorem fewO_64 (l : List Opp) : (fewO l).length ≤ 66 := by simp [fewO]; omega
theorem fewO_px (l : List Opp) : ∀ o ∈ fewO l, o.px.length ≤ 1000000 := by
  intro o ho
  obtain ⟨p, _, rfl⟩ := List.mem_map.1 ho
  simp only [ownO, List.length_take]; omega
end Go.Proofs.YtnjaohdadaifhaaGreat

namespace Go.Proofs.YtnjaohdadaifhaaGreat
set_option maxRecDepth 20000
open Go.RowKit
set_option maxRecDepth 10000
set_option maxHeartbeats 4000000
theorem clone_o (b : List UInt8) (h0 : 0 < b.length) (hb : b.length ≤ 140737488355328) : VP Tryz.prog 10 [bsD b] (· = .own 5 1 (byD b)) := by
  have hl := byD_len b
  refine vp_of Tryz.func10 rfl Tryz.ntmps10 rfl Tryz.results10 fun B => ?_
  repeat' (first | refine nz1 ?_ | refine nzo ?_ | refine nc ?_ ?_ | (with_reducible intro _ <;> (try (exfalso; omega))) | refine nnil ?_ | (refine nd ?_ ?_ <;> intro hg <;> first | exact xo hg | rw [hg]))
  all_goals first | rfl | (rename_i h1 h2; have := h1 h2; omega) | trace_state
def wkI : Idd := ⟨1, 2, 3⟩
def wkU : Opp := ⟨⟨2, 1, 2⟩, 7, 0, 0, 0, 0, 0, .zero, 0, 0, [], ⟨1, 1, 1⟩⟩
def wkR : Opp := ⟨⟨2, 1, 2⟩, 3, 0, 0, 0, 0, 0, .zero, 0, 0, [], .zero⟩
theorem wkI_B : idB wkI = true := by decide
theorem wkU_B : opB wkU = true := by decide
theorem wkR_B : opB wkR = true := by decide
theorem wkI_D : idD wkI = [u64D 1, i64D 2, u64D 3] := rfl
theorem wkU_D : oD wkU = [u64D 2, i64D 1, u64D 2, i64D 7, i64D 0, i64D 0, i64D 0, i64D 0, i64D 0, .lit (.int .u8 0), .lit (.int .u8 0), .lit (.int .u8 0), .lit (.int .u8 0), i64D 0, i64D 0, .sl false false [], u64D 1, i64D 1, u64D 1] := rfl
theorem wkR_D : oD wkR = [u64D 2, i64D 1, u64D 2, i64D 3, i64D 0, i64D 0, i64D 0, i64D 0, i64D 0, .lit (.int .u8 0), .lit (.int .u8 0), .lit (.int .u8 0), .lit (.int .u8 0), i64D 0, i64D 0, .sl false false [], u64D 0, i64D 0, u64D 0] := rfl
theorem wkZ_D : oM Opp.zero = [u64D 0, i64D 0, u64D 0, i64D 0, i64D 0, i64D 0, i64D 0, i64D 0, i64D 0, .lit (.int .u8 0), .lit (.int .u8 0), .lit (.int .u8 0), .lit (.int .u8 0), i64D 0, i64D 0, .sl false true [], u64D 0, i64D 0, u64D 0] := rfl
theorem wk_ti : takeIdE (idBy wkI ++ [9]) = (wkI, 17, 0) := by rw [takeIdE, rdId_by wkI_B]; simp only; rw [if_pos wkI_B]
theorem wkU_len : (opBy wkU).length = 35 := by decide
theorem wkR_len : (opBy wkR).length = 26 := by decide
theorem wk_t9 : takeOp [9] = (.zero, 0, 290) := rfl
theorem wk_t7 : takeOp [7] = (.zero, 0, 110) := rfl
theorem wk_t65 : takeOps [65] = ([], 0, 290) := rfl
theorem wk_o0 : opsE [] = ([0], 0) := rfl
theorem wakes_v : VP Tryz.prog 6 [] (· = .ret (.lit (.bool true))) := by
  have c1 := idC_v wkI
  rw [wkI_B] at c1
  simp only [if_true] at c1
  have l1 := idBy_len wkI
  have c2 := clone_o (idBy wkI) (by omega) (by omega)
  have c3 := takeI_v (idBy wkI ++ [9]) (by simp; omega)
  rw [wk_ti] at c3
  have hL : byD (idBy wkI) ++ [[.lit (.int .u8 9)]] = byD (idBy wkI ++ [9]) := by rw [byD_app]; rfl
  have b1 := byD_len (idBy wkI)
  simp only [wkI_D] at c1 c3
  generalize idBy wkI ++ [9] = L9 at *
  generalize idBy wkI = L at *
  have c4 := opC_v wkU (by decide)
  have c5 := opC_v wkR (by decide)
  rw [wkU_B] at c4
  rw [wkR_B] at c5
  simp only [if_true, wkU_D, wkR_D] at c4 c5
  have l4 := wkU_len
  have l5 := wkR_len
  have b4 := byD_len (opBy wkU)
  have b5 := byD_len (opBy wkR)
  generalize opBy wkU = LU at *
  generalize opBy wkR = LR at *
  have c6 := takeOp_v [9] (by decide)
  have c7 := takeOp_v [7] (by decide)
  have c8 := takeOps_v [65] (by decide)
  have c9 := opsC_v [] (by simp)
  rw [wk_t9] at c6
  rw [wk_t7] at c7
  rw [wk_t65] at c8
  rw [wk_o0] at c9
  simp only [wkZ_D, List.map_nil, bsD] at c6 c7 c8 c9
  simp only [opsD, List.map_nil] at c9
  have ce := equal_v [0] [0]
  rw [decide_eq_true rfl] at ce
  have he : decide ([(1 : Int), 2, 3] = [1, 2, 3]) = true := by decide
  have y9 : byD [9] = [[.lit (.int .u8 9)]] := rfl
  have y7 : byD [7] = [[.lit (.int .u8 7)]] := rfl
  have y65 : byD [65] = [[.lit (.int .u8 65)]] := rfl
  have y0 : byD [0] = [[.lit (.int .u8 0)]] := rfl
  rw [y9] at c6
  rw [y7] at c7
  rw [y65] at c8
  simp only [y0, bsD] at c9 ce
  refine vp_of Tryz.func6 rfl Tryz.ntmps6 rfl Tryz.results6 fun B => ?_
  repeat' (first | refine vs_bsd ?_ | refine vd_bsd ?_ | rw [hL] | refine nz1 ?_ | (refine vid ?_; first | refine cz (c1) ?_ | refine cz (c2) ?_ | refine cz (c3) ?_ | refine cz (c4) ?_ | refine cz (c5) ?_ | refine cz (c6) ?_ | refine cz (c7) ?_ | refine cz (c8) ?_ | refine cz (c9) ?_ | refine cz (ce) ?_) | refine nzo ?_ | refine nc ?_ ?_ | (with_reducible intro _ <;> (try (exfalso; omega))) | refine nnil ?_ | (refine nd ?_ ?_ <;> intro hg <;> first | exact xo hg | rw [hg]))
  rfl
end Go.Proofs.YtnjaohdadaifhaaGreat

namespace Go.Proofs.YtnjaohdadaifhaaGreat
set_option maxRecDepth 20000
open Go.RowKit
def bodyC (f : Func) : Code := f.body.getD .skip
def sndC : Nat → Code → Code
  | 0, c => c
  | n + 1, .seq _ y => sndC n y
  | _, c => c
def fstC : Code → Code
  | .seq x _ => x
  | c => c
section
variable {P : Program} {cx : Cx} {s : St} {Q : VE → St → Prop}
theorem vw_join {α : Type} (I : α → St) (T : α → Prop) {c y : Code} {id : Nat} (h : VW P cx c s (blockV id (cutV cx I T Q))) (k : ∀ z, T z → VW P cx y (I z) Q) : VW P cx c s (blockV id (thenV P cx y Q)) := by
  have key : ∀ e s', cutV cx I T Q e s' → thenV P cx y Q e s' := fun e s' hq => by
    cases e with
    | normal => obtain ⟨z, h1, h2⟩ := hq; exact vw_sub h2 (k z h1)
    | exit id => exact hq
    | goto id => exact hq
    | ret => exact hq
    | panic v => exact hq
  refine h.mono fun e s' hq => ?_
  cases e with
  | exit i =>
    simp only [blockV] at hq ⊢
    split at hq
    · exact key _ _ hq
    · exact key _ _ hq
  | normal => exact key .normal _ hq
  | goto id => exact key (.goto id) _ hq
  | ret => exact key .ret _ hq
  | panic v => exact key (.panic v) _ hq
end
end Go.Proofs.YtnjaohdadaifhaaGreat

namespace Go.Proofs.YtnjaohdadaifhaaGreat
set_option maxRecDepth 20000
open Go.RowKit
theorem Below.up {a b c : World} (h : Below a.heap.size a b) (k : Below b.heap.size b c) : Below a.heap.size a c := h.trans (k.mono h.size)
theorem Below.new (w : World) (o : Obj) : Below w.heap.size w (w.alloc o) := (Below.refl _ _).alloc (Nat.le_refl _) o
theorem Blk.up {w w' : World} {b : Nat} {cs : Array Value} {t : TypeId} (h : Blk w b cs t) (hb : Below w.heap.size w w') : Blk w' b cs t := h.below hb h.lt
theorem IsSl.part {w : World} {a : Option Addr} {n n' c k : Nat} {cs cs' : List Value} (h : IsSl w (.slice a n c) n' cs) (hk : k ≤ n) (hcs : ∀ (j : Nat) (u : Value), cs'[j]? = some u → cs[j]? = some u) : IsSl w (.slice a k c) k cs' := by
  obtain ⟨a', c', e, h1, h2, h3, h4⟩ := h
  cases e
  exact ⟨a, c, rfl, by omega, h2, h3, fun j u hu => h4 j u (hcs j u hu)⟩
theorem Bytes.part {w : World} {a : Option Addr} {n c k : Nat} {l : List UInt8} (h : Bytes w (.slice a n c) l) (hk : k ≤ l.length) : Bytes w (.slice a k c) (l.take k) := by
  have h' := h
  obtain ⟨a', c', e, h1, h2, h3, h4⟩ := h'
  cases e
  have := IsSl.part (k := k) (cs' := (l.take k).map vb) h hk (fun j u hu => by
    rw [List.map_take, List.getElem?_take] at hu
    split at hu
    · exact hu
    · cases hu)
  unfold Bytes
  rw [List.length_take, Nat.min_eq_left hk]
  exact this
end Go.Proofs.YtnjaohdadaifhaaGreat

namespace Go.Proofs.YtnjaohdadaifhaaGreat
set_option maxRecDepth 20000
open Go.ChangeShapes Go.WideShapes Go.ChangeAt Go.RowKit
theorem l_own : ownKnob Tryz.prog.godebug = none := by kernel_rfl
theorem l_laidOut : laidOutB Tryz.prog = true := by kernel_rfl
theorem l_mapsRowed : mapsRowed Tryz.prog = true := by kernel_rfl
theorem l_keys : Tryz.prog.plainKeys = true := by kernel_rfl
theorem l_heard : Tryz.prog.stopsHeard = true := by kernel_rfl
theorem l_enter : Tryz.prog.mayEnter = true := by kernel_rfl
theorem l_lifted : (({ program := "", sum := "", func := "", spec := "" } : OpenClaim).lifted == Tryz.prog.liftsFinal) = true := by kernel_rfl
theorem l_make : (Tryz.prog.make == some ({ program := "", sum := "", func := "", spec := "" } : OpenClaim).make) = true := by kernel_rfl
end Go.Proofs.YtnjaohdadaifhaaGreat
