/- Walks by data and names, part 47: The program's frames, by V: FO. Layer 20, by V: the layer does something. -/
import Derived.Test.YtbgcjnfhadhjeaaGreatQk43
import Derived.Test.YtbgcjnfhadhjeaaGreatQk45
import Derived.Test.YtbgcjnfhadhjeaaGreatQk46
namespace Go.Proofs.YtbgcjnfhadhjeaaGreat
set_option maxRecDepth 20000
open Go.RowKit
set_option maxRecDepth 10000
set_option maxHeartbeats 8000000
theorem LB {f : Fr} {n : Fl} (h : CZ f n) : (Bm f n).length ≤ 20000 := by
 cases n <;> simp only [CZ] at h <;> simp only [Bm, List.length_append, AI, Hd] <;> first | omega | exact (Rq h.1 h.2).2
theorem Hr (n : Fl) (hn : n = .ep ∨ n = .sn ∨ n = .fl ∨ n = .fq ∨ n = .pr ∨ n = .tl) (f : Fr) (h : CZ f n) (b : List UInt8) (m : Nat) (hb : b.length ≤ m) (hm : m ≤ 900000) : ∃ b', b' = b ++ Bm f n ∧ b'.length ≤ m + 20000 ∧ VP Tryz.prog 171 (BD b :: .agg (Cc f) :: FU n) (· = .ret (.tup [.sl true true (AG b'), An 0])) :=
 ⟨_, rfl, by have := LB h; rw [List.length_append]; omega, Aas n hn b f (by omega) h⟩
theorem Lr (n : Fl) (hn : n = .si ∨ n = .ix ∨ n = .my) (f : Fr) (h : CZ f n) (b : List UInt8) (m : Nat) (hb : b.length ≤ m) (hm : m ≤ 900000) : ∃ b', b' = b ++ Bm f n ∧ b'.length ≤ m + 20000 ∧ VP Tryz.prog 174 (BD b :: .agg (Cc f) :: FU n) (· = .ret (.tup [.sl true true (AG b'), An 0])) :=
 ⟨_, rfl, by have := LB h; rw [List.length_append]; omega, Aat n hn b f (by omega) h⟩
theorem Vq (n : Fl) (hn : n = .v ∨ n = .w) (f : Fr) (h : CZ f n) (b : List UInt8) (m : Nat) (hb : b.length ≤ m) (hm : m ≤ 900000) : ∃ b', b' = b ++ Bm f n ∧ b'.length ≤ m + 20000 ∧ VP Tryz.prog 188 (bxD b :: .agg (Cc f) :: FU n) (· = .ret (.tup [.sl false true (AG b'), An 0])) :=
 ⟨_, rfl, by have := LB h; rw [List.length_append]; omega, Aap n hn b f (by omega) h⟩
theorem Ab6 (f : Fr) (h : CZ f .bs) (b : List UInt8) (m : Nat) (hb : b.length ≤ m) (hm : m ≤ 900000) : ∃ b', b' = b ++ Bm f .bs ∧ b'.length ≤ m + 20000 ∧ VP Tryz.prog 132 [BD b, .agg (Cc f)] (· = .ret (.tup [.sl true true (AG b'), An 0])) :=
 ⟨_, rfl, by have := LB h; rw [List.length_append]; omega, Aar b f (by omega) h⟩
theorem Ab5 (f : Fr) (h : CZ f .os) (hp : ∀ o ∈ f.os, o.px.length ≤ 1000000) (b : List UInt8) (m : Nat) (hb : b.length ≤ m) (hm : m ≤ 900000) : ∃ b', b' = b ++ Bm f .os ∧ b'.length ≤ m + 20000 ∧ VP Tryz.prog 135 [bxD b, .agg (Cc f)] (· = .ret (.tup [.sl false true (AG b'), An 0])) :=
 ⟨_, rfl, by have := LB h; rw [List.length_append]; omega, Aaq b f (by omega) hp h⟩
theorem V1 (f : Fr) (hp : ∀ o ∈ f.os, o.px.length ≤ 1000000) (h : GK f = false) : VP Tryz.prog 14 [.agg (Cc f)] (· = .ret (.tup [.sl false true (AG []), An 300])) := by
 have cc := EJ f hp
 rw [h] at cc
 simp only [Bool.false_eq_true, if_false] at cc
 refine VP.le ?_
 refine Al fun B => ?_
 repeat' (first | refine Ai ?_ | (refine As ?_; first | refine cz (cc) ?_) | refine Ah ?_ | refine nc ?_ ?_ | (with_reducible intro _ <;> (try (exfalso; omega))) | refine Aa ?_ | (refine nd ?_ ?_ <;> intro hg <;> first | exact xo hg | rw [hg]))
 all_goals first | (simp only [Cm, AG, List.map_nil]; infer_instance) | trace_state
theorem Yh (f : Fr) (hp : ∀ o ∈ f.os, o.px.length ≤ 1000000) (h : GK f = true) (hk : f.k = 1) : VP Tryz.prog 14 [.agg (Cc f)] (· = .ret (.tup [.sl false true (AG (Cu (Dv f))), An 0])) := by
 have cc := EJ f hp
 rw [h] at cc
 simp only [if_true] at cc
 have ok := MR h
 rw [hk] at ok
 have cf := JI
 have co := OV f.k
 rw [show O6 f.k = O6 1 by rw [hk]] at co
 simp only [O6, BX, Bb, Fa, Je, Fl.nm, List.map_cons, List.map_nil, Int.reduceEq, if_true, if_false] at co
 have q0 : AG [UInt8.ofNat 1] = [[.lit (.int .u8 f.k)]] := by rw [hk]; rfl
 have e0 : Dv f = (((([UInt8.ofNat 1] ++ Bm f .ep) ++ Bm f .si) ++ Bm f .sn) ++ Bm f .ix) := by
  unfold Dv
  rw [show AF 1 f.k.toNat = [UInt8.ofNat 1] by rw [hk]; rfl, hk]
  simp [J2, Bb]
 obtain ⟨b1, e1, k1, l1⟩ := Hr .ep (.inl rfl) f (ok .ep (by decide)) [UInt8.ofNat 1] 1 (by simp) (by decide)
 obtain ⟨b2, e2, k2, l2⟩ := Lr .si (.inl rfl) f (ok .si (by decide)) b1 20001 k1 (by decide)
 obtain ⟨b3, e3, k3, l3⟩ := Hr .sn (.inr (.inl rfl)) f (ok .sn (by decide)) b2 40001 k2 (by decide)
 obtain ⟨b4, e4, k4, l4⟩ := Lr .ix (.inr (.inl rfl)) f (ok .ix (by decide)) b3 60001 k3 (by decide)
 unfold BD at l1
 rw [q0] at l1
 rw [← e1] at e0
 rw [← e2] at e0
 rw [← e3] at e0
 rw [← e4] at e0
 have i_ep := Bp .ep
 have g_ep := Cb .ep
 rw [E9] at i_ep
 have i_si := Bp .si
 have g_si := Cb .si
 rw [E9] at i_si
 have i_sn := Bp .sn
 have g_sn := Cb .sn
 rw [E9] at i_sn
 have i_ix := Bp .ix
 have g_ix := Cb .ix
 rw [E9] at i_ix
 simp only [Je, Fl.nm, Fl.no, Fv, Ii, Ih, FU, N8, Int.cast_ofNat_Int] at i_ep g_ep i_si g_si i_sn g_sn i_ix g_ix l1 l2 l3 l4
 have hl : (Co.map Fv).length = 13 := rfl
 have hdl : CO (Co.map Fv) (Co.map Fv) := inferInstance
 generalize Co.map Fv = L at *
 have cs := IP b4 (by omega)
 haveI : CO L L := hdl
 refine VP.le ?_
 refine Al fun B => ?_
 repeat' (first | refine C7 ?_ | refine Ai ?_ | (refine As ?_; first | refine cz (cc) ?_ | refine Ae 51 fun _ => ?_) | refine Ah ?_ | refine nc ?_ ?_ | (with_reducible intro _ <;> (try (exfalso; omega))) | refine Aa ?_ | (refine nd ?_ ?_ <;> intro hg <;> first | exact xo hg | rw [hg]))
 refine G6 fun R T hOk => ?_
 refine CI fun M2 => ?_
 repeat' (first | refine Ai ?_ | (refine As ?_; first | refine cz (cf) ?_ | refine cz (co) ?_) | refine Ah ?_ | refine nc ?_ ?_ | (with_reducible intro _ <;> (try (exfalso; omega))) | refine Aa ?_ | (refine nd ?_ ?_ <;> intro hg <;> first | exact xo hg | rw [hg]))
 refine BP (fun i : Nat => ⟨[(12, I .i64 i), (11, I .i64 (4 : Nat)), (10, .d (.sl false true [[.lit (By [69, 112, 111, 99, 104])], [.lit (By [83, 105, 116, 101])], [.lit (By [83, 110, 97, 112])], [.lit (By [73, 110, 100, 101, 120])]])), (3, .d (.sl false true L)), (0, .yl 5), (1, .ptr 4 0)],
  [.y 5 (some R) T [(35, .yl 5), (5, .ptr 3 0), (3, .ptr 2 0), (2, .ptr 1 0), (1, .ptr 0 0)], .c 4 0 [.d (An f.k)], .c 3 0 [.d ([.sl false true [[.lit (.int .u8 f.k)]], .sl true true (AG b1), .sl true true (AG b2), .sl true true (AG b3), .sl true true (AG b4)].getD i .any)], .c 2 0 [.d (An 0)], .c 1 0 [.d (.lit (.slice none 0 0))], .c 0 0 ((Cc f).map V.d)], 6⟩) (fun i => i ≤ 4) (fun i => 4 - i) 0 (AE) (by omega) fun i hi => ?_
 rcases Nat.lt_or_ge i 4 with hlt | hge
 ·have hs : i = 0 ∨ i = 1 ∨ i = 2 ∨ i = 3 := by omega
  clear hlt hi cc cf co cs e0
  rcases hs with rfl | rfl | rfl | rfl
  ·simp only [List.getD_cons_zero]
   repeat' (first | refine Ai ?_ | (refine As ?_; first | refine AT (by assumption) fun _ _ => ?_ | refine cz (i_ep) ?_ | refine cz (l1) ?_) | refine Ah ?_ | refine nc ?_ ?_ | (with_reducible intro _ <;> (try (exfalso; omega))) | refine Aa ?_ | (refine nd ?_ ?_ <;> intro hg <;> first | exact xo hg | rw [hg]))
   exact AP 1 (by omega) (by omega) (AE)
  ·simp only [List.getD_cons_succ, List.getD_cons_zero]
   repeat' (first | refine Ai ?_ | (refine As ?_; first | refine AT (by assumption) fun _ _ => ?_ | refine cz (i_si) ?_ | refine cz (l2) ?_) | refine Ah ?_ | refine nc ?_ ?_ | (with_reducible intro _ <;> (try (exfalso; omega))) | refine Aa ?_ | (refine nd ?_ ?_ <;> intro hg <;> first | exact xo hg | rw [hg]))
   exact AP 2 (by omega) (by omega) (AE)
  ·simp only [List.getD_cons_succ, List.getD_cons_zero]
   repeat' (first | refine Ai ?_ | (refine As ?_; first | refine AT (by assumption) fun _ _ => ?_ | refine cz (i_sn) ?_ | refine cz (l3) ?_) | refine Ah ?_ | refine nc ?_ ?_ | (with_reducible intro _ <;> (try (exfalso; omega))) | refine Aa ?_ | (refine nd ?_ ?_ <;> intro hg <;> first | exact xo hg | rw [hg]))
   exact AP 3 (by omega) (by omega) (AE)
  ·simp only [List.getD_cons_succ, List.getD_cons_zero]
   repeat' (first | refine Ai ?_ | (refine As ?_; first | refine AT (by assumption) fun _ _ => ?_ | refine cz (i_ix) ?_ | refine cz (l4) ?_) | refine Ah ?_ | refine nc ?_ ?_ | (with_reducible intro _ <;> (try (exfalso; omega))) | refine Aa ?_ | (refine nd ?_ ?_ <;> intro hg <;> first | exact xo hg | rw [hg]))
   exact AP 4 (by omega) (by omega) (AE)
 ·obtain rfl : i = 4 := by omega
  rw [e0]
  simp only [List.getD_cons_succ, List.getD_cons_zero]
  repeat' (first | refine Ai ?_ | (refine As ?_; first | refine cz (cs) ?_) | refine Ah ?_ | refine nc ?_ ?_ | (with_reducible intro _ <;> (try (exfalso; omega))) | refine Aa ?_ | (refine nd ?_ ?_ <;> intro hg <;> first | exact xo hg | rw [hg]))
  all_goals first | exact A7 _ | trace_state
theorem Yg (f : Fr) (hp : ∀ o ∈ f.os, o.px.length ≤ 1000000) (h : GK f = true) (hk : f.k = 2) : VP Tryz.prog 14 [.agg (Cc f)] (· = .ret (.tup [.sl false true (AG (Cu (Dv f))), An 0])) := by
 have cc := EJ f hp
 rw [h] at cc
 simp only [if_true] at cc
 have ok := MR h
 rw [hk] at ok
 have cf := JI
 have co := OV f.k
 rw [show O6 f.k = O6 2 by rw [hk]] at co
 simp only [O6, BX, Bb, Fa, Je, Fl.nm, List.map_cons, List.map_nil, Int.reduceEq, if_true, if_false] at co
 have q0 : AG [UInt8.ofNat 2] = [[.lit (.int .u8 f.k)]] := by rw [hk]; rfl
 have e0 : Dv f = (((((([UInt8.ofNat 2] ++ Bm f .ep) ++ Bm f .si) ++ Bm f .sn) ++ Bm f .ix) ++ Bm f .my) ++ Bm f .bs) := by
  unfold Dv
  rw [show AF 1 f.k.toNat = [UInt8.ofNat 2] by rw [hk]; rfl, hk]
  simp [J2, Bb]
 obtain ⟨b1, e1, k1, l1⟩ := Hr .ep (.inl rfl) f (ok .ep (by decide)) [UInt8.ofNat 2] 1 (by simp) (by decide)
 obtain ⟨b2, e2, k2, l2⟩ := Lr .si (.inl rfl) f (ok .si (by decide)) b1 20001 k1 (by decide)
 obtain ⟨b3, e3, k3, l3⟩ := Hr .sn (.inr (.inl rfl)) f (ok .sn (by decide)) b2 40001 k2 (by decide)
 obtain ⟨b4, e4, k4, l4⟩ := Lr .ix (.inr (.inl rfl)) f (ok .ix (by decide)) b3 60001 k3 (by decide)
 obtain ⟨b5, e5, k5, l5⟩ := Lr .my (.inr (.inr (rfl))) f (ok .my (by decide)) b4 80001 k4 (by decide)
 obtain ⟨b6, e6, k6, l6⟩ := Ab6 f (ok .bs (by decide)) b5 100001 k5 (by decide)
 unfold BD at l1
 rw [q0] at l1
 rw [← e1] at e0
 rw [← e2] at e0
 rw [← e3] at e0
 rw [← e4] at e0
 rw [← e5] at e0
 rw [← e6] at e0
 have i_ep := Bp .ep
 have g_ep := Cb .ep
 rw [E9] at i_ep
 have i_si := Bp .si
 have g_si := Cb .si
 rw [E9] at i_si
 have i_sn := Bp .sn
 have g_sn := Cb .sn
 rw [E9] at i_sn
 have i_ix := Bp .ix
 have g_ix := Cb .ix
 rw [E9] at i_ix
 have i_my := Bp .my
 have g_my := Cb .my
 rw [E9] at i_my
 have i_bs := Bp .bs
 have g_bs := Cb .bs
 rw [E9] at i_bs
 simp only [Je, Fl.nm, Fl.no, Fv, Ii, Ih, FU, N8, Int.cast_ofNat_Int] at i_ep g_ep i_si g_si i_sn g_sn i_ix g_ix i_my g_my i_bs g_bs l1 l2 l3 l4 l5 l6
 have hl : (Co.map Fv).length = 13 := rfl
 have hdl : CO (Co.map Fv) (Co.map Fv) := inferInstance
 generalize Co.map Fv = L at *
 have cs := IP b6 (by omega)
 haveI : CO L L := hdl
 refine VP.le ?_
 refine Al fun B => ?_
 repeat' (first | refine C7 ?_ | refine Ai ?_ | (refine As ?_; first | refine cz (cc) ?_ | refine Ae 51 fun _ => ?_) | refine Ah ?_ | refine nc ?_ ?_ | (with_reducible intro _ <;> (try (exfalso; omega))) | refine Aa ?_ | (refine nd ?_ ?_ <;> intro hg <;> first | exact xo hg | rw [hg]))
 refine G6 fun R T hOk => ?_
 refine CI fun M2 => ?_
 repeat' (first | refine Ai ?_ | (refine As ?_; first | refine cz (cf) ?_ | refine cz (co) ?_) | refine Ah ?_ | refine nc ?_ ?_ | (with_reducible intro _ <;> (try (exfalso; omega))) | refine Aa ?_ | (refine nd ?_ ?_ <;> intro hg <;> first | exact xo hg | rw [hg]))
 refine BP (fun i : Nat => ⟨[(12, I .i64 i), (11, I .i64 (6 : Nat)), (10, .d (.sl false true [[.lit (By [69, 112, 111, 99, 104])], [.lit (By [83, 105, 116, 101])], [.lit (By [83, 110, 97, 112])], [.lit (By [73, 110, 100, 101, 120])], [.lit (By [77, 97, 110, 121])], [.lit (By [66, 121, 116, 101, 115])]])), (3, .d (.sl false true L)), (0, .yl 5), (1, .ptr 4 0)],
  [.y 5 (some R) T [(35, .yl 5), (5, .ptr 3 0), (3, .ptr 2 0), (2, .ptr 1 0), (1, .ptr 0 0)], .c 4 0 [.d (An f.k)], .c 3 0 [.d ([.sl false true [[.lit (.int .u8 f.k)]], .sl true true (AG b1), .sl true true (AG b2), .sl true true (AG b3), .sl true true (AG b4), .sl true true (AG b5), .sl true true (AG b6)].getD i .any)], .c 2 0 [.d (An 0)], .c 1 0 [.d (.lit (.slice none 0 0))], .c 0 0 ((Cc f).map V.d)], 6⟩) (fun i => i ≤ 6) (fun i => 6 - i) 0 (AE) (by omega) fun i hi => ?_
 rcases Nat.lt_or_ge i 6 with hlt | hge
 ·have hs : i = 0 ∨ i = 1 ∨ i = 2 ∨ i = 3 ∨ i = 4 ∨ i = 5 := by omega
  clear hlt hi cc cf co cs e0
  rcases hs with rfl | rfl | rfl | rfl | rfl | rfl
  ·simp only [List.getD_cons_zero]
   repeat' (first | refine Ai ?_ | (refine As ?_; first | refine AT (by assumption) fun _ _ => ?_ | refine cz (i_ep) ?_ | refine cz (l1) ?_) | refine Ah ?_ | refine nc ?_ ?_ | (with_reducible intro _ <;> (try (exfalso; omega))) | refine Aa ?_ | (refine nd ?_ ?_ <;> intro hg <;> first | exact xo hg | rw [hg]))
   exact AP 1 (by omega) (by omega) (AE)
  ·simp only [List.getD_cons_succ, List.getD_cons_zero]
   repeat' (first | refine Ai ?_ | (refine As ?_; first | refine AT (by assumption) fun _ _ => ?_ | refine cz (i_si) ?_ | refine cz (l2) ?_) | refine Ah ?_ | refine nc ?_ ?_ | (with_reducible intro _ <;> (try (exfalso; omega))) | refine Aa ?_ | (refine nd ?_ ?_ <;> intro hg <;> first | exact xo hg | rw [hg]))
   exact AP 2 (by omega) (by omega) (AE)
  ·simp only [List.getD_cons_succ, List.getD_cons_zero]
   repeat' (first | refine Ai ?_ | (refine As ?_; first | refine AT (by assumption) fun _ _ => ?_ | refine cz (i_sn) ?_ | refine cz (l3) ?_) | refine Ah ?_ | refine nc ?_ ?_ | (with_reducible intro _ <;> (try (exfalso; omega))) | refine Aa ?_ | (refine nd ?_ ?_ <;> intro hg <;> first | exact xo hg | rw [hg]))
   exact AP 3 (by omega) (by omega) (AE)
  ·simp only [List.getD_cons_succ, List.getD_cons_zero]
   repeat' (first | refine Ai ?_ | (refine As ?_; first | refine AT (by assumption) fun _ _ => ?_ | refine cz (i_ix) ?_ | refine cz (l4) ?_) | refine Ah ?_ | refine nc ?_ ?_ | (with_reducible intro _ <;> (try (exfalso; omega))) | refine Aa ?_ | (refine nd ?_ ?_ <;> intro hg <;> first | exact xo hg | rw [hg]))
   exact AP 4 (by omega) (by omega) (AE)
  ·simp only [List.getD_cons_succ, List.getD_cons_zero]
   repeat' (first | refine Ai ?_ | (refine As ?_; first | refine AT (by assumption) fun _ _ => ?_ | refine cz (i_my) ?_ | refine cz (l5) ?_) | refine Ah ?_ | refine nc ?_ ?_ | (with_reducible intro _ <;> (try (exfalso; omega))) | refine Aa ?_ | (refine nd ?_ ?_ <;> intro hg <;> first | exact xo hg | rw [hg]))
   exact AP 5 (by omega) (by omega) (AE)
  ·simp only [List.getD_cons_succ, List.getD_cons_zero]
   repeat' (first | refine Ai ?_ | (refine As ?_; first | refine AT (by assumption) fun _ _ => ?_ | refine cz (i_bs) ?_ | refine cz (l6) ?_) | refine Ah ?_ | refine nc ?_ ?_ | (with_reducible intro _ <;> (try (exfalso; omega))) | refine Aa ?_ | (refine nd ?_ ?_ <;> intro hg <;> first | exact xo hg | rw [hg]))
   exact AP 6 (by omega) (by omega) (AE)
 ·obtain rfl : i = 6 := by omega
  rw [e0]
  simp only [List.getD_cons_succ, List.getD_cons_zero]
  repeat' (first | refine Ai ?_ | (refine As ?_; first | refine cz (cs) ?_) | refine Ah ?_ | refine nc ?_ ?_ | (with_reducible intro _ <;> (try (exfalso; omega))) | refine Aa ?_ | (refine nd ?_ ?_ <;> intro hg <;> first | exact xo hg | rw [hg]))
  all_goals first | exact A7 _ | trace_state
theorem Yf (f : Fr) (hp : ∀ o ∈ f.os, o.px.length ≤ 1000000) (h : GK f = true) (hk : f.k = 3) : VP Tryz.prog 14 [.agg (Cc f)] (· = .ret (.tup [.sl false true (AG (Cu (Dv f))), An 0])) := by
 have cc := EJ f hp
 rw [h] at cc
 simp only [if_true] at cc
 have ok := MR h
 rw [hk] at ok
 have cf := JI
 have co := OV f.k
 rw [show O6 f.k = O6 3 by rw [hk]] at co
 simp only [O6, BX, Bb, Fa, Je, Fl.nm, List.map_cons, List.map_nil, Int.reduceEq, if_true, if_false] at co
 have q0 : AG [UInt8.ofNat 3] = [[.lit (.int .u8 f.k)]] := by rw [hk]; rfl
 have e0 : Dv f = ((([UInt8.ofNat 3] ++ Bm f .ep) ++ Bm f .si) ++ Bm f .os) := by
  unfold Dv
  rw [show AF 1 f.k.toNat = [UInt8.ofNat 3] by rw [hk]; rfl, hk]
  simp [J2, Bb]
 obtain ⟨b1, e1, k1, l1⟩ := Hr .ep (.inl rfl) f (ok .ep (by decide)) [UInt8.ofNat 3] 1 (by simp) (by decide)
 obtain ⟨b2, e2, k2, l2⟩ := Lr .si (.inl rfl) f (ok .si (by decide)) b1 20001 k1 (by decide)
 obtain ⟨b3, e3, k3, l3⟩ := Ab5 f (ok .os (by decide)) hp b2 40001 k2 (by decide)
 unfold BD at l1
 rw [q0] at l1
 rw [← e1] at e0
 rw [← e2] at e0
 rw [← e3] at e0
 have i_ep := Bp .ep
 have g_ep := Cb .ep
 rw [E9] at i_ep
 have i_si := Bp .si
 have g_si := Cb .si
 rw [E9] at i_si
 have i_os := Bp .os
 have g_os := Cb .os
 rw [E9] at i_os
 simp only [Je, Fl.nm, Fl.no, Fv, Ii, Ih, FU, N8, Int.cast_ofNat_Int] at i_ep g_ep i_si g_si i_os g_os l1 l2 l3
 have hl : (Co.map Fv).length = 13 := rfl
 have hdl : CO (Co.map Fv) (Co.map Fv) := inferInstance
 generalize Co.map Fv = L at *
 have cs := IP b3 (by omega)
 haveI : CO L L := hdl
 refine VP.le ?_
 refine Al fun B => ?_
 repeat' (first | refine C7 ?_ | refine Ai ?_ | (refine As ?_; first | refine cz (cc) ?_ | refine Ae 51 fun _ => ?_) | refine Ah ?_ | refine nc ?_ ?_ | (with_reducible intro _ <;> (try (exfalso; omega))) | refine Aa ?_ | (refine nd ?_ ?_ <;> intro hg <;> first | exact xo hg | rw [hg]))
 refine G6 fun R T hOk => ?_
 refine CI fun M2 => ?_
 repeat' (first | refine Ai ?_ | (refine As ?_; first | refine cz (cf) ?_ | refine cz (co) ?_) | refine Ah ?_ | refine nc ?_ ?_ | (with_reducible intro _ <;> (try (exfalso; omega))) | refine Aa ?_ | (refine nd ?_ ?_ <;> intro hg <;> first | exact xo hg | rw [hg]))
 refine BP (fun i : Nat => ⟨[(12, I .i64 i), (11, I .i64 (3 : Nat)), (10, .d (.sl false true [[.lit (By [69, 112, 111, 99, 104])], [.lit (By [83, 105, 116, 101])], [.lit (By [79, 112, 115])]])), (3, .d (.sl false true L)), (0, .yl 5), (1, .ptr 4 0)],
  [.y 5 (some R) T [(35, .yl 5), (5, .ptr 3 0), (3, .ptr 2 0), (2, .ptr 1 0), (1, .ptr 0 0)], .c 4 0 [.d (An f.k)], .c 3 0 [.d ([.sl false true [[.lit (.int .u8 f.k)]], .sl true true (AG b1), .sl true true (AG b2), .sl false true (AG b3)].getD i .any)], .c 2 0 [.d (An 0)], .c 1 0 [.d (.lit (.slice none 0 0))], .c 0 0 ((Cc f).map V.d)], 6⟩) (fun i => i ≤ 3) (fun i => 3 - i) 0 (AE) (by omega) fun i hi => ?_
 rcases Nat.lt_or_ge i 3 with hlt | hge
 ·have hs : i = 0 ∨ i = 1 ∨ i = 2 := by omega
  clear hlt hi cc cf co cs e0
  rcases hs with rfl | rfl | rfl
  ·simp only [List.getD_cons_zero]
   repeat' (first | refine Ai ?_ | (refine As ?_; first | refine AT (by assumption) fun _ _ => ?_ | refine cz (i_ep) ?_ | refine cz (l1) ?_) | refine Ah ?_ | refine nc ?_ ?_ | (with_reducible intro _ <;> (try (exfalso; omega))) | refine Aa ?_ | (refine nd ?_ ?_ <;> intro hg <;> first | exact xo hg | rw [hg]))
   exact AP 1 (by omega) (by omega) (AE)
  ·simp only [List.getD_cons_succ, List.getD_cons_zero]
   repeat' (first | refine Ai ?_ | (refine As ?_; first | refine AT (by assumption) fun _ _ => ?_ | refine cz (i_si) ?_ | refine cz (l2) ?_) | refine Ah ?_ | refine nc ?_ ?_ | (with_reducible intro _ <;> (try (exfalso; omega))) | refine Aa ?_ | (refine nd ?_ ?_ <;> intro hg <;> first | exact xo hg | rw [hg]))
   exact AP 2 (by omega) (by omega) (AE)
  ·simp only [List.getD_cons_succ, List.getD_cons_zero]
   repeat' (first | refine Ai ?_ | (refine As ?_; first | refine AT (by assumption) fun _ _ => ?_ | refine cz (i_os) ?_ | refine cz (l3) ?_) | refine Ah ?_ | refine nc ?_ ?_ | (with_reducible intro _ <;> (try (exfalso; omega))) | refine Aa ?_ | (refine nd ?_ ?_ <;> intro hg <;> first | exact xo hg | rw [hg]))
   exact AP 3 (by omega) (by omega) (AE)
 ·obtain rfl : i = 3 := by omega
  rw [e0]
  simp only [List.getD_cons_succ, List.getD_cons_zero]
  repeat' (first | refine Ai ?_ | (refine As ?_; first | refine cz (cs) ?_) | refine Ah ?_ | refine nc ?_ ?_ | (with_reducible intro _ <;> (try (exfalso; omega))) | refine Aa ?_ | (refine nd ?_ ?_ <;> intro hg <;> first | exact xo hg | rw [hg]))
  all_goals first | exact A7 _ | trace_state
theorem Ye (f : Fr) (hp : ∀ o ∈ f.os, o.px.length ≤ 1000000) (h : GK f = true) (hk : f.k = 4) : VP Tryz.prog 14 [.agg (Cc f)] (· = .ret (.tup [.sl false true (AG (Cu (Dv f))), An 0])) := by
 have cc := EJ f hp
 rw [h] at cc
 simp only [if_true] at cc
 have ok := MR h
 rw [hk] at ok
 have cf := JI
 have co := OV f.k
 rw [show O6 f.k = O6 4 by rw [hk]] at co
 simp only [O6, BX, Bb, Fa, Je, Fl.nm, List.map_cons, List.map_nil, Int.reduceEq, if_true, if_false] at co
 have q0 : AG [UInt8.ofNat 4] = [[.lit (.int .u8 f.k)]] := by rw [hk]; rfl
 have e0 : Dv f = ((((([UInt8.ofNat 4] ++ Bm f .ep) ++ Bm f .si) ++ Bm f .v) ++ Bm f .fl) ++ Bm f .fq) := by
  unfold Dv
  rw [show AF 1 f.k.toNat = [UInt8.ofNat 4] by rw [hk]; rfl, hk]
  simp [J2, Bb]
 obtain ⟨b1, e1, k1, l1⟩ := Hr .ep (.inl rfl) f (ok .ep (by decide)) [UInt8.ofNat 4] 1 (by simp) (by decide)
 obtain ⟨b2, e2, k2, l2⟩ := Lr .si (.inl rfl) f (ok .si (by decide)) b1 20001 k1 (by decide)
 obtain ⟨b3, e3, k3, l3⟩ := Vq .v (.inl rfl) f (ok .v (by decide)) b2 40001 k2 (by decide)
 obtain ⟨b4, e4, k4, l4⟩ := Hr .fl (.inr (.inr (.inl rfl))) f (ok .fl (by decide)) b3 60001 k3 (by decide)
 obtain ⟨b5, e5, k5, l5⟩ := Hr .fq (.inr (.inr (.inr (.inl rfl)))) f (ok .fq (by decide)) b4 80001 k4 (by decide)
 unfold BD at l1
 rw [q0] at l1
 rw [← e1] at e0
 rw [← e2] at e0
 rw [← e3] at e0
 rw [← e4] at e0
 rw [← e5] at e0
 have i_ep := Bp .ep
 have g_ep := Cb .ep
 rw [E9] at i_ep
 have i_si := Bp .si
 have g_si := Cb .si
 rw [E9] at i_si
 have i_v := Bp .v
 have g_v := Cb .v
 rw [E9] at i_v
 have i_fl := Bp .fl
 have g_fl := Cb .fl
 rw [E9] at i_fl
 have i_fq := Bp .fq
 have g_fq := Cb .fq
 rw [E9] at i_fq
 simp only [Je, Fl.nm, Fl.no, Fv, Ii, Ih, FU, N8, Int.cast_ofNat_Int] at i_ep g_ep i_si g_si i_v g_v i_fl g_fl i_fq g_fq l1 l2 l3 l4 l5
 have hl : (Co.map Fv).length = 13 := rfl
 have hdl : CO (Co.map Fv) (Co.map Fv) := inferInstance
 generalize Co.map Fv = L at *
 have cs := IP b5 (by omega)
 haveI : CO L L := hdl
 refine VP.le ?_
 refine Al fun B => ?_
 repeat' (first | refine C7 ?_ | refine Ai ?_ | (refine As ?_; first | refine cz (cc) ?_ | refine Ae 51 fun _ => ?_) | refine Ah ?_ | refine nc ?_ ?_ | (with_reducible intro _ <;> (try (exfalso; omega))) | refine Aa ?_ | (refine nd ?_ ?_ <;> intro hg <;> first | exact xo hg | rw [hg]))
 refine G6 fun R T hOk => ?_
 refine CI fun M2 => ?_
 repeat' (first | refine Ai ?_ | (refine As ?_; first | refine cz (cf) ?_ | refine cz (co) ?_) | refine Ah ?_ | refine nc ?_ ?_ | (with_reducible intro _ <;> (try (exfalso; omega))) | refine Aa ?_ | (refine nd ?_ ?_ <;> intro hg <;> first | exact xo hg | rw [hg]))
 refine BP (fun i : Nat => ⟨[(12, I .i64 i), (11, I .i64 (5 : Nat)), (10, .d (.sl false true [[.lit (By [69, 112, 111, 99, 104])], [.lit (By [83, 105, 116, 101])], [.lit (By [86, 101, 99, 116, 111, 114])], [.lit (By [70, 108, 111, 111, 114])], [.lit (By [70, 108, 111, 111, 114, 83, 101, 113])]])), (3, .d (.sl false true L)), (0, .yl 5), (1, .ptr 4 0)],
  [.y 5 (some R) T [(35, .yl 5), (5, .ptr 3 0), (3, .ptr 2 0), (2, .ptr 1 0), (1, .ptr 0 0)], .c 4 0 [.d (An f.k)], .c 3 0 [.d ([.sl false true [[.lit (.int .u8 f.k)]], .sl true true (AG b1), .sl true true (AG b2), .sl false true (AG b3), .sl true true (AG b4), .sl true true (AG b5)].getD i .any)], .c 2 0 [.d (An 0)], .c 1 0 [.d (.lit (.slice none 0 0))], .c 0 0 ((Cc f).map V.d)], 6⟩) (fun i => i ≤ 5) (fun i => 5 - i) 0 (AE) (by omega) fun i hi => ?_
 rcases Nat.lt_or_ge i 5 with hlt | hge
 ·have hs : i = 0 ∨ i = 1 ∨ i = 2 ∨ i = 3 ∨ i = 4 := by omega
  clear hlt hi cc cf co cs e0
  rcases hs with rfl | rfl | rfl | rfl | rfl
  ·simp only [List.getD_cons_zero]
   repeat' (first | refine Ai ?_ | (refine As ?_; first | refine AT (by assumption) fun _ _ => ?_ | refine cz (i_ep) ?_ | refine cz (l1) ?_) | refine Ah ?_ | refine nc ?_ ?_ | (with_reducible intro _ <;> (try (exfalso; omega))) | refine Aa ?_ | (refine nd ?_ ?_ <;> intro hg <;> first | exact xo hg | rw [hg]))
   exact AP 1 (by omega) (by omega) (AE)
  ·simp only [List.getD_cons_succ, List.getD_cons_zero]
   repeat' (first | refine Ai ?_ | (refine As ?_; first | refine AT (by assumption) fun _ _ => ?_ | refine cz (i_si) ?_ | refine cz (l2) ?_) | refine Ah ?_ | refine nc ?_ ?_ | (with_reducible intro _ <;> (try (exfalso; omega))) | refine Aa ?_ | (refine nd ?_ ?_ <;> intro hg <;> first | exact xo hg | rw [hg]))
   exact AP 2 (by omega) (by omega) (AE)
  ·simp only [List.getD_cons_succ, List.getD_cons_zero]
   repeat' (first | refine Ai ?_ | (refine As ?_; first | refine AT (by assumption) fun _ _ => ?_ | refine cz (i_v) ?_ | refine cz (l3) ?_) | refine Ah ?_ | refine nc ?_ ?_ | (with_reducible intro _ <;> (try (exfalso; omega))) | refine Aa ?_ | (refine nd ?_ ?_ <;> intro hg <;> first | exact xo hg | rw [hg]))
   exact AP 3 (by omega) (by omega) (AE)
  ·simp only [List.getD_cons_succ, List.getD_cons_zero]
   repeat' (first | refine Ai ?_ | (refine As ?_; first | refine AT (by assumption) fun _ _ => ?_ | refine cz (i_fl) ?_ | refine cz (l4) ?_) | refine Ah ?_ | refine nc ?_ ?_ | (with_reducible intro _ <;> (try (exfalso; omega))) | refine Aa ?_ | (refine nd ?_ ?_ <;> intro hg <;> first | exact xo hg | rw [hg]))
   exact AP 4 (by omega) (by omega) (AE)
  ·simp only [List.getD_cons_succ, List.getD_cons_zero]
   repeat' (first | refine Ai ?_ | (refine As ?_; first | refine AT (by assumption) fun _ _ => ?_ | refine cz (i_fq) ?_ | refine cz (l5) ?_) | refine Ah ?_ | refine nc ?_ ?_ | (with_reducible intro _ <;> (try (exfalso; omega))) | refine Aa ?_ | (refine nd ?_ ?_ <;> intro hg <;> first | exact xo hg | rw [hg]))
   exact AP 5 (by omega) (by omega) (AE)
 ·obtain rfl : i = 5 := by omega
  rw [e0]
  simp only [List.getD_cons_succ, List.getD_cons_zero]
  repeat' (first | refine Ai ?_ | (refine As ?_; first | refine cz (cs) ?_) | refine Ah ?_ | refine nc ?_ ?_ | (with_reducible intro _ <;> (try (exfalso; omega))) | refine Aa ?_ | (refine nd ?_ ?_ <;> intro hg <;> first | exact xo hg | rw [hg]))
  all_goals first | exact A7 _ | trace_state
theorem Yd (f : Fr) (hp : ∀ o ∈ f.os, o.px.length ≤ 1000000) (h : GK f = true) (hk : f.k = 5) : VP Tryz.prog 14 [.agg (Cc f)] (· = .ret (.tup [.sl false true (AG (Cu (Dv f))), An 0])) := by
 have cc := EJ f hp
 rw [h] at cc
 simp only [if_true] at cc
 have ok := MR h
 rw [hk] at ok
 have cf := JI
 have co := OV f.k
 rw [show O6 f.k = O6 5 by rw [hk]] at co
 simp only [O6, BX, Bb, Fa, Je, Fl.nm, List.map_cons, List.map_nil, Int.reduceEq, if_true, if_false] at co
 have q0 : AG [UInt8.ofNat 5] = [[.lit (.int .u8 f.k)]] := by rw [hk]; rfl
 have e0 : Dv f = ((((([UInt8.ofNat 5] ++ Bm f .ep) ++ Bm f .v) ++ Bm f .pr) ++ Bm f .tl) ++ Bm f .w) := by
  unfold Dv
  rw [show AF 1 f.k.toNat = [UInt8.ofNat 5] by rw [hk]; rfl, hk]
  simp [J2, Bb]
 obtain ⟨b1, e1, k1, l1⟩ := Hr .ep (.inl rfl) f (ok .ep (by decide)) [UInt8.ofNat 5] 1 (by simp) (by decide)
 obtain ⟨b2, e2, k2, l2⟩ := Vq .v (.inl rfl) f (ok .v (by decide)) b1 20001 k1 (by decide)
 obtain ⟨b3, e3, k3, l3⟩ := Hr .pr (.inr (.inr (.inr (.inr (.inl rfl))))) f (ok .pr (by decide)) b2 40001 k2 (by decide)
 obtain ⟨b4, e4, k4, l4⟩ := Hr .tl (.inr (.inr (.inr (.inr (.inr (rfl)))))) f (ok .tl (by decide)) b3 60001 k3 (by decide)
 obtain ⟨b5, e5, k5, l5⟩ := Vq .w (.inr (rfl)) f (ok .w (by decide)) b4 80001 k4 (by decide)
 unfold BD at l1
 rw [q0] at l1
 rw [← e1] at e0
 rw [← e2] at e0
 rw [← e3] at e0
 rw [← e4] at e0
 rw [← e5] at e0
 have i_ep := Bp .ep
 have g_ep := Cb .ep
 rw [E9] at i_ep
 have i_v := Bp .v
 have g_v := Cb .v
 rw [E9] at i_v
 have i_pr := Bp .pr
 have g_pr := Cb .pr
 rw [E9] at i_pr
 have i_tl := Bp .tl
 have g_tl := Cb .tl
 rw [E9] at i_tl
 have i_w := Bp .w
 have g_w := Cb .w
 rw [E9] at i_w
 simp only [Je, Fl.nm, Fl.no, Fv, Ii, Ih, FU, N8, Int.cast_ofNat_Int] at i_ep g_ep i_v g_v i_pr g_pr i_tl g_tl i_w g_w l1 l2 l3 l4 l5
 have hl : (Co.map Fv).length = 13 := rfl
 have hdl : CO (Co.map Fv) (Co.map Fv) := inferInstance
 generalize Co.map Fv = L at *
 have cs := IP b5 (by omega)
 haveI : CO L L := hdl
 refine VP.le ?_
 refine Al fun B => ?_
 repeat' (first | refine C7 ?_ | refine Ai ?_ | (refine As ?_; first | refine cz (cc) ?_ | refine Ae 51 fun _ => ?_) | refine Ah ?_ | refine nc ?_ ?_ | (with_reducible intro _ <;> (try (exfalso; omega))) | refine Aa ?_ | (refine nd ?_ ?_ <;> intro hg <;> first | exact xo hg | rw [hg]))
 refine G6 fun R T hOk => ?_
 refine CI fun M2 => ?_
 repeat' (first | refine Ai ?_ | (refine As ?_; first | refine cz (cf) ?_ | refine cz (co) ?_) | refine Ah ?_ | refine nc ?_ ?_ | (with_reducible intro _ <;> (try (exfalso; omega))) | refine Aa ?_ | (refine nd ?_ ?_ <;> intro hg <;> first | exact xo hg | rw [hg]))
 refine BP (fun i : Nat => ⟨[(12, I .i64 i), (11, I .i64 (5 : Nat)), (10, .d (.sl false true [[.lit (By [69, 112, 111, 99, 104])], [.lit (By [86, 101, 99, 116, 111, 114])], [.lit (By [80, 114, 111, 112, 111, 115, 101, 100])], [.lit (By [84, 111, 108, 100])], [.lit (By [66, 121])]])), (3, .d (.sl false true L)), (0, .yl 5), (1, .ptr 4 0)],
  [.y 5 (some R) T [(35, .yl 5), (5, .ptr 3 0), (3, .ptr 2 0), (2, .ptr 1 0), (1, .ptr 0 0)], .c 4 0 [.d (An f.k)], .c 3 0 [.d ([.sl false true [[.lit (.int .u8 f.k)]], .sl true true (AG b1), .sl false true (AG b2), .sl true true (AG b3), .sl true true (AG b4), .sl false true (AG b5)].getD i .any)], .c 2 0 [.d (An 0)], .c 1 0 [.d (.lit (.slice none 0 0))], .c 0 0 ((Cc f).map V.d)], 6⟩) (fun i => i ≤ 5) (fun i => 5 - i) 0 (AE) (by omega) fun i hi => ?_
 rcases Nat.lt_or_ge i 5 with hlt | hge
 ·have hs : i = 0 ∨ i = 1 ∨ i = 2 ∨ i = 3 ∨ i = 4 := by omega
  clear hlt hi cc cf co cs e0
  rcases hs with rfl | rfl | rfl | rfl | rfl
  ·simp only [List.getD_cons_zero]
   repeat' (first | refine Ai ?_ | (refine As ?_; first | refine AT (by assumption) fun _ _ => ?_ | refine cz (i_ep) ?_ | refine cz (l1) ?_) | refine Ah ?_ | refine nc ?_ ?_ | (with_reducible intro _ <;> (try (exfalso; omega))) | refine Aa ?_ | (refine nd ?_ ?_ <;> intro hg <;> first | exact xo hg | rw [hg]))
   exact AP 1 (by omega) (by omega) (AE)
  ·simp only [List.getD_cons_succ, List.getD_cons_zero]
   repeat' (first | refine Ai ?_ | (refine As ?_; first | refine AT (by assumption) fun _ _ => ?_ | refine cz (i_v) ?_ | refine cz (l2) ?_) | refine Ah ?_ | refine nc ?_ ?_ | (with_reducible intro _ <;> (try (exfalso; omega))) | refine Aa ?_ | (refine nd ?_ ?_ <;> intro hg <;> first | exact xo hg | rw [hg]))
   exact AP 2 (by omega) (by omega) (AE)
  ·simp only [List.getD_cons_succ, List.getD_cons_zero]
   repeat' (first | refine Ai ?_ | (refine As ?_; first | refine AT (by assumption) fun _ _ => ?_ | refine cz (i_pr) ?_ | refine cz (l3) ?_) | refine Ah ?_ | refine nc ?_ ?_ | (with_reducible intro _ <;> (try (exfalso; omega))) | refine Aa ?_ | (refine nd ?_ ?_ <;> intro hg <;> first | exact xo hg | rw [hg]))
   exact AP 3 (by omega) (by omega) (AE)
  ·simp only [List.getD_cons_succ, List.getD_cons_zero]
   repeat' (first | refine Ai ?_ | (refine As ?_; first | refine AT (by assumption) fun _ _ => ?_ | refine cz (i_tl) ?_ | refine cz (l4) ?_) | refine Ah ?_ | refine nc ?_ ?_ | (with_reducible intro _ <;> (try (exfalso; omega))) | refine Aa ?_ | (refine nd ?_ ?_ <;> intro hg <;> first | exact xo hg | rw [hg]))
   exact AP 4 (by omega) (by omega) (AE)
  ·simp only [List.getD_cons_succ, List.getD_cons_zero]
   repeat' (first | refine Ai ?_ | (refine As ?_; first | refine AT (by assumption) fun _ _ => ?_ | refine cz (i_w) ?_ | refine cz (l5) ?_) | refine Ah ?_ | refine nc ?_ ?_ | (with_reducible intro _ <;> (try (exfalso; omega))) | refine Aa ?_ | (refine nd ?_ ?_ <;> intro hg <;> first | exact xo hg | rw [hg]))
   exact AP 5 (by omega) (by omega) (AE)
 ·obtain rfl : i = 5 := by omega
  rw [e0]
  simp only [List.getD_cons_succ, List.getD_cons_zero]
  repeat' (first | refine Ai ?_ | (refine As ?_; first | refine cz (cs) ?_) | refine Ah ?_ | refine nc ?_ ?_ | (with_reducible intro _ <;> (try (exfalso; omega))) | refine Aa ?_ | (refine nd ?_ ?_ <;> intro hg <;> first | exact xo hg | rw [hg]))
  all_goals first | exact A7 _ | trace_state
theorem RO (f : Fr) (hp : ∀ o ∈ f.os, o.px.length ≤ 1000000) : VP Tryz.prog 14 [.agg (Cc f)] (· = .ret (.tup [.sl false true (AG (ID f).1), An (ID f).2])) := by
 unfold ID
 cases h : GK f with
 | false => simp only [Bool.false_eq_true, if_false]; exact V1 f hp h
 | true =>
  simp only [if_true]
  obtain ⟨h1, h2⟩ := (NP h).1.2.1
  rcases Qj h1 h2 with k | k | k | k | k
  ·exact Yh f hp h k
  ·exact Yg f hp h k
  ·exact Yf f hp h k
  ·exact Ye f hp h k
  ·exact Yd f hp h k

set_option maxRecDepth 20000
set_option maxRecDepth 10000
def wS : Fr := { Fr.zero with k := 5, ep := 1 }
def wC : Fr := { Fr.zero with k := 2, si := 1, ix := 4, my := 4, bs := [1] }
theorem Ac0 : ID CU = (Cu (Dv CU), 0) := by unfold ID; rw [if_pos (by decide +kernel)]
theorem AcZ : ID wS = (Cu (Dv wS), 0) := by unfold ID; rw [if_pos (by decide +kernel)]
theorem Aa7 : BG (Cu (Dv CU)) = (CU, 0) := K7 (by decide +kernel)
theorem Aa6 : BG (Cu (Dv wS)) = (wS, 0) := K7 (by decide +kernel)
theorem Aa9 : (Cu (Dv CU)).length = 23 := by decide +kernel
theorem Aa8 : (Cu (Dv wS)).length = 157 := by decide +kernel
theorem AcY : BG ((Cu (Dv CU)).take 22) = (.zero, 120) := by
 unfold BG; rw [show C3 ((Cu (Dv CU)).take 22) = none by decide +kernel]
theorem Ac1 : BG [0, 0, 0, 0] = (.zero, 300) := by
 unfold BG; rw [show C3 [0, 0, 0, 0] = some [] by decide +kernel]
 simp only [show G0 [] = none by decide +kernel]
theorem AcX : BG [] = (.zero, 120) := by
 unfold BG; rw [show C3 [] = none by decide +kernel]
theorem AcW : Oj 4 = [69, 112, 111, 99, 104, 44, 32, 83, 105, 116, 101, 44, 32, 86, 101, 99, 116, 111, 114, 44, 32, 70, 108, 111, 111, 114, 44, 32, 70, 108, 111, 111, 114, 83, 101, 113] := by decide +kernel
theorem Ef : AG [] = [] := rfl
theorem RU : VP Tryz.prog 8 [] (· = .ret (.lit (.bool true))) := by
 have c1 := Vx
 have c2 := RO CU (by decide)
 have c3 := RO wS (by decide)
 simp only [Ac0] at c2
 simp only [AcZ] at c3
 have rJ := Aa7
 have rS := Aa6
 have lJ := Aa9
 have lS := Aa8
 have rC := AcY
 have ok : D9 [Cu (Dv CU), Cu (Dv wS), []] = [CU, wS] := by
  simp only [D9, List.flatMap_cons, List.flatMap_nil, rJ, rS, AcX]; rfl
 generalize Cu (Dv CU) = bJ at *
 generalize Cu (Dv wS) = bS at *
 simp only [Cc, Dn, Do, wS, Fr.zero, Vc.zero, List.map_nil, Int.cast_ofNat_Int] at c3
 have c4 := K6 bJ (by omega)
 simp only [rJ] at c4
 have c5 := K6 (bJ.take 22) (by simp; omega)
 simp only [rC] at c5
 have c6 := K6 [0, 0, 0, 0] (by decide)
 simp only [Ac1] at c6
 have hrep : List.replicate (Int.toNat 4) (List.map D.lit [Value.int IntKind.u8 0]) = AG [0, 0, 0, 0] := rfl
 have c7 := OJ [bJ, bS, []] (by simp) (by intro b hb; simp only [List.mem_cons, List.not_mem_nil, or_false] at hb; rcases hb with rfl | rfl | rfl <;> first | omega | decide)
 rw [ok] at c7
 have hLL : ([CU, wS].map Mn).length = 2 := rfl
 simp only [List.length_cons, List.length_nil, List.map_cons, List.map_nil, F5] at c7
 rw [show ((0 + 1 + 1 + 1 : Nat) : Int) - ((0 + 1 + 1 : Nat) : Int) = 1 from rfl, show BD [] = .sl false false [] from rfl] at c7
 simp only [List.map_cons, List.map_nil] at hLL
 have hN : FN [Mn CU, Mn wS] := Sv [CU, wS]
 generalize [Mn CU, Mn wS] = LL at *
 have c8 := H0 CU CU
 rw [decide_eq_true rfl] at c8
 have c9 := WM 4
 rw [AcW] at c9
 simp only at c9
 have c10 := In 6
 rw [show BX 6 = [] by decide] at c10
 have c11 := EJ wC (by decide)
 rw [if_neg (c := GK wC = true) (by decide +kernel)] at c11
 simp only [Cc, Dn, Do, wC, Fr.zero, Vc.zero, List.map_nil, List.map_cons, Int.cast_ofNat_Int] at c11
 rw [show vb 1 = .int .u8 1 from rfl] at c11
 have bl := Av bJ
 have bl2 := Av bS
 have hcut : CP none (some 22) (AG bJ) = AG (bJ.take 22) := by
  unfold AG; rw [DK]; simp
 have h7 : [AQ (D.sl false true (AG bJ)), AQ (D.sl false true (AG bS)), AQ (D.lit (Value.slice none 0 0))] = [[D.sl false true (AG bJ)], [D.sl false true (AG bS)], [D.lit (Value.slice none 0 0)]] := rfl
 simp only [Mn, Cc, Dn, Do] at c1 c2 c4 c5 c6 c8
 refine Al fun B => ?_
 repeat' (first | rw [hcut] | rw [hrep] | rw [h7] | refine C7 ?_ | refine Ha ?_ | refine Ai ?_ | (refine As ?_; first | refine cz (c1) ?_ | refine cz (c2) ?_ | refine cz (c3) ?_ | refine cz (c4) ?_ | refine cz (c5) ?_ | refine cz (c6) ?_ | refine cz (c7) ?_ | refine cz (c8) ?_ | refine cz (c9) ?_ | refine cz (c10) ?_ | refine cz (c11) ?_) | refine Ah ?_ | refine nc ?_ ?_ | (with_reducible intro _ <;> (try (exfalso; omega))) | refine Aa ?_ | (refine nd ?_ ?_ <;> intro hg <;> first | exact xo hg | rw [hg]))
 all_goals first | rfl | exact absurd hg (by decide) | trace_state

end Go.Proofs.YtbgcjnfhadhjeaaGreat