/- Walks by data and names, part 52: The program's frames, by V: FJ. -/
import Derived.Test.YtbgcjnfhadhjeaaGreatPk46
import Derived.Test.YtbgcjnfhadhjeaaGreatPk47
import Derived.Test.YtbgcjnfhadhjeaaGreatPk50
namespace Go.Proofs.YtbgcjnfhadhjeaaGreat
set_option maxRecDepth 20000
open Go.RowKit
set_option maxRecDepth 10000
set_option maxHeartbeats 8000000
theorem LG {f : Fr} {n : Fl} (h : BX f n) : (A0 f n).length ≤ 20000 := by
 cases n <;> simp only [BX] at h <;> simp only [A0, List.length_append, As, FS] <;> first | omega | exact (RJ h.1 h.2).2
theorem He (n : Fl) (hn : n = .ep ∨ n = .sn ∨ n = .fl ∨ n = .fq ∨ n = .pr ∨ n = .tl) (f : Fr) (h : BX f n) (b : List UInt8) (m : Nat) (hb : b.length ≤ m) (hm : m ≤ 900000) : ∃ b', b' = b ++ A0 f n ∧ b'.length ≤ m + 20000 ∧ VP Tryz.prog 171 (CV b :: .agg (Bx f) :: FP n) (· = .ret (.tup [.sl true true (AH b'), Ar 0])) :=
 ⟨_, rfl, by have := LG h; rw [List.length_append]; omega, Z8 n hn b f (by omega) h⟩
theorem Lq (n : Fl) (hn : n = .si ∨ n = .ix ∨ n = .my) (f : Fr) (h : BX f n) (b : List UInt8) (m : Nat) (hb : b.length ≤ m) (hm : m ≤ 900000) : ∃ b', b' = b ++ A0 f n ∧ b'.length ≤ m + 20000 ∧ VP Tryz.prog 174 (CV b :: .agg (Bx f) :: FP n) (· = .ret (.tup [.sl true true (AH b'), Ar 0])) :=
 ⟨_, rfl, by have := LG h; rw [List.length_append]; omega, Z9 n hn b f (by omega) h⟩
theorem Vz (n : Fl) (hn : n = .v ∨ n = .w) (f : Fr) (h : BX f n) (b : List UInt8) (m : Nat) (hb : b.length ≤ m) (hm : m ≤ 900000) : ∃ b', b' = b ++ A0 f n ∧ b'.length ≤ m + 20000 ∧ VP Tryz.prog 188 (bxD b :: .agg (Bx f) :: FP n) (· = .ret (.tup [.sl false true (AH b'), Ar 0])) :=
 ⟨_, rfl, by have := LG h; rw [List.length_append]; omega, Z5 n hn b f (by omega) h⟩
theorem AbV (f : Fr) (h : BX f .bs) (b : List UInt8) (m : Nat) (hb : b.length ≤ m) (hm : m ≤ 900000) : ∃ b', b' = b ++ A0 f .bs ∧ b'.length ≤ m + 20000 ∧ VP Tryz.prog 132 [CV b, .agg (Bx f)] (· = .ret (.tup [.sl true true (AH b'), Ar 0])) :=
 ⟨_, rfl, by have := LG h; rw [List.length_append]; omega, Z7 b f (by omega) h⟩
theorem AbU (f : Fr) (h : BX f .os) (hp : ∀ o ∈ f.os, o.px.length ≤ 1000000) (b : List UInt8) (m : Nat) (hb : b.length ≤ m) (hm : m ≤ 900000) : ∃ b', b' = b ++ A0 f .os ∧ b'.length ≤ m + 20000 ∧ VP Tryz.prog 135 [bxD b, .agg (Bx f)] (· = .ret (.tup [.sl false true (AH b'), Ar 0])) :=
 ⟨_, rfl, by have := LG h; rw [List.length_append]; omega, Z6 b f (by omega) hp h⟩
theorem Wb (f : Fr) (hp : ∀ o ∈ f.os, o.px.length ≤ 1000000) (h : Eb f = false) : VP Tryz.prog 14 [.agg (Bx f)] (· = .ret (.tup [.sl false true (AH []), Ar 300])) := by
 have cc := Dk f hp
 rw [h] at cc
 simp only [Bool.false_eq_true, if_false] at cc
 refine VP.le ?_
 refine Am fun B => ?_
 repeat' (first | refine Al ?_ | (refine Ay ?_; first | refine cz (cc) ?_) | refine Ak ?_ | refine nc ?_ ?_ | (with_reducible intro _ <;> (try (exfalso; omega))) | refine Ad ?_ | (refine nd ?_ ?_ <;> intro hg <;> first | exact xo hg | rw [hg]))
 all_goals first | (simp only [HN, AH, List.map_nil]; infer_instance) | trace_state
theorem Yb (f : Fr) (hp : ∀ o ∈ f.os, o.px.length ≤ 1000000) (h : Eb f = true) (hk : f.k = 1) : VP Tryz.prog 14 [.agg (Bx f)] (· = .ret (.tup [.sl false true (AH (AS (A5 f))), Ar 0])) := by
 have cc := Dk f hp
 rw [h] at cc
 simp only [if_true] at cc
 have ok := LC h
 rw [hk] at ok
 have cf := JD
 have co := O1 f.k
 rw [show Pa f.k = Pa 1 by rw [hk]] at co
 simp only [Pa, Bp, AV, EN, Iz, Fl.nm, List.map_cons, List.map_nil, Int.reduceEq, if_true, if_false] at co
 have q0 : AH [UInt8.ofNat 1] = [[.lit (.int .u8 f.k)]] := by rw [hk]; rfl
 have e0 : A5 f = (((([UInt8.ofNat 1] ++ A0 f .ep) ++ A0 f .si) ++ A0 f .sn) ++ A0 f .ix) := by
  unfold A5
  rw [show Av 1 f.k.toNat = [UInt8.ofNat 1] by rw [hk]; rfl, hk]
  simp [BM, AV]
 obtain ⟨b1, e1, k1, l1⟩ := He .ep (.inl rfl) f (ok .ep (by decide)) [UInt8.ofNat 1] 1 (by simp) (by decide)
 obtain ⟨b2, e2, k2, l2⟩ := Lq .si (.inl rfl) f (ok .si (by decide)) b1 20001 k1 (by decide)
 obtain ⟨b3, e3, k3, l3⟩ := He .sn (.inr (.inl rfl)) f (ok .sn (by decide)) b2 40001 k2 (by decide)
 obtain ⟨b4, e4, k4, l4⟩ := Lq .ix (.inr (.inl rfl)) f (ok .ix (by decide)) b3 60001 k3 (by decide)
 unfold CV at l1
 rw [q0] at l1
 rw [← e1] at e0
 rw [← e2] at e0
 rw [← e3] at e0
 rw [← e4] at e0
 have i_ep := Bj .ep
 have g_ep := BI .ep
 rw [E6] at i_ep
 have i_si := Bj .si
 have g_si := BI .si
 rw [E6] at i_si
 have i_sn := Bj .sn
 have g_sn := BI .sn
 rw [E6] at i_sn
 have i_ix := Bj .ix
 have g_ix := BI .ix
 rw [E6] at i_ix
 simp only [Iz, Fl.nm, Fl.no, Fs, H7, H6, FP, Oh, Int.cast_ofNat_Int] at i_ep g_ep i_si g_si i_sn g_sn i_ix g_ix l1 l2 l3 l4
 have hl : (BU.map Fs).length = 13 := rfl
 have hdl : CC (BU.map Fs) (BU.map Fs) := inferInstance
 generalize BU.map Fs = L at *
 have cs := ID b4 (by omega)
 haveI : CC L L := hdl
 refine VP.le ?_
 refine Am fun B => ?_
 repeat' (first | refine CW ?_ | refine Al ?_ | (refine Ay ?_; first | refine cz (cc) ?_ | refine Ae 51 fun _ => ?_) | refine Ak ?_ | refine nc ?_ ?_ | (with_reducible intro _ <;> (try (exfalso; omega))) | refine Ad ?_ | (refine nd ?_ ?_ <;> intro hg <;> first | exact xo hg | rw [hg]))
 refine GS fun R T hOk => ?_
 refine Cm fun M2 => ?_
 repeat' (first | refine Al ?_ | (refine Ay ?_; first | refine cz (cf) ?_ | refine cz (co) ?_) | refine Ak ?_ | refine nc ?_ ?_ | (with_reducible intro _ <;> (try (exfalso; omega))) | refine Ad ?_ | (refine nd ?_ ?_ <;> intro hg <;> first | exact xo hg | rw [hg]))
 refine BT (fun i : Nat => ⟨[(12, I .i64 i), (11, I .i64 (4 : Nat)), (10, .d (.sl false true [[.lit (Bl [69, 112, 111, 99, 104])], [.lit (Bl [83, 105, 116, 101])], [.lit (Bl [83, 110, 97, 112])], [.lit (Bl [73, 110, 100, 101, 120])]])), (3, .d (.sl false true L)), (0, .yl 5), (1, .ptr 4 0)],
  [.y 5 (some R) T [(35, .yl 5), (5, .ptr 3 0), (3, .ptr 2 0), (2, .ptr 1 0), (1, .ptr 0 0)], .c 4 0 [.d (Ar f.k)], .c 3 0 [.d ([.sl false true [[.lit (.int .u8 f.k)]], .sl true true (AH b1), .sl true true (AH b2), .sl true true (AH b3), .sl true true (AH b4)].getD i .any)], .c 2 0 [.d (Ar 0)], .c 1 0 [.d (.lit (.slice none 0 0))], .c 0 0 ((Bx f).map V.d)], 6⟩) (fun i => i ≤ 4) (fun i => 4 - i) 0 (AI) (by omega) fun i hi => ?_
 rcases Nat.lt_or_ge i 4 with hlt | hge
 ·have hs : i = 0 ∨ i = 1 ∨ i = 2 ∨ i = 3 := by omega
  clear hlt hi cc cf co cs e0
  rcases hs with rfl | rfl | rfl | rfl
  ·simp only [List.getD_cons_zero]
   repeat' (first | refine Al ?_ | (refine Ay ?_; first | refine AQ (by assumption) fun _ _ => ?_ | refine cz (i_ep) ?_ | refine cz (l1) ?_) | refine Ak ?_ | refine nc ?_ ?_ | (with_reducible intro _ <;> (try (exfalso; omega))) | refine Ad ?_ | (refine nd ?_ ?_ <;> intro hg <;> first | exact xo hg | rw [hg]))
   exact AU 1 (by omega) (by omega) (AI)
  ·simp only [List.getD_cons_succ, List.getD_cons_zero]
   repeat' (first | refine Al ?_ | (refine Ay ?_; first | refine AQ (by assumption) fun _ _ => ?_ | refine cz (i_si) ?_ | refine cz (l2) ?_) | refine Ak ?_ | refine nc ?_ ?_ | (with_reducible intro _ <;> (try (exfalso; omega))) | refine Ad ?_ | (refine nd ?_ ?_ <;> intro hg <;> first | exact xo hg | rw [hg]))
   exact AU 2 (by omega) (by omega) (AI)
  ·simp only [List.getD_cons_succ, List.getD_cons_zero]
   repeat' (first | refine Al ?_ | (refine Ay ?_; first | refine AQ (by assumption) fun _ _ => ?_ | refine cz (i_sn) ?_ | refine cz (l3) ?_) | refine Ak ?_ | refine nc ?_ ?_ | (with_reducible intro _ <;> (try (exfalso; omega))) | refine Ad ?_ | (refine nd ?_ ?_ <;> intro hg <;> first | exact xo hg | rw [hg]))
   exact AU 3 (by omega) (by omega) (AI)
  ·simp only [List.getD_cons_succ, List.getD_cons_zero]
   repeat' (first | refine Al ?_ | (refine Ay ?_; first | refine AQ (by assumption) fun _ _ => ?_ | refine cz (i_ix) ?_ | refine cz (l4) ?_) | refine Ak ?_ | refine nc ?_ ?_ | (with_reducible intro _ <;> (try (exfalso; omega))) | refine Ad ?_ | (refine nd ?_ ?_ <;> intro hg <;> first | exact xo hg | rw [hg]))
   exact AU 4 (by omega) (by omega) (AI)
 ·obtain rfl : i = 4 := by omega
  rw [e0]
  simp only [List.getD_cons_succ, List.getD_cons_zero]
  repeat' (first | refine Al ?_ | (refine Ay ?_; first | refine cz (cs) ?_) | refine Ak ?_ | refine nc ?_ ?_ | (with_reducible intro _ <;> (try (exfalso; omega))) | refine Ad ?_ | (refine nd ?_ ?_ <;> intro hg <;> first | exact xo hg | rw [hg]))
  all_goals first | exact AP _ | trace_state
theorem Ya (f : Fr) (hp : ∀ o ∈ f.os, o.px.length ≤ 1000000) (h : Eb f = true) (hk : f.k = 2) : VP Tryz.prog 14 [.agg (Bx f)] (· = .ret (.tup [.sl false true (AH (AS (A5 f))), Ar 0])) := by
 have cc := Dk f hp
 rw [h] at cc
 simp only [if_true] at cc
 have ok := LC h
 rw [hk] at ok
 have cf := JD
 have co := O1 f.k
 rw [show Pa f.k = Pa 2 by rw [hk]] at co
 simp only [Pa, Bp, AV, EN, Iz, Fl.nm, List.map_cons, List.map_nil, Int.reduceEq, if_true, if_false] at co
 have q0 : AH [UInt8.ofNat 2] = [[.lit (.int .u8 f.k)]] := by rw [hk]; rfl
 have e0 : A5 f = (((((([UInt8.ofNat 2] ++ A0 f .ep) ++ A0 f .si) ++ A0 f .sn) ++ A0 f .ix) ++ A0 f .my) ++ A0 f .bs) := by
  unfold A5
  rw [show Av 1 f.k.toNat = [UInt8.ofNat 2] by rw [hk]; rfl, hk]
  simp [BM, AV]
 obtain ⟨b1, e1, k1, l1⟩ := He .ep (.inl rfl) f (ok .ep (by decide)) [UInt8.ofNat 2] 1 (by simp) (by decide)
 obtain ⟨b2, e2, k2, l2⟩ := Lq .si (.inl rfl) f (ok .si (by decide)) b1 20001 k1 (by decide)
 obtain ⟨b3, e3, k3, l3⟩ := He .sn (.inr (.inl rfl)) f (ok .sn (by decide)) b2 40001 k2 (by decide)
 obtain ⟨b4, e4, k4, l4⟩ := Lq .ix (.inr (.inl rfl)) f (ok .ix (by decide)) b3 60001 k3 (by decide)
 obtain ⟨b5, e5, k5, l5⟩ := Lq .my (.inr (.inr (rfl))) f (ok .my (by decide)) b4 80001 k4 (by decide)
 obtain ⟨b6, e6, k6, l6⟩ := AbV f (ok .bs (by decide)) b5 100001 k5 (by decide)
 unfold CV at l1
 rw [q0] at l1
 rw [← e1] at e0
 rw [← e2] at e0
 rw [← e3] at e0
 rw [← e4] at e0
 rw [← e5] at e0
 rw [← e6] at e0
 have i_ep := Bj .ep
 have g_ep := BI .ep
 rw [E6] at i_ep
 have i_si := Bj .si
 have g_si := BI .si
 rw [E6] at i_si
 have i_sn := Bj .sn
 have g_sn := BI .sn
 rw [E6] at i_sn
 have i_ix := Bj .ix
 have g_ix := BI .ix
 rw [E6] at i_ix
 have i_my := Bj .my
 have g_my := BI .my
 rw [E6] at i_my
 have i_bs := Bj .bs
 have g_bs := BI .bs
 rw [E6] at i_bs
 simp only [Iz, Fl.nm, Fl.no, Fs, H7, H6, FP, Oh, Int.cast_ofNat_Int] at i_ep g_ep i_si g_si i_sn g_sn i_ix g_ix i_my g_my i_bs g_bs l1 l2 l3 l4 l5 l6
 have hl : (BU.map Fs).length = 13 := rfl
 have hdl : CC (BU.map Fs) (BU.map Fs) := inferInstance
 generalize BU.map Fs = L at *
 have cs := ID b6 (by omega)
 haveI : CC L L := hdl
 refine VP.le ?_
 refine Am fun B => ?_
 repeat' (first | refine CW ?_ | refine Al ?_ | (refine Ay ?_; first | refine cz (cc) ?_ | refine Ae 51 fun _ => ?_) | refine Ak ?_ | refine nc ?_ ?_ | (with_reducible intro _ <;> (try (exfalso; omega))) | refine Ad ?_ | (refine nd ?_ ?_ <;> intro hg <;> first | exact xo hg | rw [hg]))
 refine GS fun R T hOk => ?_
 refine Cm fun M2 => ?_
 repeat' (first | refine Al ?_ | (refine Ay ?_; first | refine cz (cf) ?_ | refine cz (co) ?_) | refine Ak ?_ | refine nc ?_ ?_ | (with_reducible intro _ <;> (try (exfalso; omega))) | refine Ad ?_ | (refine nd ?_ ?_ <;> intro hg <;> first | exact xo hg | rw [hg]))
 refine BT (fun i : Nat => ⟨[(12, I .i64 i), (11, I .i64 (6 : Nat)), (10, .d (.sl false true [[.lit (Bl [69, 112, 111, 99, 104])], [.lit (Bl [83, 105, 116, 101])], [.lit (Bl [83, 110, 97, 112])], [.lit (Bl [73, 110, 100, 101, 120])], [.lit (Bl [77, 97, 110, 121])], [.lit (Bl [66, 121, 116, 101, 115])]])), (3, .d (.sl false true L)), (0, .yl 5), (1, .ptr 4 0)],
  [.y 5 (some R) T [(35, .yl 5), (5, .ptr 3 0), (3, .ptr 2 0), (2, .ptr 1 0), (1, .ptr 0 0)], .c 4 0 [.d (Ar f.k)], .c 3 0 [.d ([.sl false true [[.lit (.int .u8 f.k)]], .sl true true (AH b1), .sl true true (AH b2), .sl true true (AH b3), .sl true true (AH b4), .sl true true (AH b5), .sl true true (AH b6)].getD i .any)], .c 2 0 [.d (Ar 0)], .c 1 0 [.d (.lit (.slice none 0 0))], .c 0 0 ((Bx f).map V.d)], 6⟩) (fun i => i ≤ 6) (fun i => 6 - i) 0 (AI) (by omega) fun i hi => ?_
 rcases Nat.lt_or_ge i 6 with hlt | hge
 ·have hs : i = 0 ∨ i = 1 ∨ i = 2 ∨ i = 3 ∨ i = 4 ∨ i = 5 := by omega
  clear hlt hi cc cf co cs e0
  rcases hs with rfl | rfl | rfl | rfl | rfl | rfl
  ·simp only [List.getD_cons_zero]
   repeat' (first | refine Al ?_ | (refine Ay ?_; first | refine AQ (by assumption) fun _ _ => ?_ | refine cz (i_ep) ?_ | refine cz (l1) ?_) | refine Ak ?_ | refine nc ?_ ?_ | (with_reducible intro _ <;> (try (exfalso; omega))) | refine Ad ?_ | (refine nd ?_ ?_ <;> intro hg <;> first | exact xo hg | rw [hg]))
   exact AU 1 (by omega) (by omega) (AI)
  ·simp only [List.getD_cons_succ, List.getD_cons_zero]
   repeat' (first | refine Al ?_ | (refine Ay ?_; first | refine AQ (by assumption) fun _ _ => ?_ | refine cz (i_si) ?_ | refine cz (l2) ?_) | refine Ak ?_ | refine nc ?_ ?_ | (with_reducible intro _ <;> (try (exfalso; omega))) | refine Ad ?_ | (refine nd ?_ ?_ <;> intro hg <;> first | exact xo hg | rw [hg]))
   exact AU 2 (by omega) (by omega) (AI)
  ·simp only [List.getD_cons_succ, List.getD_cons_zero]
   repeat' (first | refine Al ?_ | (refine Ay ?_; first | refine AQ (by assumption) fun _ _ => ?_ | refine cz (i_sn) ?_ | refine cz (l3) ?_) | refine Ak ?_ | refine nc ?_ ?_ | (with_reducible intro _ <;> (try (exfalso; omega))) | refine Ad ?_ | (refine nd ?_ ?_ <;> intro hg <;> first | exact xo hg | rw [hg]))
   exact AU 3 (by omega) (by omega) (AI)
  ·simp only [List.getD_cons_succ, List.getD_cons_zero]
   repeat' (first | refine Al ?_ | (refine Ay ?_; first | refine AQ (by assumption) fun _ _ => ?_ | refine cz (i_ix) ?_ | refine cz (l4) ?_) | refine Ak ?_ | refine nc ?_ ?_ | (with_reducible intro _ <;> (try (exfalso; omega))) | refine Ad ?_ | (refine nd ?_ ?_ <;> intro hg <;> first | exact xo hg | rw [hg]))
   exact AU 4 (by omega) (by omega) (AI)
  ·simp only [List.getD_cons_succ, List.getD_cons_zero]
   repeat' (first | refine Al ?_ | (refine Ay ?_; first | refine AQ (by assumption) fun _ _ => ?_ | refine cz (i_my) ?_ | refine cz (l5) ?_) | refine Ak ?_ | refine nc ?_ ?_ | (with_reducible intro _ <;> (try (exfalso; omega))) | refine Ad ?_ | (refine nd ?_ ?_ <;> intro hg <;> first | exact xo hg | rw [hg]))
   exact AU 5 (by omega) (by omega) (AI)
  ·simp only [List.getD_cons_succ, List.getD_cons_zero]
   repeat' (first | refine Al ?_ | (refine Ay ?_; first | refine AQ (by assumption) fun _ _ => ?_ | refine cz (i_bs) ?_ | refine cz (l6) ?_) | refine Ak ?_ | refine nc ?_ ?_ | (with_reducible intro _ <;> (try (exfalso; omega))) | refine Ad ?_ | (refine nd ?_ ?_ <;> intro hg <;> first | exact xo hg | rw [hg]))
   exact AU 6 (by omega) (by omega) (AI)
 ·obtain rfl : i = 6 := by omega
  rw [e0]
  simp only [List.getD_cons_succ, List.getD_cons_zero]
  repeat' (first | refine Al ?_ | (refine Ay ?_; first | refine cz (cs) ?_) | refine Ak ?_ | refine nc ?_ ?_ | (with_reducible intro _ <;> (try (exfalso; omega))) | refine Ad ?_ | (refine nd ?_ ?_ <;> intro hg <;> first | exact xo hg | rw [hg]))
  all_goals first | exact AP _ | trace_state
theorem X9 (f : Fr) (hp : ∀ o ∈ f.os, o.px.length ≤ 1000000) (h : Eb f = true) (hk : f.k = 3) : VP Tryz.prog 14 [.agg (Bx f)] (· = .ret (.tup [.sl false true (AH (AS (A5 f))), Ar 0])) := by
 have cc := Dk f hp
 rw [h] at cc
 simp only [if_true] at cc
 have ok := LC h
 rw [hk] at ok
 have cf := JD
 have co := O1 f.k
 rw [show Pa f.k = Pa 3 by rw [hk]] at co
 simp only [Pa, Bp, AV, EN, Iz, Fl.nm, List.map_cons, List.map_nil, Int.reduceEq, if_true, if_false] at co
 have q0 : AH [UInt8.ofNat 3] = [[.lit (.int .u8 f.k)]] := by rw [hk]; rfl
 have e0 : A5 f = ((([UInt8.ofNat 3] ++ A0 f .ep) ++ A0 f .si) ++ A0 f .os) := by
  unfold A5
  rw [show Av 1 f.k.toNat = [UInt8.ofNat 3] by rw [hk]; rfl, hk]
  simp [BM, AV]
 obtain ⟨b1, e1, k1, l1⟩ := He .ep (.inl rfl) f (ok .ep (by decide)) [UInt8.ofNat 3] 1 (by simp) (by decide)
 obtain ⟨b2, e2, k2, l2⟩ := Lq .si (.inl rfl) f (ok .si (by decide)) b1 20001 k1 (by decide)
 obtain ⟨b3, e3, k3, l3⟩ := AbU f (ok .os (by decide)) hp b2 40001 k2 (by decide)
 unfold CV at l1
 rw [q0] at l1
 rw [← e1] at e0
 rw [← e2] at e0
 rw [← e3] at e0
 have i_ep := Bj .ep
 have g_ep := BI .ep
 rw [E6] at i_ep
 have i_si := Bj .si
 have g_si := BI .si
 rw [E6] at i_si
 have i_os := Bj .os
 have g_os := BI .os
 rw [E6] at i_os
 simp only [Iz, Fl.nm, Fl.no, Fs, H7, H6, FP, Oh, Int.cast_ofNat_Int] at i_ep g_ep i_si g_si i_os g_os l1 l2 l3
 have hl : (BU.map Fs).length = 13 := rfl
 have hdl : CC (BU.map Fs) (BU.map Fs) := inferInstance
 generalize BU.map Fs = L at *
 have cs := ID b3 (by omega)
 haveI : CC L L := hdl
 refine VP.le ?_
 refine Am fun B => ?_
 repeat' (first | refine CW ?_ | refine Al ?_ | (refine Ay ?_; first | refine cz (cc) ?_ | refine Ae 51 fun _ => ?_) | refine Ak ?_ | refine nc ?_ ?_ | (with_reducible intro _ <;> (try (exfalso; omega))) | refine Ad ?_ | (refine nd ?_ ?_ <;> intro hg <;> first | exact xo hg | rw [hg]))
 refine GS fun R T hOk => ?_
 refine Cm fun M2 => ?_
 repeat' (first | refine Al ?_ | (refine Ay ?_; first | refine cz (cf) ?_ | refine cz (co) ?_) | refine Ak ?_ | refine nc ?_ ?_ | (with_reducible intro _ <;> (try (exfalso; omega))) | refine Ad ?_ | (refine nd ?_ ?_ <;> intro hg <;> first | exact xo hg | rw [hg]))
 refine BT (fun i : Nat => ⟨[(12, I .i64 i), (11, I .i64 (3 : Nat)), (10, .d (.sl false true [[.lit (Bl [69, 112, 111, 99, 104])], [.lit (Bl [83, 105, 116, 101])], [.lit (Bl [79, 112, 115])]])), (3, .d (.sl false true L)), (0, .yl 5), (1, .ptr 4 0)],
  [.y 5 (some R) T [(35, .yl 5), (5, .ptr 3 0), (3, .ptr 2 0), (2, .ptr 1 0), (1, .ptr 0 0)], .c 4 0 [.d (Ar f.k)], .c 3 0 [.d ([.sl false true [[.lit (.int .u8 f.k)]], .sl true true (AH b1), .sl true true (AH b2), .sl false true (AH b3)].getD i .any)], .c 2 0 [.d (Ar 0)], .c 1 0 [.d (.lit (.slice none 0 0))], .c 0 0 ((Bx f).map V.d)], 6⟩) (fun i => i ≤ 3) (fun i => 3 - i) 0 (AI) (by omega) fun i hi => ?_
 rcases Nat.lt_or_ge i 3 with hlt | hge
 ·have hs : i = 0 ∨ i = 1 ∨ i = 2 := by omega
  clear hlt hi cc cf co cs e0
  rcases hs with rfl | rfl | rfl
  ·simp only [List.getD_cons_zero]
   repeat' (first | refine Al ?_ | (refine Ay ?_; first | refine AQ (by assumption) fun _ _ => ?_ | refine cz (i_ep) ?_ | refine cz (l1) ?_) | refine Ak ?_ | refine nc ?_ ?_ | (with_reducible intro _ <;> (try (exfalso; omega))) | refine Ad ?_ | (refine nd ?_ ?_ <;> intro hg <;> first | exact xo hg | rw [hg]))
   exact AU 1 (by omega) (by omega) (AI)
  ·simp only [List.getD_cons_succ, List.getD_cons_zero]
   repeat' (first | refine Al ?_ | (refine Ay ?_; first | refine AQ (by assumption) fun _ _ => ?_ | refine cz (i_si) ?_ | refine cz (l2) ?_) | refine Ak ?_ | refine nc ?_ ?_ | (with_reducible intro _ <;> (try (exfalso; omega))) | refine Ad ?_ | (refine nd ?_ ?_ <;> intro hg <;> first | exact xo hg | rw [hg]))
   exact AU 2 (by omega) (by omega) (AI)
  ·simp only [List.getD_cons_succ, List.getD_cons_zero]
   repeat' (first | refine Al ?_ | (refine Ay ?_; first | refine AQ (by assumption) fun _ _ => ?_ | refine cz (i_os) ?_ | refine cz (l3) ?_) | refine Ak ?_ | refine nc ?_ ?_ | (with_reducible intro _ <;> (try (exfalso; omega))) | refine Ad ?_ | (refine nd ?_ ?_ <;> intro hg <;> first | exact xo hg | rw [hg]))
   exact AU 3 (by omega) (by omega) (AI)
 ·obtain rfl : i = 3 := by omega
  rw [e0]
  simp only [List.getD_cons_succ, List.getD_cons_zero]
  repeat' (first | refine Al ?_ | (refine Ay ?_; first | refine cz (cs) ?_) | refine Ak ?_ | refine nc ?_ ?_ | (with_reducible intro _ <;> (try (exfalso; omega))) | refine Ad ?_ | (refine nd ?_ ?_ <;> intro hg <;> first | exact xo hg | rw [hg]))
  all_goals first | exact AP _ | trace_state
theorem X8 (f : Fr) (hp : ∀ o ∈ f.os, o.px.length ≤ 1000000) (h : Eb f = true) (hk : f.k = 4) : VP Tryz.prog 14 [.agg (Bx f)] (· = .ret (.tup [.sl false true (AH (AS (A5 f))), Ar 0])) := by
 have cc := Dk f hp
 rw [h] at cc
 simp only [if_true] at cc
 have ok := LC h
 rw [hk] at ok
 have cf := JD
 have co := O1 f.k
 rw [show Pa f.k = Pa 4 by rw [hk]] at co
 simp only [Pa, Bp, AV, EN, Iz, Fl.nm, List.map_cons, List.map_nil, Int.reduceEq, if_true, if_false] at co
 have q0 : AH [UInt8.ofNat 4] = [[.lit (.int .u8 f.k)]] := by rw [hk]; rfl
 have e0 : A5 f = ((((([UInt8.ofNat 4] ++ A0 f .ep) ++ A0 f .si) ++ A0 f .v) ++ A0 f .fl) ++ A0 f .fq) := by
  unfold A5
  rw [show Av 1 f.k.toNat = [UInt8.ofNat 4] by rw [hk]; rfl, hk]
  simp [BM, AV]
 obtain ⟨b1, e1, k1, l1⟩ := He .ep (.inl rfl) f (ok .ep (by decide)) [UInt8.ofNat 4] 1 (by simp) (by decide)
 obtain ⟨b2, e2, k2, l2⟩ := Lq .si (.inl rfl) f (ok .si (by decide)) b1 20001 k1 (by decide)
 obtain ⟨b3, e3, k3, l3⟩ := Vz .v (.inl rfl) f (ok .v (by decide)) b2 40001 k2 (by decide)
 obtain ⟨b4, e4, k4, l4⟩ := He .fl (.inr (.inr (.inl rfl))) f (ok .fl (by decide)) b3 60001 k3 (by decide)
 obtain ⟨b5, e5, k5, l5⟩ := He .fq (.inr (.inr (.inr (.inl rfl)))) f (ok .fq (by decide)) b4 80001 k4 (by decide)
 unfold CV at l1
 rw [q0] at l1
 rw [← e1] at e0
 rw [← e2] at e0
 rw [← e3] at e0
 rw [← e4] at e0
 rw [← e5] at e0
 have i_ep := Bj .ep
 have g_ep := BI .ep
 rw [E6] at i_ep
 have i_si := Bj .si
 have g_si := BI .si
 rw [E6] at i_si
 have i_v := Bj .v
 have g_v := BI .v
 rw [E6] at i_v
 have i_fl := Bj .fl
 have g_fl := BI .fl
 rw [E6] at i_fl
 have i_fq := Bj .fq
 have g_fq := BI .fq
 rw [E6] at i_fq
 simp only [Iz, Fl.nm, Fl.no, Fs, H7, H6, FP, Oh, Int.cast_ofNat_Int] at i_ep g_ep i_si g_si i_v g_v i_fl g_fl i_fq g_fq l1 l2 l3 l4 l5
 have hl : (BU.map Fs).length = 13 := rfl
 have hdl : CC (BU.map Fs) (BU.map Fs) := inferInstance
 generalize BU.map Fs = L at *
 have cs := ID b5 (by omega)
 haveI : CC L L := hdl
 refine VP.le ?_
 refine Am fun B => ?_
 repeat' (first | refine CW ?_ | refine Al ?_ | (refine Ay ?_; first | refine cz (cc) ?_ | refine Ae 51 fun _ => ?_) | refine Ak ?_ | refine nc ?_ ?_ | (with_reducible intro _ <;> (try (exfalso; omega))) | refine Ad ?_ | (refine nd ?_ ?_ <;> intro hg <;> first | exact xo hg | rw [hg]))
 refine GS fun R T hOk => ?_
 refine Cm fun M2 => ?_
 repeat' (first | refine Al ?_ | (refine Ay ?_; first | refine cz (cf) ?_ | refine cz (co) ?_) | refine Ak ?_ | refine nc ?_ ?_ | (with_reducible intro _ <;> (try (exfalso; omega))) | refine Ad ?_ | (refine nd ?_ ?_ <;> intro hg <;> first | exact xo hg | rw [hg]))
 refine BT (fun i : Nat => ⟨[(12, I .i64 i), (11, I .i64 (5 : Nat)), (10, .d (.sl false true [[.lit (Bl [69, 112, 111, 99, 104])], [.lit (Bl [83, 105, 116, 101])], [.lit (Bl [86, 101, 99, 116, 111, 114])], [.lit (Bl [70, 108, 111, 111, 114])], [.lit (Bl [70, 108, 111, 111, 114, 83, 101, 113])]])), (3, .d (.sl false true L)), (0, .yl 5), (1, .ptr 4 0)],
  [.y 5 (some R) T [(35, .yl 5), (5, .ptr 3 0), (3, .ptr 2 0), (2, .ptr 1 0), (1, .ptr 0 0)], .c 4 0 [.d (Ar f.k)], .c 3 0 [.d ([.sl false true [[.lit (.int .u8 f.k)]], .sl true true (AH b1), .sl true true (AH b2), .sl false true (AH b3), .sl true true (AH b4), .sl true true (AH b5)].getD i .any)], .c 2 0 [.d (Ar 0)], .c 1 0 [.d (.lit (.slice none 0 0))], .c 0 0 ((Bx f).map V.d)], 6⟩) (fun i => i ≤ 5) (fun i => 5 - i) 0 (AI) (by omega) fun i hi => ?_
 rcases Nat.lt_or_ge i 5 with hlt | hge
 ·have hs : i = 0 ∨ i = 1 ∨ i = 2 ∨ i = 3 ∨ i = 4 := by omega
  clear hlt hi cc cf co cs e0
  rcases hs with rfl | rfl | rfl | rfl | rfl
  ·simp only [List.getD_cons_zero]
   repeat' (first | refine Al ?_ | (refine Ay ?_; first | refine AQ (by assumption) fun _ _ => ?_ | refine cz (i_ep) ?_ | refine cz (l1) ?_) | refine Ak ?_ | refine nc ?_ ?_ | (with_reducible intro _ <;> (try (exfalso; omega))) | refine Ad ?_ | (refine nd ?_ ?_ <;> intro hg <;> first | exact xo hg | rw [hg]))
   exact AU 1 (by omega) (by omega) (AI)
  ·simp only [List.getD_cons_succ, List.getD_cons_zero]
   repeat' (first | refine Al ?_ | (refine Ay ?_; first | refine AQ (by assumption) fun _ _ => ?_ | refine cz (i_si) ?_ | refine cz (l2) ?_) | refine Ak ?_ | refine nc ?_ ?_ | (with_reducible intro _ <;> (try (exfalso; omega))) | refine Ad ?_ | (refine nd ?_ ?_ <;> intro hg <;> first | exact xo hg | rw [hg]))
   exact AU 2 (by omega) (by omega) (AI)
  ·simp only [List.getD_cons_succ, List.getD_cons_zero]
   repeat' (first | refine Al ?_ | (refine Ay ?_; first | refine AQ (by assumption) fun _ _ => ?_ | refine cz (i_v) ?_ | refine cz (l3) ?_) | refine Ak ?_ | refine nc ?_ ?_ | (with_reducible intro _ <;> (try (exfalso; omega))) | refine Ad ?_ | (refine nd ?_ ?_ <;> intro hg <;> first | exact xo hg | rw [hg]))
   exact AU 3 (by omega) (by omega) (AI)
  ·simp only [List.getD_cons_succ, List.getD_cons_zero]
   repeat' (first | refine Al ?_ | (refine Ay ?_; first | refine AQ (by assumption) fun _ _ => ?_ | refine cz (i_fl) ?_ | refine cz (l4) ?_) | refine Ak ?_ | refine nc ?_ ?_ | (with_reducible intro _ <;> (try (exfalso; omega))) | refine Ad ?_ | (refine nd ?_ ?_ <;> intro hg <;> first | exact xo hg | rw [hg]))
   exact AU 4 (by omega) (by omega) (AI)
  ·simp only [List.getD_cons_succ, List.getD_cons_zero]
   repeat' (first | refine Al ?_ | (refine Ay ?_; first | refine AQ (by assumption) fun _ _ => ?_ | refine cz (i_fq) ?_ | refine cz (l5) ?_) | refine Ak ?_ | refine nc ?_ ?_ | (with_reducible intro _ <;> (try (exfalso; omega))) | refine Ad ?_ | (refine nd ?_ ?_ <;> intro hg <;> first | exact xo hg | rw [hg]))
   exact AU 5 (by omega) (by omega) (AI)
 ·obtain rfl : i = 5 := by omega
  rw [e0]
  simp only [List.getD_cons_succ, List.getD_cons_zero]
  repeat' (first | refine Al ?_ | (refine Ay ?_; first | refine cz (cs) ?_) | refine Ak ?_ | refine nc ?_ ?_ | (with_reducible intro _ <;> (try (exfalso; omega))) | refine Ad ?_ | (refine nd ?_ ?_ <;> intro hg <;> first | exact xo hg | rw [hg]))
  all_goals first | exact AP _ | trace_state
theorem X7 (f : Fr) (hp : ∀ o ∈ f.os, o.px.length ≤ 1000000) (h : Eb f = true) (hk : f.k = 5) : VP Tryz.prog 14 [.agg (Bx f)] (· = .ret (.tup [.sl false true (AH (AS (A5 f))), Ar 0])) := by
 have cc := Dk f hp
 rw [h] at cc
 simp only [if_true] at cc
 have ok := LC h
 rw [hk] at ok
 have cf := JD
 have co := O1 f.k
 rw [show Pa f.k = Pa 5 by rw [hk]] at co
 simp only [Pa, Bp, AV, EN, Iz, Fl.nm, List.map_cons, List.map_nil, Int.reduceEq, if_true, if_false] at co
 have q0 : AH [UInt8.ofNat 5] = [[.lit (.int .u8 f.k)]] := by rw [hk]; rfl
 have e0 : A5 f = ((((([UInt8.ofNat 5] ++ A0 f .ep) ++ A0 f .v) ++ A0 f .pr) ++ A0 f .tl) ++ A0 f .w) := by
  unfold A5
  rw [show Av 1 f.k.toNat = [UInt8.ofNat 5] by rw [hk]; rfl, hk]
  simp [BM, AV]
 obtain ⟨b1, e1, k1, l1⟩ := He .ep (.inl rfl) f (ok .ep (by decide)) [UInt8.ofNat 5] 1 (by simp) (by decide)
 obtain ⟨b2, e2, k2, l2⟩ := Vz .v (.inl rfl) f (ok .v (by decide)) b1 20001 k1 (by decide)
 obtain ⟨b3, e3, k3, l3⟩ := He .pr (.inr (.inr (.inr (.inr (.inl rfl))))) f (ok .pr (by decide)) b2 40001 k2 (by decide)
 obtain ⟨b4, e4, k4, l4⟩ := He .tl (.inr (.inr (.inr (.inr (.inr (rfl)))))) f (ok .tl (by decide)) b3 60001 k3 (by decide)
 obtain ⟨b5, e5, k5, l5⟩ := Vz .w (.inr (rfl)) f (ok .w (by decide)) b4 80001 k4 (by decide)
 unfold CV at l1
 rw [q0] at l1
 rw [← e1] at e0
 rw [← e2] at e0
 rw [← e3] at e0
 rw [← e4] at e0
 rw [← e5] at e0
 have i_ep := Bj .ep
 have g_ep := BI .ep
 rw [E6] at i_ep
 have i_v := Bj .v
 have g_v := BI .v
 rw [E6] at i_v
 have i_pr := Bj .pr
 have g_pr := BI .pr
 rw [E6] at i_pr
 have i_tl := Bj .tl
 have g_tl := BI .tl
 rw [E6] at i_tl
 have i_w := Bj .w
 have g_w := BI .w
 rw [E6] at i_w
 simp only [Iz, Fl.nm, Fl.no, Fs, H7, H6, FP, Oh, Int.cast_ofNat_Int] at i_ep g_ep i_v g_v i_pr g_pr i_tl g_tl i_w g_w l1 l2 l3 l4 l5
 have hl : (BU.map Fs).length = 13 := rfl
 have hdl : CC (BU.map Fs) (BU.map Fs) := inferInstance
 generalize BU.map Fs = L at *
 have cs := ID b5 (by omega)
 haveI : CC L L := hdl
 refine VP.le ?_
 refine Am fun B => ?_
 repeat' (first | refine CW ?_ | refine Al ?_ | (refine Ay ?_; first | refine cz (cc) ?_ | refine Ae 51 fun _ => ?_) | refine Ak ?_ | refine nc ?_ ?_ | (with_reducible intro _ <;> (try (exfalso; omega))) | refine Ad ?_ | (refine nd ?_ ?_ <;> intro hg <;> first | exact xo hg | rw [hg]))
 refine GS fun R T hOk => ?_
 refine Cm fun M2 => ?_
 repeat' (first | refine Al ?_ | (refine Ay ?_; first | refine cz (cf) ?_ | refine cz (co) ?_) | refine Ak ?_ | refine nc ?_ ?_ | (with_reducible intro _ <;> (try (exfalso; omega))) | refine Ad ?_ | (refine nd ?_ ?_ <;> intro hg <;> first | exact xo hg | rw [hg]))
 refine BT (fun i : Nat => ⟨[(12, I .i64 i), (11, I .i64 (5 : Nat)), (10, .d (.sl false true [[.lit (Bl [69, 112, 111, 99, 104])], [.lit (Bl [86, 101, 99, 116, 111, 114])], [.lit (Bl [80, 114, 111, 112, 111, 115, 101, 100])], [.lit (Bl [84, 111, 108, 100])], [.lit (Bl [66, 121])]])), (3, .d (.sl false true L)), (0, .yl 5), (1, .ptr 4 0)],
  [.y 5 (some R) T [(35, .yl 5), (5, .ptr 3 0), (3, .ptr 2 0), (2, .ptr 1 0), (1, .ptr 0 0)], .c 4 0 [.d (Ar f.k)], .c 3 0 [.d ([.sl false true [[.lit (.int .u8 f.k)]], .sl true true (AH b1), .sl false true (AH b2), .sl true true (AH b3), .sl true true (AH b4), .sl false true (AH b5)].getD i .any)], .c 2 0 [.d (Ar 0)], .c 1 0 [.d (.lit (.slice none 0 0))], .c 0 0 ((Bx f).map V.d)], 6⟩) (fun i => i ≤ 5) (fun i => 5 - i) 0 (AI) (by omega) fun i hi => ?_
 rcases Nat.lt_or_ge i 5 with hlt | hge
 ·have hs : i = 0 ∨ i = 1 ∨ i = 2 ∨ i = 3 ∨ i = 4 := by omega
  clear hlt hi cc cf co cs e0
  rcases hs with rfl | rfl | rfl | rfl | rfl
  ·simp only [List.getD_cons_zero]
   repeat' (first | refine Al ?_ | (refine Ay ?_; first | refine AQ (by assumption) fun _ _ => ?_ | refine cz (i_ep) ?_ | refine cz (l1) ?_) | refine Ak ?_ | refine nc ?_ ?_ | (with_reducible intro _ <;> (try (exfalso; omega))) | refine Ad ?_ | (refine nd ?_ ?_ <;> intro hg <;> first | exact xo hg | rw [hg]))
   exact AU 1 (by omega) (by omega) (AI)
  ·simp only [List.getD_cons_succ, List.getD_cons_zero]
   repeat' (first | refine Al ?_ | (refine Ay ?_; first | refine AQ (by assumption) fun _ _ => ?_ | refine cz (i_v) ?_ | refine cz (l2) ?_) | refine Ak ?_ | refine nc ?_ ?_ | (with_reducible intro _ <;> (try (exfalso; omega))) | refine Ad ?_ | (refine nd ?_ ?_ <;> intro hg <;> first | exact xo hg | rw [hg]))
   exact AU 2 (by omega) (by omega) (AI)
  ·simp only [List.getD_cons_succ, List.getD_cons_zero]
   repeat' (first | refine Al ?_ | (refine Ay ?_; first | refine AQ (by assumption) fun _ _ => ?_ | refine cz (i_pr) ?_ | refine cz (l3) ?_) | refine Ak ?_ | refine nc ?_ ?_ | (with_reducible intro _ <;> (try (exfalso; omega))) | refine Ad ?_ | (refine nd ?_ ?_ <;> intro hg <;> first | exact xo hg | rw [hg]))
   exact AU 3 (by omega) (by omega) (AI)
  ·simp only [List.getD_cons_succ, List.getD_cons_zero]
   repeat' (first | refine Al ?_ | (refine Ay ?_; first | refine AQ (by assumption) fun _ _ => ?_ | refine cz (i_tl) ?_ | refine cz (l4) ?_) | refine Ak ?_ | refine nc ?_ ?_ | (with_reducible intro _ <;> (try (exfalso; omega))) | refine Ad ?_ | (refine nd ?_ ?_ <;> intro hg <;> first | exact xo hg | rw [hg]))
   exact AU 4 (by omega) (by omega) (AI)
  ·simp only [List.getD_cons_succ, List.getD_cons_zero]
   repeat' (first | refine Al ?_ | (refine Ay ?_; first | refine AQ (by assumption) fun _ _ => ?_ | refine cz (i_w) ?_ | refine cz (l5) ?_) | refine Ak ?_ | refine nc ?_ ?_ | (with_reducible intro _ <;> (try (exfalso; omega))) | refine Ad ?_ | (refine nd ?_ ?_ <;> intro hg <;> first | exact xo hg | rw [hg]))
   exact AU 5 (by omega) (by omega) (AI)
 ·obtain rfl : i = 5 := by omega
  rw [e0]
  simp only [List.getD_cons_succ, List.getD_cons_zero]
  repeat' (first | refine Al ?_ | (refine Ay ?_; first | refine cz (cs) ?_) | refine Ak ?_ | refine nc ?_ ?_ | (with_reducible intro _ <;> (try (exfalso; omega))) | refine Ad ?_ | (refine nd ?_ ?_ <;> intro hg <;> first | exact xo hg | rw [hg]))
  all_goals first | exact AP _ | trace_state
theorem FG (f : Fr) (hp : ∀ o ∈ f.os, o.px.length ≤ 1000000) : VP Tryz.prog 14 [.agg (Bx f)] (· = .ret (.tup [.sl false true (AH (ER f).1), Ar (ER f).2])) := by
 unfold ER
 cases h : Eb f with
 | false => simp only [Bool.false_eq_true, if_false]; exact Wb f hp h
 | true =>
  simp only [if_true]
  obtain ⟨h1, h2⟩ := (GA h).1.2.1
  rcases Jy h1 h2 with k | k | k | k | k
  ·exact Yb f hp h k
  ·exact Ya f hp h k
  ·exact X9 f hp h k
  ·exact X8 f hp h k
  ·exact X7 f hp h k

end Go.Proofs.YtbgcjnfhadhjeaaGreat