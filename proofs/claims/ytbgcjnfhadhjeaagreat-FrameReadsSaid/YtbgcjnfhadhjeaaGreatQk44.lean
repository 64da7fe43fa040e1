/- Walks by data and names, part 44: The program's frames, by V: all of a frame is read. A VC (called where it stands, with data alone) as a VP; the store of nothing. One cell of a variable is set: what the log says then. -/
import Derived.Laws.Tables
import Derived.Tactics
import Derived.Tactics2
import Derived.Defers
import Derived.Laws.Pointers
import Derived.Laws.LoneSync
import Derived.RegionTactic
import Derived.RegionCalls
import Derived.ChangeAlike
import Derived.Test.YtbgcjnfhadhjeaaGreatQk43
import Derived.Test.YtbgcjnfhadhjeaaGreatQk14
namespace Go.Proofs.YtbgcjnfhadhjeaaGreat
set_option maxRecDepth 20000
open Go.RowKit
set_option maxRecDepth 10000
set_option maxHeartbeats 8000000
abbrev Y3 (l : List UInt8) : D := .sl false true (AG l)
abbrev YF (l : List A5) : D := .sl false true (l.map oM)
abbrev M8 : List V := [.d .any, .d .any, .d .any, .d .any, .d .any, .d .any, .d .any, .d .any, .d .any, .d .any, .d .any, .d .any, .d .any, .d .any, .d .any, .d .any, .d .any, .d .any, .d .any, .d .any, .d .any, .d .any, .d .any, .d .any, .d .any, .d .any, .d .any, .d .any, .d .any, .d .any, .d .any]
def Uj (c : List UInt8) (r : RC) (s : List E) (n : Nat) : Prop :=
 (∀ f, G0 c = some f → Gy 1 (.ret (.tup [])) [.c 0 0 (A6 (Y3 f.bs) (YF f.os) f [])] 1 r s n) ∧ (G0 c = none → Gy 1 (.panic (.d DM)) [.c 0 0 M8] 1 r s n)
theorem W8 {c : List UInt8} {f : Fr} {r : RC} {s : List E} {n : Nat} (h : G0 c = some f) (k : Gy 1 (.ret (.tup [])) [.c 0 0 (A6 (Y3 f.bs) (YF f.os) f [])] 1 r s n) : Uj c r s n := ⟨fun g hg => (by rw [h] at hg; cases hg; exact k), fun hn => (by rw [h] at hn; cases hn)⟩
theorem Kp {c : List UInt8} {r : RC} {s : List E} {n : Nat} (h : G0 c = none) (k : Gy 1 (.panic (.d DM)) [.c 0 0 M8] 1 r s n) : Uj c r s n := ⟨fun g hg => (by rw [h] at hg; cases hg), fun _ => k⟩
def rdF : Fl → FuncId
 | .si => 175
 | .ix => 175
 | .my => 175
 | .v => 190
 | .w => 190
 | .bs => 134
 | .os => 138
 | _ => 173
def rdC : Fl → List V
 | .bs => []
 | .os => []
 | n => (FU n).map .d
theorem FZ {f : FuncId} {vs : List V} {st s1 : List E} {r : RC} (h : Dk Tryz.prog f 1 vs st 1 r s1 1) (k : Gy 1 r [.c 0 0 M8] 1 r s1 1) : Dk Tryz.prog f 1 vs st 1 r [.c 0 0 M8] 1 :=
 VM.sub1 (VM.mono h fun _ _ _ e => by obtain ⟨rfl, rfl, rfl⟩ := e; exact k)
theorem Xa (n : Fl) (b o : D) (x : Fr) (t : List UInt8) (ht : t.length ≤ 1000000) (h : Be x n t = none) : Dk Tryz.prog (rdF n) 1 (.ptr 0 0 :: rdC n) [.c 0 0 (A6 b o x t)] 1 (.panic (.d DM)) [.c 0 0 M8] 1 := by
 cases n
 case bs => exact FZ (AbK b o x t ht h) (Ay [])
 case os => exact FZ (AbI b o x t ht h) (Ay [])
 case v => exact FZ (Yy _ (.inl rfl) b o x t ht h) (Ay [])
 case w => exact FZ (Yy _ (.inr rfl) b o x t ht h) (Ay [])
 case si => exact FZ (Ul _ (.inl rfl) b o x t ht h) (Ay [])
 case ix => exact FZ (Ul _ (.inr (.inl rfl)) b o x t ht h) (Ay [])
 case my => exact FZ (Ul _ (.inr (.inr rfl)) b o x t ht h) (Ay [])
 case ep => exact FZ (MF _ (.inl rfl) b o x t ht h) (Ay [])
 case sn => exact FZ (MF _ (.inr (.inl rfl)) b o x t ht h) (Ay [])
 case fl => exact FZ (MF _ (.inr (.inr (.inl rfl))) b o x t ht h) (Ay [])
 case fq => exact FZ (MF _ (.inr (.inr (.inr (.inl rfl)))) b o x t ht h) (Ay [])
 case pr => exact FZ (MF _ (.inr (.inr (.inr (.inr (.inl rfl))))) b o x t ht h) (Ay [])
 case tl => exact FZ (MF _ (.inr (.inr (.inr (.inr (.inr rfl))))) b o x t ht h) (Ay [])
theorem W9 (n : Fl) (b o : D) (x y : Fr) (t u : List UInt8) (ht : t.length ≤ 1000000) (h : Be x n t = some (y, u)) : Dk Tryz.prog (rdF n) 1 (.ptr 0 0 :: rdC n) [.c 0 0 (A6 b o x t)] 1 (.ret (.tup [])) [.c 0 0 (A6 (if n = .bs then Y3 y.bs else b) (if n = .os then YF y.os else o) y u)] 1 := by
 cases n
 case bs => exact Adg b o x y t u ht h
 case os => exact Adf b o x y t u ht h
 case v => exact AbH _ (.inl rfl) b o x y t u ht h
 case w => exact AbH _ (.inr rfl) b o x y t u ht h
 case si => exact ZL _ (.inl rfl) b o x y t u ht h
 case ix => exact ZL _ (.inr (.inl rfl)) b o x y t u ht h
 case my => exact ZL _ (.inr (.inr rfl)) b o x y t u ht h
 case ep => exact Sk _ (.inl rfl) b o x y t u ht h
 case sn => exact Sk _ (.inr (.inl rfl)) b o x y t u ht h
 case fl => exact Sk _ (.inr (.inr (.inl rfl))) b o x y t u ht h
 case fq => exact Sk _ (.inr (.inr (.inr (.inl rfl)))) b o x y t u ht h
 case pr => exact Sk _ (.inr (.inr (.inr (.inr (.inl rfl))))) b o x y t u ht h
 case tl => exact Sk _ (.inr (.inr (.inr (.inr (.inr rfl))))) b o x y t u ht h
theorem Rd {n : Fl} {x y : Fr} {t u : List UInt8} (h : Be x n t = some (y, u)) : (n ≠ .bs → y.bs = x.bs) ∧ (n ≠ .os → y.os = x.os) ∧ u.length ≤ t.length := by
 refine ⟨fun hn => ?_, fun hn => ?_, ?_⟩
 ·have := (N1 h).2.2 .bs (fun e => hn e.symm)
  cases n <;> first | exact absurd rfl hn | (simp only [Be, Option.map_eq_some_iff] at h; obtain ⟨p, _, h2⟩ := h; cases h2; rfl) | (simp only [Be] at h; split at h <;> first | (cases h; rfl) | cases h)
 ·cases n <;> first | exact absurd rfl hn | (simp only [Be, Option.map_eq_some_iff] at h; obtain ⟨p, _, h2⟩ := h; cases h2; rfl) | (simp only [Be] at h; split at h <;> first | cases h | (split at h <;> first | (cases h; rfl) | cases h))
 ·have := congrArg List.length (N1 h).1
  rw [List.length_append] at this; omega
theorem XB {o : A5} (h : Dr o = true) : o.px.length ≤ 1000000 := by
 obtain ⟨_, _, hp, _, _, hs, _⟩ := FS h
 by_cases k6 : o.k = 6
 ·obtain ⟨h1, h2, h3⟩ := KT (hs k6)
  simp only [BQ, Bool.and_eq_true, decide_eq_true_eq] at h1 h2
  have : o.px.length ≤ 8 * 8 := by rw [h3]; exact Nat.mul_le_mul (show o.w.toNat ≤ 8 by omega) (show o.h.toNat ≤ 8 by omega)
  omega
 ·have := congrArg (fun z : A5 => z.px.length) hp
  simp [BL, k6] at this
  omega
theorem Xg {n : Fl} {x y : Fr} {t u : List UInt8} (h : Be x n t = some (y, u)) (hx : ∀ o ∈ x.os, Dr o = true) : ∀ o ∈ y.os, Dr o = true := by
 by_cases hn : n = .os
 ·subst hn
  simp only [Be] at h
  split at h
  ·cases h
  ·rename_i l r hr; cases h; exact (N0 hr).1
 ·rw [(Rd h).2.1 hn]; exact hx
def bOk (b : D) (l : List UInt8) : Prop := (b = EH ∧ l = []) ∨ b = Y3 l
def oOk (o : D) (l : List A5) : Prop := (o = EH ∧ l = []) ∨ o = YF l
theorem V9 {b : D} {l : List UInt8} (h : bOk b l) : BT (.d b) = true := by rcases h with ⟨rfl, _⟩ | rfl <;> rfl
theorem U9 {o : D} {l : List A5} (h : oOk o l) : BT (.d o) = true := by rcases h with ⟨rfl, _⟩ | rfl <;> rfl
theorem Si : VM Tryz.prog 59 1 [.ptr 0 0] [.c 0 0 (A6 EH EH Fr.zero [])] 1 (Uj []) := by
 have c1 := NK EH EH Fr.zero [] 1 (by simp)
 simp only [A6, Do, List.map_cons, List.map_nil, List.cons_append, List.nil_append, Int.cast_ofNat_Int] at c1 ⊢
 refine Abk fun B M => ?_
 repeat' (first | refine HJ 2 (by kernel_rfl) ?_ | refine Ai ?_ | refine Ah ?_ | refine nc ?_ ?_ | (with_reducible intro _ <;> (try (exfalso; omega))) | refine Aa ?_ | (refine nd ?_ ?_ <;> intro hg <;> first | exact xo hg | rw [hg]))
 repeat' (first | refine Bc ?_ | refine DO ?_ | refine CJ ?_ | refine BJ ?_ | refine CQ ?_)
 refine Nd (.d (AK 0)) (fun tmX => ?_) ?_
 ·repeat' (first | refine Ai ?_ | (refine As ?_; first | refine Am [(0, none)] c1 ?_) | refine Ah ?_ | refine nc ?_ ?_ | (with_reducible intro _ <;> (try (exfalso; omega))) | refine Aa ?_ | (refine nd ?_ ?_ <;> intro hg <;> first | exact xo hg | rw [hg]))
  refine Kt ?_
  repeat' (first | refine Ai ?_ | refine Ah ?_ | refine nc ?_ ?_ | (with_reducible intro _ <;> (try (exfalso; omega))) | refine Aa ?_ | (refine nd ?_ ?_ <;> intro hg <;> first | exact xo hg | rw [hg]))
  exact Kp rfl (Ay [])
 ·repeat' (first | exact IK | refine Bc ?_ | refine DO ?_ | refine CJ ?_ | refine BJ ?_ | refine CQ ?_)
theorem W7 (k : UInt8) (c : List UInt8) (hc : c.length ≤ 900000) : VM Tryz.prog 59 1 [.ptr 0 0] [.c 0 0 (A6 EH EH Fr.zero (k :: c))] 1 (Uj (k :: c)) := by
 have c1 := OX EH EH Fr.zero (k :: c) 1 (by omega) (by simp) (by simp; omega)
 have hk : AV ((k :: c).take 1) = k.toNat := by simp [AV]
 rw [hk, show (k :: c).drop 1 = c from rfl] at c1
 have hk8 := k.toNat_lt
 simp only [A6, Do, List.map_cons, List.map_nil, List.cons_append, List.nil_append, Int.cast_ofNat_Int] at c1 ⊢
 refine Zf fun B M => ?_
 refine G8 (FY ?_)
 repeat' (first | refine Ai ?_ | refine Ah ?_ | refine nc ?_ ?_ | (with_reducible intro _ <;> (try (exfalso; omega))) | refine Aa ?_ | (refine nd ?_ ?_ <;> intro hg <;> first | exact xo hg | rw [hg]))
 refine DJ (G8 (FY ?_))
 repeat' (first | refine D5 (by kernel_rfl) ?_ | refine Ai ?_ | refine Ah ?_ | refine nc ?_ ?_ | (with_reducible intro _ <;> (try (exfalso; omega))) | refine Aa ?_ | (refine nd ?_ ?_ <;> intro hg <;> first | exact xo hg | rw [hg]))
 repeat' (first | refine Bc ?_ | refine DO ?_ | refine CJ ?_ | refine BJ ?_ | refine CQ ?_)
 refine KL (v := ?_) (st' := ?_) (nb' := ?_) (fun tmX => ?_) ?_ ?_
 rotate_left 3
 ·repeat' (first | refine Ai ?_ | (refine As ?_; first | refine Am [(0, none)] c1 ?_) | refine Ah ?_ | refine nc ?_ ?_ | (with_reducible intro _ <;> (try (exfalso; omega))) | refine Aa ?_ | (refine nd ?_ ?_ <;> intro hg <;> first | exact xo hg | rw [hg]))
  exact Db
 ·repeat' (first | refine Bc ?_ | refine DO ?_ | refine CJ ?_ | refine BJ ?_ | refine CQ ?_)
  refine DJ (G8 (G8 (FY ?_)))
  repeat' (first | refine Ai ?_ | (refine As ?_; first | refine Ae 51 fun _ => ?_) | refine Ah ?_ | refine nc ?_ ?_ | (with_reducible intro _ <;> (try (exfalso; omega))) | refine Aa ?_ | (refine nd ?_ ?_ <;> intro hg <;> first | exact xo hg | rw [hg]))
  refine DJ (Oi (Tj Tryz.func59 fun Lp TT hOk hfn => ?_))
  refine CI fun M2 => ?_
  have cf := JI
  have co := OV k.toNat
  have hI := fun n => Bp n
  have hL := fun n => Cb n
  have hl : (Co.map Fv).length = 13 := rfl
  have hdl : CO (Co.map Fv) (Co.map Fv) := inferInstance
  generalize Co.map Fv = L at *
  haveI : CO L L := hdl
  repeat' (first | refine Ai ?_ | (refine As ?_; first | refine cz (cf) ?_ | refine cz (co) ?_) | refine Ah ?_ | refine nc ?_ ?_ | (with_reducible intro _ <;> (try (exfalso; omega))) | refine Aa ?_ | (refine nd ?_ ?_ <;> intro hg <;> first | exact xo hg | rw [hg]))
  have hnl := LA (Bb k.toNat)
  have hrd : G0 (k :: c) = match F6 (Bb k.toNat) { Fr.zero with k := k.toNat } c with | some (f, []) => if GK f then some f else none | _ => none := rfl
  generalize Bb k.toNat = ns at *
  clear cf co c1 hk
  refine Bo 10 ns (fun n => [Je n]) (fun (i : Nat) (z : D × D × Fr × List UInt8) => ⟨[(12, I .i64 i), (11, I .i64 (Fa ns).length), (10, .d (.sl false true (Fa ns))), (3, .d (.sl false true L)), (0, .yl 3), (1, .ptr 2 0)], [.y 3 (some Lp) TT [(36, .yl 3), (1, .ptr 1 0)], .c 2 0 [.d (An k.toNat)], .c 1 0 [.ptr 0 0], .c 0 0 (A6 z.1 z.2.1 z.2.2.1 z.2.2.2)], 4⟩)
     (fun i z => F6 ns { Fr.zero with k := k.toNat } c = F6 (ns.drop i) z.2.2.1 z.2.2.2 ∧ bOk z.1 z.2.2.1.bs ∧ oOk z.2.1 z.2.2.1.os ∧ z.2.2.2.length ≤ 900000 ∧ ∀ o ∈ z.2.2.1.os, Dr o = true) (EH, EH, { Fr.zero with k := k.toNat }, c) (AE) ⟨rfl, .inl ⟨rfl, rfl⟩, .inl ⟨rfl, rfl⟩, hc, fun o ho => by cases ho⟩ (fun i y x hT hi hx hx' hlt hlm hlen hdr => ?_) (fun y hT hlt hlm => ?_)
  ·obtain ⟨b, o, z, t⟩ := y
   obtain ⟨hT, hb, ho, htl, hop⟩ := hT
   dsimp only at hT hb ho htl hop ⊢
   have hb1 := V9 hb
   have ho1 := U9 ho
   rw [hdr] at hT
   simp only [F6] at hT
   have iI := hI x
   have lL := hL x
   rw [E9] at iI
   clear hdr hdl
   cases hr : Be z x t with
   | none =>
    have c1 := Xa x b o z t (by omega) hr
    rw [hr] at hT
    rw [hT] at hrd
    clear hr hT hb ho hop
    cases x
    all_goals
     simp only [rdF, rdC, Je, Fl.nm, Fl.no, Fv, Ii, Ih, FU, N8, Int.cast_ofNat_Int, A6, Do, List.map_cons, List.map_nil, List.cons_append, List.nil_append] at c1 iI lL hx' ⊢
     repeat' (first | refine Ai ?_ | (refine As ?_; first | refine AT (by assumption) fun _ _ => ?_ | refine cz (iI) ?_ | refine Am [(0, none)] c1 ?_) | refine Ah ?_ | refine nc ?_ ?_ | (with_reducible intro _ <;> (try (exfalso; omega))) | refine Aa ?_ | (refine nd ?_ ?_ <;> intro hg <;> first | exact xo hg | rw [hg]) | refine DJ (FY ?_) | refine Qf ?_)
     exact Kp hrd (Ay [])
   | some p =>
    obtain ⟨y, u⟩ := p
    have c1 := W9 x b o z y t u (by omega) hr
    have hop2 := Xg hr hop
    obtain ⟨k1, k2, k3⟩ := Rd hr
    rw [hr] at hT
    have hb2 : bOk (if x = .bs then Y3 y.bs else b) y.bs := by
     split
     ·exact .inr rfl
     ·rename_i hne; rw [k1 hne]; exact hb
    have ho2 : oOk (if x = .os then YF y.os else o) y.os := by
     split
     ·exact .inr rfl
     ·rename_i hne; rw [k2 hne]; exact ho
    clear k1 k2 hr hrd hb ho hop
    cases x
    all_goals
     simp only [rdF, rdC, Je, Fl.nm, Fl.no, Fv, Ii, Ih, FU, N8, reduceCtorEq, if_false, if_true, Int.cast_ofNat_Int, A6, Do, List.map_cons, List.map_nil, List.cons_append, List.nil_append] at c1 iI lL hb2 ho2 hx' ⊢
     repeat' (first | refine Ai ?_ | (refine As ?_; first | refine AT (by assumption) fun _ _ => ?_ | refine cz (iI) ?_ | refine Am [(0, none)] c1 ?_) | refine Ah ?_ | refine nc ?_ ?_ | (with_reducible intro _ <;> (try (exfalso; omega))) | refine Aa ?_ | (refine nd ?_ ?_ <;> intro hg <;> first | exact xo hg | rw [hg]) | refine DJ (FY ?_) | refine Qf ?_)
     refine Bd (_, _, y, u) hi ⟨hT, hb2, ho2, by dsimp only; omega, hop2⟩ (AE)
  ·obtain ⟨b, o, x, t⟩ := y
   obtain ⟨hT, hb, ho, htl, hop⟩ := hT
   dsimp only at hT hb ho htl hop ⊢
   rw [List.drop_of_length_le (Nat.le_refl _)] at hT
   simp only [F6] at hT
   rw [hT] at hrd
   have htn := Av t
   have cc := EJ x fun o ho => XB (hop o ho)
   clear hI hL hl hdl hT
   cases t with
   | cons u t =>
    have hrd : G0 (k :: c) = none := hrd
    have hne : (AG (u :: t)).length ≠ 0 := by rw [htn]; simp
    clear cc hb ho
    repeat' (first | refine Ai ?_ | (refine As ?_; first | (refine AJ (A3 0) ?_; first | refine Ag (A3 0) ?_ | refine Ao (CL 0) ?_ | (refine Aj (A9 _ 0) ?_ ?_ <;> intro _ <;> (try (exfalso; omega))) | (refine Ap (A9 _ 0) ?_ ?_ <;> intro _))) | refine Ah ?_ | refine nc ?_ ?_ | (with_reducible intro _ <;> (try (exfalso; omega))) | refine Aa ?_ | (refine nd ?_ ?_ <;> intro hg <;> first | exact xo hg | rw [hg]) | refine DJ (FY ?_))
    all_goals first | exact Kp hrd (Ay []) | (exfalso; omega) | trace_state
   | nil =>
    have hrd : G0 (k :: c) = if GK x then some x else none := hrd
    have hz : (AG []).length = 0 := rfl
    cases hf : GK x with
    | false =>
     rw [hf] at hrd cc
     simp only [Bool.false_eq_true, if_false] at hrd cc
     rcases hb with ⟨rfl, hb⟩ | rfl <;> rcases ho with ⟨rfl, ho⟩ | rfl
     all_goals
      simp only [Cc, Dn, Do, A6, *, AG, List.map_nil, List.map_cons, List.cons_append, List.nil_append] at cc ⊢
      repeat' (first | refine Ai ?_ | (refine As ?_; first | (refine AJ (A3 0) ?_; first | refine Ag (A3 0) ?_ | refine Ao (CL 0) ?_ | (refine Aj (A9 _ 0) ?_ ?_ <;> intro _ <;> (try (exfalso; omega))) | (refine Ap (A9 _ 0) ?_ ?_ <;> intro _)) | refine cz (cc) ?_) | refine Ah ?_ | refine nc ?_ ?_ | (with_reducible intro _ <;> (try (exfalso; omega))) | refine Aa ?_ | (refine nd ?_ ?_ <;> intro hg <;> first | exact xo hg | rw [hg]) | refine DJ (FY ?_))
     all_goals first | exact Kp hrd (Ay []) | (exfalso; omega) | trace_state
    | true =>
     rw [hf] at hrd cc
     simp only [if_true] at hrd cc
     rcases hb with ⟨rfl, hb⟩ | rfl <;> rcases ho with ⟨rfl, ho⟩ | rfl
     all_goals
      simp only [Cc, Dn, Do, A6, *, AG, List.map_nil, List.map_cons, List.cons_append, List.nil_append] at cc ⊢
      repeat' (first | refine Ai ?_ | (refine As ?_; first | (refine AJ (A3 0) ?_; first | refine Ag (A3 0) ?_ | refine Ao (CL 0) ?_ | (refine Aj (A9 _ 0) ?_ ?_ <;> intro _ <;> (try (exfalso; omega))) | (refine Ap (A9 _ 0) ?_ ?_ <;> intro _)) | refine cz (cc) ?_) | refine Ah ?_ | refine nc ?_ ?_ | (with_reducible intro _ <;> (try (exfalso; omega))) | refine Aa ?_ | (refine nd ?_ ?_ <;> intro hg <;> first | exact xo hg | rw [hg]) | refine DJ (FY ?_))
     all_goals first | (refine W8 hrd ?_; simp only [A6, Do, Y3, YF, *, AG, List.map_nil, List.map_cons, List.cons_append, List.nil_append]; exact A8 []) | (exfalso; omega) | trace_state
 ·repeat' (first | exact trivial | exact rfl | refine ⟨?_, ?_⟩)

set_option maxRecDepth 20000
set_option maxHeartbeats 4000000
def Acv (post : R → Prop) (r : RC) (st : List E) (_ : Nat) : Prop :=
 match r with
 | .ret v => ∃ d, OI st v = some d ∧ post (.ret d)
 | .panic v => ∃ d, OI st v = some d ∧ post (.panic d)
theorem Ta {P : Program} {f : FuncId} {ds : List D} {post : R → Prop} (h : ∀ B, VC P f B (ds.map .d) [] 0 (Acv post)) : VP P f ds post := by
 refine ⟨(h 0).1, ?_⟩
 intro U w us hus
 let g0 : G := ⟨fun b => ¬ U b ∧ b < w.heap.size, fun _ => none, fun _ => none, fun _ _ => none, fun _ => False, fun _ h => h.elim⟩
 have hp0 : ∀ b, g0.prot b ↔ U b ∨ w.heap.size ≤ b := fun b => by
  simp only [G.prot, G.own, g0]
  constructor
  ·intro h
   by_cases hU : U b
   ·exact .inl hU
   ·exact .inr (Nat.le_of_not_lt fun hlt => h (.inl ⟨hU, hlt⟩))
  ·rintro h (⟨h1, h2⟩ | ⟨k, hk⟩ | ⟨k, hk⟩)
   ·rcases h with h | h
    ·exact h1 h
    ·omega
   ·cases hk
   ·cases hk
 have hs : AC w.heap.size g0 w [] := ⟨fun h => by simp [Aq] at h, fun h => by simp [Az] at h, fun h => by simp [Au] at h⟩
 have hi : CG w.heap.size 0 g0 w := ⟨fun h => by simp [g0] at h, fun h => by simp [g0] at h, fun h => by simp [g0] at h, fun h => by simp [g0] at h, fun h => by simp [g0] at h, fun h => by simp [g0] at h, fun h => h.2, fun h => by simp [g0] at h, fun h => by simp [g0] at h, fun h => h.elim, Nat.le_refl _⟩
 have hvs : ∀ {ds : List D} {us : List Value}, dreps w.heap.size U w ds us → vreps w.heap.size g0 w (ds.map .d) us := by
  intro ds
  induction ds with
  | nil => intro us h; simpa [vreps, dreps] using h
  | cons d ds ih =>
   intro us h
   simp only [dreps] at h
   obtain ⟨y, ys, e, k1, k2⟩ := h
   subst e
   simp only [List.map_cons, vreps]
   refine ⟨y, ys, rfl, ?_, ih k2⟩
   simp only [vrep]
   exact A4 (Nat.le_refl _) (fun b _ hb => ⟨(hp0 b).2 (.inl hb), rfl⟩) k1
 refine ((h w.heap.size).2 g0 w us hs hi (hvs hus)).mono ?_
 rintro e w' ⟨g', st', nb', r, hE, hS', hi', hr, hq⟩
 have hB : Below w.heap.size w w' := ⟨hE.os, hE.tape, hE.output, hE.size, fun b hb => by
  by_cases hU : U b
  ·exact (hE.blk b hb ((hp0 b).2 (.inl hU))).2
  ·exact hE.exblk b ⟨hU, hb⟩⟩
 have hex : ∀ b, ¬ g'.ex b ∨ g'.pl b → U b ∨ w.heap.size ≤ b := fun b hb => by
  rcases hb with hb | hb
  ·by_cases hU : U b
   ·exact .inl hU
   ·exact .inr (Nat.le_of_not_lt fun hlt => hb (hE.ex b ⟨hU, hlt⟩))
  ·exact .inr (hi'.plB hb)
 refine ⟨hB, ?_⟩
 cases r with
 | ret v =>
  obtain ⟨d, hd, hp⟩ := hq
  obtain ⟨u, hu, k⟩ := hr
  exact ⟨_, hp, u, hu, Fg hi' hS' hex hd k⟩
 | panic v =>
  obtain ⟨d, hd, hp⟩ := hq
  obtain ⟨u, hu, k⟩ := hr
  exact ⟨_, hp, u, hu, Fg hi' hS' hex hd k⟩
theorem TB {P : Program} {cx : Cx} {s : St} {t ty : TypeId} {x y : Operand} {k off : Nat} {ag : Bool} {z : List Value} {v : V} [hT : BE P t ag 0 z] (hx : Af s x = some (.ptr k off)) (hy : Af s y = some v) (hv : Bt v = some []) :
  Y5 P cx (.store t x y) ty s s.st s.nb := fun g a w hS => by
 have hx' := hS.eval hx
 simp only [vrep] at hx'
 obtain ⟨b, hb, hx'⟩ := hx'
 have hus := CC hv (hS.eval hy)
 have hl : (a.eval y).cells.toList = [] := by simpa [vreps] using hus
 obtain ⟨i, zv, h3, h4, _, _⟩ := hT.size
 have hs : (a.eval y).cells.size = i.size := by rw [h4]; simpa using congrArg List.length hl
 refine ⟨g, w, ?_, BZ.refl _ _ _, hS.st, hS.inv⟩
 have he : (a.eval y).cells = #[] := Array.toList_inj.1 (by simpa using hl)
 simp [execOp, hx', Instr.storeAt, Instr.sureAddr, storeVar, sizeOf, typeInfo, h3, hs.symm, he, storeCells]
theorem Jp {P : Program} {cx : Cx} {ops rest : List Oper} {tm : List (Nat × V)} {st : List E} {nb : Nat} {Q : VE → St → Prop} {t ty : TypeId} {x y : Operand} {pos : String} {af : Array Edge} {gd : Option (Nat × Bool)} {k off : Nat} {ag : Bool} {z : List Value} {v : V} [hT : BE P t ag 0 z] (kk : VL P cx ops rest ⟨tm, st, nb⟩ Q)
  (hx : Af ⟨tm, st, nb⟩ x = some (.ptr k off) := by rfl) (hy : Af ⟨tm, st, nb⟩ y = some v := by rfl) (hv : Bt v = some [] := by rfl)
  (hw : Wd ops tm gd := by first | exact trivial | exact A1 rfl rfl (by with_reducible rfl)) : VL P cx ops (⟨none, .store t x y, ty, pos, af, gd⟩ :: rest) ⟨tm, st, nb⟩ Q := Zh (TB hx hy hv) hw rfl kk

theorem OA {w : World} {b off : Nat} {rcs : Array Value} {ty : TypeId} {fz : Nat × Nat} {u : Value} (hb : w.heap[b]? = some (.cells rcs ty fz)) : w.setCell ⟨b, off, none⟩ u = w.setRow b (rcs.setIfInBounds off u) := by
 have hlt : b < w.heap.size := (Array.getElem?_eq_some_iff.1 hb).1
 have hv : w.heap[b] = .cells rcs ty fz := (Array.getElem?_eq_some_iff.1 hb).2
 unfold World.setCell World.setRow
 congr 1
 apply Array.ext_getElem?
 intro i
 by_cases hi : i = b
 ·subst hi
  simp [Array.getElem?_modify, hb]
 ·simp [Array.getElem?_modify, Ne.symm hi]
theorem F0 {B k off : Nat} {g : G} {w : World} {st : List E} {d : D} (hS : AC B g w st) (hc : Aq k off st = some (.d d)) : ∃ b u, g.bx k = some b ∧ w.cell? ⟨b, off, none⟩ = some u ∧ w.frozen? ⟨b, off, none⟩ = false ∧ vrep B g w (.d d) u := by
 obtain ⟨b, rcs, ty, u, h1, h2, h3, h4⟩ := hS.cell hc
 refine ⟨b, u, h1, ?_, ?_, h4⟩
 ·simp [World.cell?, h2, h3]
 ·simp [World.frozen?, h2]
theorem KV {B nb k off : Nat} {g : G} {w : World} {st : List E} {old : V} {u : Value} {d : D} (hS : AC B g w st) (hi : CG B nb g w) (hc : Aq k off st = some old) (_ : BT (.d d) = true) (hu : vrep B g w (.d d) u) {b : Nat} (hb : g.bx k = some b) :
  BZ B g w g (w.setCell ⟨b, off, none⟩ u) ∧ CG B nb g (w.setCell ⟨b, off, none⟩ u) ∧ AC B g (w.setCell ⟨b, off, none⟩ u) (.c k off [.d d] :: st) := by
 obtain ⟨b', rcs, ty, u0, k1, k2, k3, k4⟩ := hS.cell hc
 rw [hb] at k1; cases k1
 have hlt : off < rcs.size := (Array.getElem?_eq_some_iff.1 k3).1
 rw [OA k2]
 have hg := Cj w b (rcs.setIfInBounds off u)
 have hE := BZ.of_grown (B := B) hi hg (.inl ⟨k, hb⟩)
 have hnew := setRow_heap w b rcs (rcs.setIfInBounds off u) ty (0, 0) k2
 refine ⟨hE, hi.evo (by simp), ⟨fun {k' o' x} hx => ?_, fun {k' o nw ver e sz' l} hr => ?_, fun {k' r T tm0} hl => ?_⟩⟩
 ·have hbase : Aq k' o' st = some x → (k' = k → o' ≠ off) → ∃ b1 rcs1 ty1 u1, g.bx k' = some b1 ∧ (w.setRow b (rcs.setIfInBounds off u)).heap[b1]? = some (.cells rcs1 ty1 (0, 0)) ∧ rcs1[o']? = some u1 ∧ vrep B g (w.setRow b (rcs.setIfInBounds off u)) x u1 := by
   intro hc0 hout
   obtain ⟨b1, rcs1, ty1, u1, m1, m2, m3, m4⟩ := hS.cell hc0
   by_cases e : k' = k
   ·subst e
    rw [hb] at m1; cases m1
    rw [k2] at m2; cases m2
    exact ⟨b, _, _, u1, hb, hnew, by rw [Array.getElem?_setIfInBounds_ne (Ne.symm (hout rfl))]; exact m3, hE.vrep m4⟩
   ·exact ⟨b1, rcs1, ty1, u1, m1, (setRow_other w b b1 _ (fun e2 => e (hi.bxinj m1 (e2 ▸ hb)))).trans m2, m3, hE.vrep m4⟩
  simp only [Aq] at hx
  split at hx
  ·rename_i hk
   have := Nat.eq_of_beq_eq_true hk
   subst this
   split at hx
   ·rename_i ho
    have ho := Nat.le_of_ble_eq_true ho
    split at hx
    ·rename_i v' hv'
     cases hx
     have hj := (List.getElem?_eq_some_iff.1 hv').1
     simp only [List.length_cons, List.length_nil] at hj
     have e : o' = off := by omega
     subst e
     simp at hv'
     subst hv'
     exact ⟨b, _, _, u, hb, hnew, by rw [Array.getElem?_setIfInBounds_self_of_lt hlt], hE.vrep hu⟩
    ·rename_i hv'
     have := List.getElem?_eq_none_iff.1 hv'
     simp only [List.length_cons, List.length_nil] at this
     exact hbase hx fun _ => by omega
   ·rename_i ho
    exact hbase hx fun _ => by
     intro e; subst e; have := Nat.ble_eq_true_of_le (Nat.le_refl o'); simp_all
  ·rename_i hk
   exact hbase hx fun e => by subst e; rw [Nat.beq_refl] at hk; cases hk
 ·simp only [Az] at hr
  exact hS.keepRow hE hg rfl rfl (fun b2 hb2 e => by cases e; exact hi.apart hb hb2) hr
 ·simp only [Au] at hl
  obtain ⟨h1, h2⟩ := hS.loop hl
  refine ⟨fun lp e => let ⟨b2, m1, m2⟩ := h1 lp e; ⟨b2, m1, (hg.block b2 (hi.bxlt m1).1 fun e => ?_).trans m2⟩, fun ht => hE.vrep (h2 ht)⟩
  cases e; rw [k2] at m2; cases m2
theorem VT {B nb : Nat} {g : G} {w : World} {st : List E} (hS : AC B g w st) (hi : CG B nb g w) : BZ B g w g w.drew ∧ CG B nb g w.drew ∧ AC B g w.drew st := by
 have hE : BZ B g w g w.drew := ⟨rfl, rfl, rfl, Nat.le_refl _, fun h => h, fun h => h, fun _ _ h => ⟨h, rfl⟩, fun _ h => h, fun _ _ => rfl, .refl⟩
 have C : Pq w w.drew := ⟨fun _ _ _ _ _ => rfl, fun _ _ _ => rfl⟩
 exact ⟨hE, hi.evo (w' := w.drew) (Nat.le_refl _), De C hS⟩

theorem U8 (w : World) : (callFunc 342 #[]).run Tryz.prog w = .ok (.value (.tuple #[])) w := run_call_mark0 Tryz.func342 (by kernel_rfl) (by kernel_rfl) (by kernel_rfl) .disable (by kernel_rfl) w
theorem YI (w : World) : (callFunc 344 #[]).run Tryz.prog w = .ok (.value (.tuple #[])) w := run_call_mark0 Tryz.func344 (by kernel_rfl) (by kernel_rfl) (by kernel_rfl) .enable (by kernel_rfl) w
theorem Aad (a : Addr) (w : World) : (callFunc 345 #[.pointer (some a)]).run Tryz.prog w = .ok (.value (.tuple #[])) w := run_call_marked Tryz.func345 (by kernel_rfl) (by kernel_rfl) (by kernel_rfl) .acquire (by kernel_rfl) a w
theorem Aac (a : Addr) (w : World) : (callFunc 347 #[.pointer (some a)]).run Tryz.prog w = .ok (.value (.tuple #[])) w := run_call_marked Tryz.func347 (by kernel_rfl) (by kernel_rfl) (by kernel_rfl) .releaseMerge (by kernel_rfl) a w
theorem U6 (a : Addr) (x : Value) (u : FrameMode) (w : World) (hc : w.cell? a = some x) (hz : w.frozen? a = false) :
  CallsD Tryz.prog 276 #[.pointer (some a), .bool true] u w fun e u' w' => u' = u ∧ (e = .returned (.tuple #[]) ∧ w' = w.drew.setCell a (.int .u32 1)) := by
 have hc' : w.drew.cell? a = some x := by go_simp
 have hz' : w.drew.frozen? a = false := by go_simp
 have hst := run_call_store (P := Tryz.prog) Tryz.func313 (by kernel_rfl) (by kernel_rfl) (by kernel_rfl) (by kernel_rfl) (k := .u32) (y := 1) hc' hz'
 go_enter_d Tryz.func276, Tryz.ntmps276
 go_wp2
 go_region_calls
 all_goals (go_end0; exact ⟨rfl, rfl⟩)
theorem Su (a : Addr) (u : FrameMode) (w : World) (hc : w.cell? a = some (.int .i32 1)) (hz : w.frozen? a = false) :
  CallsD Tryz.prog 275 #[.pointer (some a)] u w fun e u' w' => u' = u ∧ (e = .returned (.tuple #[]) ∧ w' = w.setCell a (.int .i32 0)) := by
 have hd := U8
 have he := YI
 have hr := Aac
 have hadd := run_call_add (P := Tryz.prog) Tryz.func348 (by kernel_rfl) (by kernel_rfl) (by kernel_rfl) .i32 (by kernel_rfl) (y := -1) (s := 0) hc hz (by simp [go_sem]; rfl)
 have hcv := run_convert_to_unsafe (P := Tryz.prog) (src := 425) (dst := 197) Tryz.underlying425 Tryz.underlying197 (by kernel_rfl) hc
 go_enter_d Tryz.func275, Tryz.ntmps275
 go_wp2
 go_end0
 go_wp2
 go_end0
 exact ⟨rfl, rfl⟩
theorem XG (a : Addr) (w : World) (hc : w.cell? a = some (.int .i32 0)) (hz : w.frozen? a = false) :
  Calls Tryz.prog 274 #[.pointer (some a)] w fun e w' => e = .returned (.tuple #[]) ∧ w' = w.setCell a (.int .i32 1) := by
 have hd := U8
 have he := YI
 have ha := Aad
 have hcas := run_call_cas_hit (P := Tryz.prog) Tryz.func343 (by kernel_rfl) (by kernel_rfl) (by kernel_rfl) .i32 (by kernel_rfl) (y := 1) hc hz
 have hc' : (w.setCell a (.int .i32 1)).cell? a = some (.int .i32 1) := World.cell?_setCell_same w a _ hc
 have hcv := run_convert_to_unsafe (P := Tryz.prog) (src := 425) (dst := 197) Tryz.underlying425 Tryz.underlying197 (by kernel_rfl) hc'
 go_enter Tryz.func274, Tryz.ntmps274
 go_wp2
 first | go_end0 | (simp only [Exit.inBlock, Exit.then]; refine bodyPost_ret (results_none rfl _ _ _) rfl ?_) | refine bodyPost_ret (results_none rfl _ _ _) rfl ?_
 go_wp2
 go_end0
 exact ⟨rfl, rfl⟩
set_option maxRecDepth 100000 in
set_option maxHeartbeats 1600000 in
theorem XF (b off : Nat) (pl : Value) (w : World) (R : World → Prop)
  (h0 : w.cell? ⟨b, off, none⟩ = some (.int .u32 0)) (h1 : w.cell? ⟨b, off + 1, none⟩ = some (.int .i32 0)) (_f0 : w.frozen? ⟨b, off, none⟩ = false) (f1 : w.frozen? ⟨b, off + 1, none⟩ = false)
  (hf : Calls Tryz.prog 233 #[pl] (w.setCell ⟨b, off + 1, none⟩ (.int .i32 1)) fun e w' => e = .returned (.tuple #[]) ∧ w'.cell? ⟨b, off, none⟩ = some (.int .u32 0) ∧ w'.frozen? ⟨b, off, none⟩ = false ∧ w'.cell? ⟨b, off + 1, none⟩ = some (.int .i32 1) ∧ w'.frozen? ⟨b, off + 1, none⟩ = false ∧ R w') :
  Calls Tryz.prog 261 #[.pointer (some ⟨b, off, none⟩), .func (.func 233) #[] #[pl]] w fun e w' => e = .returned (.tuple #[]) ∧ ∃ w2, R w2 ∧ w' = (w2.drew.setCell ⟨b, off, none⟩ (.int .u32 1)).setCell ⟨b, off + 1, none⟩ (.int .i32 0) := by
 have hl := run_call_load (P := Tryz.prog) Tryz.func273 (by kernel_rfl) (by kernel_rfl) (by kernel_rfl) .u32 (by kernel_rfl) (w := w.setCell ⟨b, off + 1, none⟩ (.int .i32 1)) (a := ⟨b, off, none⟩) (x := 0) ((World.cell?_setCell_other _ ⟨b, off + 1, none⟩ ⟨b, off, none⟩ _ (by simp)).trans h0)
 have hnot : ∀ (x : Bool) (w : World), (Op.unary .not (.bool x)).run Tryz.prog w = .ok (.bool (!x)) w := fun _ _ => rfl
 go_enter_defers Tryz.func261, Tryz.ntmps261
 go_wp2_with (first | (go_at_call 274; refine (XG ⟨b, off + 1, none⟩ _ (by go_simp) (by go_simp)).mono ?_; rintro e w' ⟨rfl, rfl⟩) | (go_at_call 233; refine hf.mono ?_; rintro e w2 ⟨rfl, g0, z0, g1, z1, hR⟩) | (go_at_call 260; go_in))
 go_wp2
 refine leaves_cons (f := 276) (args := #[.pointer (some ⟨b, off, none⟩), .bool true]) (by simp) (by simp [go_sem]) ?_
 refine (U6 ⟨b, off, none⟩ (.int .u32 0) .returning _ g0 z0).mono ?_
 rintro e u' w'' ⟨rfl, rfl, rfl⟩
 refine leaves_cons (f := 275) (args := #[.pointer (some ⟨b, off + 1, none⟩)]) (by simp [settle]) (by simp [go_sem]) ?_
 refine (Su ⟨b, off + 1, none⟩ _ _ ?_ (by simp [z1])).mono ?_
 ·refine (World.cell?_setCell_other _ ⟨b, off, none⟩ ⟨b, off + 1, none⟩ _ (by simp)).trans ?_
  rw [World.cell?_drew]
  exact g1
 rintro e u' w'' ⟨rfl, rfl, rfl⟩
 all_goals trace_state
 simp [Leaves, settle, results, Tryz.results261]
 exact ⟨w2, hR, rfl⟩
set_option maxRecDepth 100000 in
set_option maxHeartbeats 1600000 in
theorem U7 (b off : Nat) (pl : Value) (w : World) (R : World → Prop)
  (h0 : w.cell? ⟨b, off, none⟩ = some (.int .u32 0)) (h1 : w.cell? ⟨b, off + 1, none⟩ = some (.int .i32 0)) (f0 : w.frozen? ⟨b, off, none⟩ = false) (f1 : w.frozen? ⟨b, off + 1, none⟩ = false)
  (hf : Calls Tryz.prog 233 #[pl] (w.setCell ⟨b, off + 1, none⟩ (.int .i32 1)) fun e w' => e = .returned (.tuple #[]) ∧ w'.cell? ⟨b, off, none⟩ = some (.int .u32 0) ∧ w'.frozen? ⟨b, off, none⟩ = false ∧ w'.cell? ⟨b, off + 1, none⟩ = some (.int .i32 1) ∧ w'.frozen? ⟨b, off + 1, none⟩ = false ∧ R w') :
  Calls Tryz.prog 232 #[.pointer (some ⟨b, off, none⟩), .func (.func 233) #[] #[pl]] w fun e w' => e = .returned (.tuple #[]) ∧ ∃ w2, R w2 ∧ w' = (w2.drew.setCell ⟨b, off, none⟩ (.int .u32 1)).setCell ⟨b, off + 1, none⟩ (.int .i32 0) := by
 have hl := run_call_load (P := Tryz.prog) Tryz.func273 (by kernel_rfl) (by kernel_rfl) (by kernel_rfl) .u32 (by kernel_rfl) h0
 have hnot : ∀ (x : Bool) (w : World), (Op.unary .not (.bool x)).run Tryz.prog w = .ok (.bool (!x)) w := fun _ _ => rfl
 go_enter Tryz.func232, Tryz.ntmps232
 go_wp2_with (first | (go_at_call 261; refine (XF b off pl _ R h0 h1 f0 f1 hf).mono ?_; rintro e w' ⟨rfl, w2, hR, rfl⟩) | (go_at_call 260; go_in))
 go_end0
 exact ⟨rfl, w2, hR, rfl⟩
set_option maxRecDepth 100000 in
set_option maxHeartbeats 1600000 in
theorem XH (a : Addr) (fv : Value) (w : World) (h0 : w.cell? a = some (.int .u32 1)) :
  Calls Tryz.prog 232 #[.pointer (some a), fv] w fun e w' => e = .returned (.tuple #[]) ∧ w' = w := by
 have hl := run_call_load (P := Tryz.prog) Tryz.func273 (by kernel_rfl) (by kernel_rfl) (by kernel_rfl) .u32 (by kernel_rfl) h0
 have hnot : ∀ (x : Bool) (w : World), (Op.unary .not (.bool x)).run Tryz.prog w = .ok (.bool (!x)) w := fun _ _ => rfl
 go_enter Tryz.func232, Tryz.ntmps232
 go_wp2
 go_end0
 exact ⟨rfl, rfl⟩

abbrev NO (n : Int) : V := .d (.lit (.int .i32 n))
abbrev Bk (n : Int) : V := .d (.lit (.int .u32 n))
theorem XE {B nb nb' k off : Nat} {st st' : List E} {pl : V} {Q : RC → List E → Nat → Prop} (h0 : Aq k off st = some (Bk 0)) (h1 : Aq k (off + 1) st = some (NO 0))
  (hc : VC Tryz.prog 233 B [pl] (.c k (off + 1) [NO 1] :: st) nb (fun r s n => r = .ret (.tup []) ∧ s = st' ∧ n = nb')) (g0 : Aq k off st' = some (Bk 0)) (g1 : Aq k (off + 1) st' = some (NO 1))
  (hq : Q (.ret (.tup [])) (.c k (off + 1) [NO 0] :: .c k off [Bk 1] :: st') nb') : VC Tryz.prog 232 B [.ptr k off, .fn (.func 233) [] [pl]] st nb Q := by
 refine ⟨Bu Tryz.func232 (by kernel_rfl) (by kernel_rfl), fun g w us hS hI hv => ?_⟩
 simp only [vreps, vrep] at hv
 obtain ⟨_, _, rfl, ⟨b, hb, rfl⟩, _, _, rfl, ⟨xs, ys, rfl, rfl, p, _, rfl, hp, rfl⟩, rfl⟩ := hv
 obtain ⟨b0, u0, e0, c0, z0, r0⟩ := F0 hS h0
 rw [hb] at e0; cases e0
 obtain ⟨b1, u1, e1, c1, z1, r1⟩ := F0 hS h1
 rw [hb] at e1; cases e1
 simp only [vrep, drep] at r0 r1
 subst r0 r1
 obtain ⟨E1, I1, S1⟩ := KV (u := .int .i32 1) (d := .lit (.int .i32 1)) hS hI h1 rfl (by simp only [vrep, drep]) hb
 refine (U7 b off p w (fun w2 => ∃ g2, BZ B g w g2 w2 ∧ AC B g2 w2 st' ∧ CG B nb' g2 w2) c0 c1 z0 z1 ?_).mono ?_
 ·refine (hc.2 g _ [p] S1 I1 (by simp only [vreps]; exact ⟨p, [], rfl, E1.vrep hp, rfl⟩)).mono ?_
  rintro e w2 ⟨g2, s2, n2, r, hE, hS2, hI2, hr, rfl, rfl, rfl⟩
  simp only [Hb, vrep, vreps] at hr
  obtain ⟨u, rfl, cs, rfl, rfl⟩ := hr
  obtain ⟨d0, v0, q0, c0', z0', r0⟩ := F0 hS2 g0
  obtain ⟨d1, v1, q1, c1', z1', r1⟩ := F0 hS2 g1
  have hb2 := (E1.trans hE).bx hb
  rw [hb2] at q0 q1
  cases q0; cases q1
  simp only [vrep, drep] at r0 r1
  subst r0 r1
  exact ⟨rfl, c0', z0', c1', z1', g2, E1.trans hE, hS2, hI2⟩
 ·rintro e w' ⟨rfl, w2, ⟨g2, hE, hS2, hI2⟩, rfl⟩
  have hb2 := hE.bx hb
  obtain ⟨D1, D2, D3⟩ := VT hS2 hI2
  obtain ⟨F1, F2, F3⟩ := KV (u := .int .u32 1) (d := .lit (.int .u32 1)) D3 D2 g0 rfl (by simp only [vrep, drep]) hb2
  have g1' : Aq k (off + 1) (.c k off [Bk 1] :: st') = some (NO 1) := by
   simp only [Aq, Nat.beq_refl]
   split
   ·rw [show off + 1 - off = 1 by omega]; simpa using g1
   ·exact g1
  obtain ⟨G1, G2, G3⟩ := KV (u := .int .i32 0) (d := .lit (.int .i32 0)) F3 F2 g1' rfl (by simp only [vrep, drep]) hb2
  exact ⟨g2, _, _, .ret (.tup []), ((hE.trans D1).trans F1).trans G1, G3, G2, by simp only [Hb, vrep, vreps]; exact ⟨_, rfl, [], rfl, rfl⟩, hq⟩
theorem XD {B nb k off : Nat} {st : List E} {fv : V} {Q : RC → List E → Nat → Prop} (h0 : Aq k off st = some (Bk 1)) (hq : Q (.ret (.tup [])) st nb) : VC Tryz.prog 232 B [.ptr k off, fv] st nb Q := by
 refine ⟨Bu Tryz.func232 (by kernel_rfl) (by kernel_rfl), fun g w us hS hI hv => ?_⟩
 simp only [vreps, vrep] at hv
 obtain ⟨_, _, rfl, ⟨b, hb, rfl⟩, u, _, rfl, hu, rfl⟩ := hv
 obtain ⟨b0, u0, e0, c0, z0, r0⟩ := F0 hS h0
 rw [hb] at e0; cases e0
 simp only [vrep, drep] at r0
 subst r0
 refine (XH _ u w c0).mono ?_
 rintro e w' ⟨rfl, rfl⟩
 exact ⟨g, st, nb, .ret (.tup []), BZ.refl _ _ _, hS, hI, by simp only [Hb, vrep, vreps]; exact ⟨_, rfl, [], rfl, rfl⟩, hq⟩

end Go.Proofs.YtbgcjnfhadhjeaaGreat