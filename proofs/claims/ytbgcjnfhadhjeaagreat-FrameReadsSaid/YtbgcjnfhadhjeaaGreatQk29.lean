/- Walks by data and names, part 29: Layer 12, by V: which operations are the same; which may be. Layer 12, by V: which operations may be. Layer 19, by V: an operation's parts, laid. -/
import Derived.Test.YtbgcjnfhadhjeaaGreatQk28
import Derived.Test.YtbgcjnfhadhjeaaGreatQk27
namespace Go.Proofs.YtbgcjnfhadhjeaaGreat
set_option maxRecDepth 20000
open Go.RowKit
set_option maxRecDepth 10000
set_option maxHeartbeats 4000000
theorem YE (a b c d : Int) : decide ([a, b] = [c, d]) = decide (a = c ∧ b = d) := by rw [decide_eq_decide]; simp
theorem Rp (a b : A5) : VP Tryz.prog 48 [.agg (oD a), .agg (oD b)] (· = .ret (.lit (.bool (decide (a = b))))) := by
 have cs := TP a b
 have f1 := RG a
 have f2 := RG b
 have f3 := Yv a
 have f4 := Yv b
 have e1 := O7 a.id b.id
 have e2 := O7 a.tg b.tg
 have e3 := NU a.c b.c
 have e4 := YE a.x a.y b.x b.y
 have e5 := YE a.x2 a.y2 b.x2 b.y2
 have he : a = b ↔ a.id = b.id ∧ a.k = b.k ∧ a.x = b.x ∧ a.y = b.y ∧ a.x2 = b.x2 ∧ a.y2 = b.y2 ∧ a.z = b.z ∧ a.c = b.c ∧ a.w = b.w ∧ a.h = b.h ∧ a.px = b.px ∧ a.tg = b.tg := by cases a; cases b; simp
 simp only [oD, C6] at *
 refine Al fun B => ?_
 repeat' (first | refine Ob (id := 1) ?_ (hk := by first | exact .mk (n := 41) (by decide +kernel) (by kernel_rfl) rfl | exact .mk (n := 42) (by decide +kernel) (by kernel_rfl) rfl | exact .mk (n := 43) (by decide +kernel) (by kernel_rfl) rfl | exact .mk (n := 44) (by decide +kernel) (by kernel_rfl) rfl | exact .mk (n := 45) (by decide +kernel) (by kernel_rfl) rfl | exact .mk (n := 46) (by decide +kernel) (by kernel_rfl) rfl | exact .mk (n := 47) (by decide +kernel) (by kernel_rfl) rfl | exact .mk (n := 48) (by decide +kernel) (by kernel_rfl) rfl) | refine Ai ?_ | (refine As ?_; first | refine cz (cs) ?_ | refine cz (f1) ?_ | refine cz (f2) ?_ | refine cz (f3) ?_ | refine cz (f4) ?_) | refine Ah ?_ | refine nc ?_ ?_ | (with_reducible intro _ <;> (try (exfalso; omega))) | refine Aa ?_ | (refine nd ?_ ?_ <;> intro hg <;> first | exact xo hg | rw [hg]))
 all_goals (clear cs e1 e2 e3 e4 e5 f1 f2 f3 f4; simp only [he, Jv]; simp_all; try simp [Bool.and_assoc])
theorem Ch (_ : Int) : VP Tryz.prog 113 [.lit (.bool true)] (· = .ret (.tup [])) := by
 refine Al fun B => ?_
 repeat' (first | refine Ai ?_ | refine Ah ?_ | refine nc ?_ ?_ | (with_reducible intro _ <;> (try (exfalso; omega))) | refine Aa ?_ | (refine nd ?_ ?_ <;> intro hg <;> first | exact xo hg | rw [hg]))
 all_goals rfl
theorem EF (_ : Int) : VP Tryz.prog 113 [.lit (.bool false)] (· = .panic (GM 220)) := by
 refine Al fun B => ?_
 repeat' (first | refine Ai ?_ | refine Ah ?_ | refine nc ?_ ?_ | (with_reducible intro _ <;> (try (exfalso; omega))) | refine Aa ?_ | (refine nd ?_ ?_ <;> intro hg <;> first | exact xo hg | rw [hg]))
 all_goals rfl
theorem Cw (c : Bool) (e : Int) : VP Tryz.prog 113 [.lit (.bool c)] (· = if c then .ret (.tup []) else .panic (GM 220)) := by
 cases c with
 | true => exact Ch e
 | false => exact EF e
theorem QU (n : Int) : VP Tryz.prog 166 [An n] (· = .ret (.lit (.bool (BQ n)))) := by
 simp only [BQ]
 refine Al fun B => ?_
 repeat' (first | refine Ai ?_ | refine Ah ?_ | refine nc ?_ ?_ | (with_reducible intro _ <;> (try (exfalso; omega))) | refine Aa ?_ | (refine nd ?_ ?_ <;> intro hg <;> first | exact xo hg | rw [hg]))
 all_goals (simp_all; try omega)
theorem TW (o : A5) (_ : o.px.length ≤ 1000000) : VP Tryz.prog 118 [.agg [An o.w, An o.h, Jg o.px]] (· = .ret (An (if QT o then 0 else 190))) := by
 have c1 := QU o.w
 have c2 := QU o.h
 have hpl := EL o.px
 simp only [QT]
 by_cases hs : BQ o.w = true ∧ BQ o.h = true
 ·have h1 := hs.1
  have h2 := hs.2
  simp only [BQ, Bool.and_eq_true, decide_eq_true_eq] at h1 h2
  have hm : 0 ≤ o.w * o.h ∧ o.w * o.h ≤ 64 := ⟨Int.mul_nonneg (by omega) (by omega), by
   have := Int.mul_le_mul h1.2 h2.2 (by omega) (by omega : (0 : Int) ≤ 8); omega⟩
  simp only [hs.1, hs.2, Bool.and_self, Bool.true_and] at c1 c2 ⊢
  refine Al fun B => ?_
  repeat' (first | refine Ai ?_ | (refine As ?_; first | refine cz (c1) ?_ | refine cz (c2) ?_) | refine Ah ?_ | refine nc ?_ ?_ | (with_reducible intro _ <;> (try (exfalso; omega))) | refine Aa ?_ | (refine nd ?_ ?_ <;> intro hg <;> first | exact xo hg | rw [hg]))
  all_goals (simp_all)
 ·have hf : (BQ o.w && BQ o.h) = false := by
   cases e : (BQ o.w && BQ o.h)
   ·rfl
   ·exact (hs (by simpa using e)).elim
  simp only [hf, Bool.false_and, Bool.false_eq_true, if_false]
  generalize BQ o.w = s1 at *
  generalize BQ o.h = s2 at *
  cases s1 <;> cases s2
  all_goals first | (exact absurd hf (by decide)) | skip
  all_goals
   refine Al fun B => ?_
   repeat' (first | refine Ai ?_ | (refine As ?_; first | refine cz (c1) ?_ | refine cz (c2) ?_) | refine Ah ?_ | refine nc ?_ ?_ | (with_reducible intro _ <;> (try (exfalso; omega))) | refine Aa ?_ | (refine nd ?_ ?_ <;> intro hg <;> first | exact xo hg | rw [hg]))
  all_goals rfl

set_option maxRecDepth 20000
set_option maxRecDepth 10000
def U4 (o : A5) : Bool := J1 o.id && decide (1 ≤ o.k) && decide (o.k ≤ 8) && decide (BL o = o)
def XC (o : A5) : Bool := LV o.x && LV o.y && LV o.x2 && LV o.y2 && decide (0 ≤ o.z) && decide (o.z ≤ if o.k = 5 then 1020 else 15) && (decide (o.k ≠ 6) || QT o) && (decide (o.k ≤ 6) || (J1 o.tg && Ib o.tg o.id))
theorem Aaa (o : A5) : Dr o = (U4 o && XC o) := by simp only [Dr, U4, XC, Bool.and_assoc]
theorem Ab3 (o : A5) (hl : o.px.length ≤ 1000000) : VP Tryz.prog 75 [.agg (oD o)] (· = if Dr o then .ret (.tup []) else .panic (GM 220)) := by
 have c1 := O9 o.id
 have c2 := Aax o.k
 have c4 := Rp (BL o) o
 have c5 := TW o hl
 have c6 := O9 o.tg
 have c7 := RB o.tg o.id
 rw [Aaa]
 cases h1 : U4 o with
 | false =>
  simp only [Bool.false_and, Bool.false_eq_true, if_false]
  simp only [U4] at h1
  obtain ⟨z1, e1⟩ : ∃ z : Int, (if J1 o.id then 0 else 210) = z := ⟨_, rfl⟩
  rw [e1] at c1
  rw [show J1 o.id = decide (z1 = 0) by rw [← e1]; cases J1 o.id <;> rfl] at h1
  clear e1
  by_cases hk : 1 ≤ o.k ∧ o.k ≤ 8
  ·have c3 := OT o hk hl
   rw [show (decide (1 ≤ o.k) && decide (o.k ≤ 8)) = true by simp; omega] at c2
   rw [decide_eq_true hk.1, decide_eq_true hk.2, Bool.and_true, Bool.and_true] at h1
   obtain ⟨r3, e3⟩ : ∃ r, decide (BL o = o) = r := ⟨_, rfl⟩
   rw [e3] at c4 h1
   clear e3 c5 c6 c7
   generalize BL o = q at *
   simp only [oD, oM, C6, GJ] at *
   cases r3
   ·refine Al fun B => ?_
    repeat' (first | refine Ai ?_ | (refine As ?_; first | refine cz (c1) ?_ | refine cz (c2) ?_ | refine cz (c3) ?_ | refine cz (c4) ?_ | (refine AJ (Ch 0) ?_; first | refine Ag (Ch 0) ?_ | refine Ao (EF 0) ?_ | (refine Aj (Cw _ 0) ?_ ?_ <;> intro _ <;> (try (exfalso; omega))) | (refine Ap (Cw _ 0) ?_ ?_ <;> intro _))) | refine Ah ?_ | refine nc ?_ ?_ | (with_reducible intro _ <;> (try (exfalso; omega))) | refine Aa ?_ | (refine nd ?_ ?_ <;> intro hg <;> first | exact xo hg | rw [hg]))
    all_goals rfl
   ·have hz : z1 ≠ 0 := by intro h; simp [h] at h1
    refine Al fun B => ?_
    repeat' (first | refine Ai ?_ | (refine As ?_; first | refine cz (c1) ?_ | refine cz (c2) ?_ | refine cz (c3) ?_ | refine cz (c4) ?_ | (refine AJ (Ch 0) ?_; first | refine Ag (Ch 0) ?_ | refine Ao (EF 0) ?_ | (refine Aj (Cw _ 0) ?_ ?_ <;> intro _ <;> (try (exfalso; omega))) | (refine Ap (Cw _ 0) ?_ ?_ <;> intro _))) | refine Ah ?_ | refine nc ?_ ?_ | (with_reducible intro _ <;> (try (exfalso; omega))) | refine Aa ?_ | (refine nd ?_ ?_ <;> intro hg <;> first | exact xo hg | rw [hg]))
    all_goals rfl
  ·rw [show (decide (1 ≤ o.k) && decide (o.k ≤ 8)) = false by simp; omega] at c2
   clear c4 c5 c6 c7
   simp only [oD, C6, GJ] at *
   refine Al fun B => ?_
   repeat' (first | refine Ai ?_ | (refine As ?_; first | refine cz (c1) ?_ | refine cz (c2) ?_ | (refine AJ (Ch 0) ?_; first | refine Ag (Ch 0) ?_ | refine Ao (EF 0) ?_ | (refine Aj (Cw _ 0) ?_ ?_ <;> intro _ <;> (try (exfalso; omega))) | (refine Ap (Cw _ 0) ?_ ?_ <;> intro _))) | refine Ah ?_ | refine nc ?_ ?_ | (with_reducible intro _ <;> (try (exfalso; omega))) | refine Aa ?_ | (refine nd ?_ ?_ <;> intro hg <;> first | exact xo hg | rw [hg]))
   all_goals rfl
 | true =>
  simp only [Bool.true_and]
  simp only [U4, Bool.and_eq_true, decide_eq_true_eq] at h1
  obtain ⟨⟨⟨h1, h2⟩, h3⟩, h4⟩ := h1
  have c3 := OT o ⟨h2, h3⟩ hl
  have c8 := UU o.k ⟨h2, h3⟩
  rw [h4] at c3 c4
  rw [h1] at c1
  rw [show (decide (1 ≤ o.k) && decide (o.k ≤ 8)) = true by simp; omega] at c2
  rw [decide_eq_true rfl] at c4
  clear h4
  obtain ⟨b, hb⟩ : ∃ b, XC o = b := ⟨_, rfl⟩
  rw [hb]
  simp only [XC, LV] at hb
  obtain ⟨z4, e4⟩ : ∃ z : Int, (if QT o then 0 else 190) = z := ⟨_, rfl⟩
  obtain ⟨z5, e5⟩ : ∃ z : Int, (if J1 o.tg then 0 else 210) = z := ⟨_, rfl⟩
  obtain ⟨r6, e6⟩ : ∃ r, Ib o.tg o.id = r := ⟨_, rfl⟩
  rw [e4] at c5
  rw [e5] at c6
  rw [show QT o = decide (z4 = 0) by rw [← e4]; cases QT o <;> rfl] at hb
  rw [show J1 o.tg = decide (z5 = 0) by rw [← e5]; cases J1 o.tg <;> rfl] at hb
  rw [e6] at c7 hb
  clear e4 e5 e6
  simp only [oD, oM, C6, GJ] at *
  refine S9 Tryz.func75 rfl Tryz.ntmps75 rfl Tryz.results75 fun B => ?_
  refine G8 (FY ?_)
  repeat' (first | refine Ai ?_ | (refine As ?_; first | refine cz (c1) ?_ | refine cz (c2) ?_ | refine cz (c3) ?_ | refine cz (c4) ?_ | refine cz (c5) ?_ | refine cz (c6) ?_ | refine cz (c7) ?_ | refine cz (c8) ?_ | (refine AJ (Ch 0) ?_; first | refine Ag (Ch 0) ?_ | refine Ao (EF 0) ?_ | (refine Aj (Cw _ 0) ?_ ?_ <;> intro _ <;> (try (exfalso; omega))) | (refine Ap (Cw _ 0) ?_ ?_ <;> intro _)) | refine Ae 117 fun _ => ?_) | refine Ah ?_ | refine nc ?_ ?_ | (with_reducible intro _ <;> (try (exfalso; omega))) | refine Aa ?_ | (refine nd ?_ ?_ <;> intro hg <;> first | exact xo hg | rw [hg]))
  refine DJ (G8 (FY ?_))
  repeat' (first | refine Ai ?_ | (refine As ?_; first | refine cz (c1) ?_ | refine cz (c2) ?_ | refine cz (c3) ?_ | refine cz (c4) ?_ | refine cz (c5) ?_ | refine cz (c6) ?_ | refine cz (c7) ?_ | refine cz (c8) ?_ | (refine AJ (Ch 0) ?_; first | refine Ag (Ch 0) ?_ | refine Ao (EF 0) ?_ | (refine Aj (Cw _ 0) ?_ ?_ <;> intro _ <;> (try (exfalso; omega))) | (refine Ap (Cw _ 0) ?_ ?_ <;> intro _)) | refine Ae 117 fun _ => ?_) | refine Ah ?_ | refine nc ?_ ?_ | (with_reducible intro _ <;> (try (exfalso; omega))) | refine Aa ?_ | (refine nd ?_ ?_ <;> intro hg <;> first | exact xo hg | rw [hg]))
  refine DJ (G8 (G8 (FY ?_)))
  repeat' (first | refine Ai ?_ | (refine As ?_; first | refine cz (c1) ?_ | refine cz (c2) ?_ | refine cz (c3) ?_ | refine cz (c4) ?_ | refine cz (c5) ?_ | refine cz (c6) ?_ | refine cz (c7) ?_ | refine cz (c8) ?_ | (refine AJ (Ch 0) ?_; first | refine Ag (Ch 0) ?_ | refine Ao (EF 0) ?_ | (refine Aj (Cw _ 0) ?_ ?_ <;> intro _ <;> (try (exfalso; omega))) | (refine Ap (Cw _ 0) ?_ ?_ <;> intro _)) | refine Ae 117 fun _ => ?_) | refine Ah ?_ | refine nc ?_ ?_ | (with_reducible intro _ <;> (try (exfalso; omega))) | refine Aa ?_ | (refine nd ?_ ?_ <;> intro hg <;> first | exact xo hg | rw [hg]))
  refine DJ (Oi (Tj Tryz.func75 fun Lp TT hOk hfn => ?_))
  refine CI fun M2 => ?_
  repeat' (first | refine Ai ?_ | refine Ah ?_ | refine nc ?_ ?_ | (with_reducible intro _ <;> (try (exfalso; omega))) | refine Aa ?_ | (refine nd ?_ ?_ <;> intro hg <;> first | exact xo hg | rw [hg]))
  refine AB 5 ?_
  repeat' (first | refine Ai ?_ | (refine As ?_; first | refine AT (by assumption) fun _ _ => ?_ | refine cz (c1) ?_ | refine cz (c2) ?_ | refine cz (c3) ?_ | refine cz (c4) ?_ | refine cz (c5) ?_ | refine cz (c6) ?_ | refine cz (c7) ?_ | refine cz (c8) ?_ | (refine AJ (Ch 0) ?_; first | refine Ag (Ch 0) ?_ | refine Ao (EF 0) ?_ | (refine Aj (Cw _ 0) ?_ ?_ <;> intro _ <;> (try (exfalso; omega))) | (refine Ap (Cw _ 0) ?_ ?_ <;> intro _)) | refine Ae 117 fun _ => ?_) | refine Ah ?_ | refine nc ?_ ?_ | (with_reducible intro _ <;> (try (exfalso; omega))) | refine Aa ?_ | (refine nd ?_ ?_ <;> intro hg <;> first | exact xo hg | rw [hg]) | refine DJ (FY ?_) | refine Qf ?_)
  all_goals ((try clear hOk hfn); clear c1 c2 c3 c4 c5 c6 c7 c8; subst hb)
  all_goals first | (simp_all; fail_if_success (focus skip)) | (simp_all; omega) | skip
theorem EG (o : A5) (hl : o.px.length ≤ 1000000) : VP Tryz.prog 44 [.agg (oD o)] (· = .ret (An (if Dr o then 0 else 220))) := by
 have cm := Ab3 o hl
 cases hb : Dr o with
 | true =>
  rw [hb] at cm
  simp only [if_true] at cm ⊢
  refine Al fun B => ?_
  repeat' (first | refine Ai ?_ | (refine As ?_; first | refine cz (cm) ?_ | refine Ae 74 fun _ => ?_ | refine BI (hc := AN (fd := 112) Tryz.func73 rfl Tryz.ntmps73 Tryz.results73 fun _ => ?_)) | refine Ah ?_ | refine nc ?_ ?_ | (with_reducible intro _ <;> (try (exfalso; omega))) | refine Aa ?_ | (refine nd ?_ ?_ <;> intro hg <;> first | exact xo hg | rw [hg]) | refine AU Tryz.func112 rfl Tryz.ntmps112 Tryz.results112 ?_)
  all_goals first | rfl | trace_state
 | false =>
  rw [hb] at cm
  simp only [Bool.false_eq_true, if_false] at cm ⊢
  refine Al fun B => ?_
  repeat' (first | refine Ai ?_ | (refine As ?_; first | refine cz (cm) ?_ | refine Ae 74 fun _ => ?_ | refine BI (hc := AN (fd := 112) Tryz.func73 rfl Tryz.ntmps73 Tryz.results73 fun _ => ?_)) | refine Ah ?_ | refine nc ?_ ?_ | (with_reducible intro _ <;> (try (exfalso; omega))) | refine Aa ?_ | (refine nd ?_ ?_ <;> intro hg <;> first | exact xo hg | rw [hg]) | refine AU Tryz.func112 rfl Tryz.ntmps112 Tryz.results112 ?_)
  all_goals first | rfl | trace_state

set_option maxRecDepth 20000
set_option maxRecDepth 10000
section
variable {P : Program} {cx : Cx} {tm : List (Nat × V)} {st : List E} {nb : Nat} {Q : VE → St → Prop} {ops rest : List Oper}
theorem Aw {d : Tmp} {x : Operand} {t yt ty : TypeId} {v : V} {pos : String} {af : Array Edge} {gd : Option (Nat × Bool)} [hT : Mp P t] (k : VL P cx ops rest ⟨(d, .d (.lit (.bool true))) :: tm, st, nb⟩ Q) (hx : Af ⟨tm, st, nb⟩ x = some v := by rfl) (hv : JZ v = some false := by rfl) (hd : Nat.blt d cx.N = true := by rfl)
  (hw : Wd ops tm gd := by first | exact trivial | exact A1 rfl rfl (by with_reducible rfl)) : VL P cx ops (⟨some d, .binOp .neq t x (.const (.pointer none)) yt, ty, pos, af, gd⟩ :: rest) ⟨tm, st, nb⟩ Q := Bg (b := false) k hx hv hd hw
theorem Ax {d : Tmp} {x : Operand} {t yt ty : TypeId} {v : V} {pos : String} {af : Array Edge} {gd : Option (Nat × Bool)} [hT : Mp P t] (k : VL P cx ops rest ⟨(d, .d (.lit (.bool false))) :: tm, st, nb⟩ Q) (hx : Af ⟨tm, st, nb⟩ x = some v := by rfl) (hv : JZ v = some true := by rfl) (hd : Nat.blt d cx.N = true := by rfl)
  (hw : Wd ops tm gd := by first | exact trivial | exact A1 rfl rfl (by with_reducible rfl)) : VL P cx ops (⟨some d, .binOp .neq t x (.const (.pointer none)) yt, ty, pos, af, gd⟩ :: rest) ⟨tm, st, nb⟩ Q := Bg (b := true) k hx hv hd hw
end
abbrev tkV (r l : V) (px : V) (o : A5) : List V := [r, .d (AK o.id.t), .d (An o.id.s), .d (AK o.id.q), .d (An o.k), .d (An o.x), .d (An o.y), .d (An o.x2), .d (An o.y2), .d (An o.z),
 .d (.lit (vb o.c.r)), .d (.lit (vb o.c.g)), .d (.lit (vb o.c.b)), .d (.lit (vb o.c.a)), .d (An o.w), .d (An o.h), px, .d (AK o.tg.t), .d (An o.tg.s), .d (AK o.tg.q), l]
abbrev Cp : V := .d (.lit (.pointer none))
abbrev tkE (o : A5) : E := .c 0 0 (tkV Cp (.ptr 1 0) (.d (Jg o.px)) o)
abbrev Zu (b : List UInt8) (o : A5) : List E := [tkE o, .c 1 0 [.d (BD b)]]
abbrev tlX (b : List UInt8) (o : A5) : List E := [tkE o, .c 1 0 [.d (.sl true true (AG b))]]
theorem Ja (b : List UInt8) (o : A5) (h1 : LV o.x = true) (h2 : LV o.y = true) (hb : b.length ≤ 80000000) : Dk Tryz.prog 248 2 [.ptr 0 0] (Zu b o) 2 (.ret (.tup [])) (tlX (b ++ Dy o) o) 2 := by
 have c1 := Kw b o.x h1 (by omega)
 have c2 := Kw (b ++ Md o.x) o.y h2 (by simp [AI]; omega)
 rw [Dy, ← List.append_assoc]
 generalize b ++ Md o.x = B1 at *
 generalize B1 ++ Md o.y = B2 at *
 refine AH fun B M => ?_
 repeat' (first | refine Ai ?_ | (refine As ?_; first | refine Am [(1, none)] c1 ?_ | refine Am [(1, none)] c2 ?_ | refine Ae 271 fun _ => ?_ | refine Ar ?_ | refine Aw ?_ | refine Ax ?_) | refine Ah ?_ | refine nc ?_ ?_ | (with_reducible intro _ <;> (try (exfalso; omega))) | refine Aa ?_ | (refine nd ?_ ?_ <;> intro hg <;> first | exact xo hg | rw [hg]))
 exact A8 []
theorem Yw (b : List UInt8) (o : A5) (h1 : LV o.x2 = true) (h2 : LV o.y2 = true) (hb : b.length ≤ 80000000) : Dk Tryz.prog 249 2 [.ptr 0 0] (Zu b o) 2 (.ret (.tup [])) (tlX (b ++ Gw o) o) 2 := by
 have c1 := Kw b o.x2 h1 (by omega)
 have c2 := Kw (b ++ Md o.x2) o.y2 h2 (by simp [AI]; omega)
 rw [Gw, ← List.append_assoc]
 generalize b ++ Md o.x2 = B1 at *
 generalize B1 ++ Md o.y2 = B2 at *
 refine AH fun B M => ?_
 repeat' (first | refine Ai ?_ | (refine As ?_; first | refine Am [(1, none)] c1 ?_ | refine Am [(1, none)] c2 ?_ | refine Ae 271 fun _ => ?_ | refine Ar ?_ | refine Aw ?_ | refine Ax ?_) | refine Ah ?_ | refine nc ?_ ?_ | (with_reducible intro _ <;> (try (exfalso; omega))) | refine Aa ?_ | (refine nd ?_ ?_ <;> intro hg <;> first | exact xo hg | rw [hg]))
 exact A8 []
theorem QW (b : List UInt8) (o : A5) (h0 : 0 ≤ o.z) (h1 : o.z ≤ 1020) (hb : b.length ≤ 80000000) : Dk Tryz.prog 250 2 [.ptr 0 0] (Zu b o) 2 (.ret (.tup [])) (tlX (b ++ GY o) o) 2 := by
 have c1 := Ec b 2 o.z (by omega) h0 (by omega) (by omega)
 rw [show ((2 : Nat) : Int) = 2 from rfl] at c1
 rw [GY]
 generalize b ++ AF 2 o.z.toNat = B1 at *
 refine AH fun B M => ?_
 repeat' (first | refine Ai ?_ | (refine As ?_; first | refine Am [(1, none)] c1 ?_ | refine Ar ?_ | refine Aw ?_ | refine Ax ?_) | refine Ah ?_ | refine nc ?_ ?_ | (with_reducible intro _ <;> (try (exfalso; omega))) | refine Aa ?_ | (refine nd ?_ ?_ <;> intro hg <;> first | exact xo hg | rw [hg]))
 exact A8 []
theorem LJ (b : List UInt8) (o : A5) (hb : b.length ≤ 80000000) : Dk Tryz.prog 251 2 [.ptr 0 0] (tlX b o) 2 (.ret (.tup [])) (Zu (b ++ c4 o.c) o) 2 := by
 have c1 := Rz b o.c (by omega)
 generalize b ++ c4 o.c = B1 at *
 refine AH fun B M => ?_
 repeat' (first | refine Ai ?_ | (refine As ?_; first | refine Am [(1, none)] c1 ?_ | refine Ae 272 fun _ => ?_ | refine Ar ?_ | refine Aw ?_ | refine Ax ?_) | refine Ah ?_ | refine nc ?_ ?_ | (with_reducible intro _ <;> (try (exfalso; omega))) | refine Aa ?_ | (refine nd ?_ ?_ <;> intro hg <;> first | exact xo hg | rw [hg]))
 refine NJ 2 rfl ?_
 exact A8 []
theorem R4 (b : List UInt8) (o : A5) (h : J1 o.tg = true) (hb : b.length ≤ 80000000) : Dk Tryz.prog 252 2 [.ptr 0 0] (Zu b o) 2 (.ret (.tup [])) (tlX (b ++ Hu o.tg) o) 2 := by
 have c1 := Ry b o.tg h (by omega)
 generalize b ++ Hu o.tg = B1 at *
 refine AH fun B M => ?_
 repeat' (first | refine Ai ?_ | (refine As ?_; first | refine Am [(1, none)] c1 ?_ | refine Ae 257 fun _ => ?_ | refine Ar ?_ | refine Aw ?_ | refine Ax ?_) | refine Ah ?_ | refine nc ?_ ?_ | (with_reducible intro _ <;> (try (exfalso; omega))) | refine Aa ?_ | (refine nd ?_ ?_ <;> intro hg <;> first | exact xo hg | rw [hg]))
 exact A8 []
abbrev stS (b : List UInt8) (o : A5) : Nat → List E
 | 0 => tlX b o
 | i + 1 => [tkE o, .c 1 0 [.row 2 0], .r true true 2 0 5 1 (AG (b ++ GC (o.px.take (i + 1))))]
theorem TR (b : List UInt8) (o : A5) (h : QT o = true) (hb : b.length ≤ 80000000) : Dk Tryz.prog 253 2 [.ptr 0 0] (Zu b o) 2 (.ret (.tup [])) (Zu (b ++ AF 1 o.w.toNat ++ AF 1 o.h.toNat ++ GC o.px) o) 2 := by
 obtain ⟨s1, s2, s3⟩ := KT h
 simp only [BQ, Bool.and_eq_true, decide_eq_true_eq] at s1 s2
 have c1 := Ec b 1 o.w (by omega) (by omega) (by omega) (by omega)
 have c2 := Ec (b ++ AF 1 o.w.toNat) 1 o.h (by omega) (by omega) (by omega) (by simp [AI]; omega)
 rw [show ((1 : Nat) : Int) = 1 from rfl] at c1 c2
 have hb2 : (b ++ AF 1 o.w.toNat ++ AF 1 o.h.toNat).length ≤ 80000010 := by simp [AI]; omega
 generalize b ++ AF 1 o.w.toNat = B1 at *
 generalize B1 ++ AF 1 o.h.toNat = B2 at *
 refine AH fun B M => ?_
 repeat' (first | refine Ai ?_ | refine Ah ?_ | refine nc ?_ ?_ | (with_reducible intro _ <;> (try (exfalso; omega))) | refine Aa ?_ | (refine nd ?_ ?_ <;> intro hg <;> first | exact xo hg | rw [hg]))
 refine AB 3 ?_
 repeat' (first | refine Ai ?_ | (refine As ?_; first | refine Am [(1, none)] c1 ?_ | refine Am [(1, none)] c2 ?_ | refine Ar ?_ | refine Aw ?_ | refine Ax ?_) | refine Ah ?_ | refine nc ?_ ?_ | (with_reducible intro _ <;> (try (exfalso; omega))) | refine Aa ?_ | (refine nd ?_ ?_ <;> intro hg <;> first | exact xo hg | rw [hg]))
 have hpl := EL o.px
 have hl64 : o.px.length ≤ 64 ∧ 1 ≤ o.px.length := by
  have h1 : o.w.toNat ≤ 8 := by omega
  have h2 : o.h.toNat ≤ 8 := by omega
  have h3 : 1 ≤ o.w.toNat := by omega
  have h4 : 1 ≤ o.h.toNat := by omega
  rw [s3]
  exact ⟨Nat.mul_le_mul h1 h2, Nat.mul_le_mul h3 h4⟩
 refine BP (fun i : Nat => ⟨[(74, I .i64 i), (73, I .i64 (o.px.map Cq).length), (2, .ptr 0 14), (0, .ptr 0 0)], stS B2 o i, match i with | 0 => 2 | _ + 1 => 3⟩) (fun i => i ≤ o.px.length) (fun i => o.px.length - i) 0 (AE) (Nat.zero_le _) fun i hi => ?_
 rcases Nat.lt_or_ge i o.px.length with h | h
 ·obtain ⟨x, hx⟩ : ∃ x, o.px[i]? = some x := ⟨_, List.getElem?_eq_getElem h⟩
  have hx' : (o.px.map Cq)[((i : Nat) : Int).toNat]? = some (Cq x) := by simp [hx]
  have hsz := YY o.px
  have htk : o.px.take (i + 1) = o.px.take i ++ [x] := by rw [List.take_add_one, hx]; rfl
  have hps : GC (o.px.take (i + 1)) = GC (o.px.take i) ++ c4 x := by rw [htk]; simp [GC]
  have hpn : (GC (o.px.take i)).length ≤ 256 := by rw [IU, List.length_take]; omega
  cases i with
  | zero =>
   have c := Rz B2 x (by omega)
   rw [show B2 ++ c4 x = B2 ++ GC (o.px.take (0 + 1)) by rw [hps]; rfl] at c
   simp only [stS]
   repeat' (first | refine Ai ?_ | (refine As ?_; first | refine Am [(1, none)] c ?_ | refine Ae 272 fun _ => ?_ | refine Ar ?_ | refine Aw ?_ | refine Ax ?_) | refine Ah ?_ | refine nc ?_ ?_ | (with_reducible intro _ <;> (try (exfalso; omega))) | refine Aa ?_ | (refine nd ?_ ?_ <;> intro hg <;> first | exact xo hg | rw [hg]))
   refine AP 1 (by omega) (by omega) ?_
   exact (Eo [(2, _, _)])
  | succ i =>
   have c := Vu (B2 ++ GC (o.px.take (i + 1))) x (by simp; omega)
   rw [List.append_assoc, ← hps] at c
   simp only [stS]
   repeat' (first | refine Ai ?_ | (refine As ?_; first | refine Am [(1, none), (2, some _)] c ?_ | refine Ae 272 fun _ => ?_ | refine Ar ?_ | refine Aw ?_ | refine Ax ?_) | refine Ah ?_ | refine nc ?_ ?_ | (with_reducible intro _ <;> (try (exfalso; omega))) | refine Aa ?_ | (refine nd ?_ ?_ <;> intro hg <;> first | exact xo hg | rw [hg]))
   refine AP (i + 1 + 1) (by omega) (by omega) ?_
   exact (Eo [(2, _, _)])
 ·cases i with
  | zero => omega
  | succ i =>
   simp only [stS]
   repeat' (first | refine Ai ?_ | refine Ah ?_ | refine nc ?_ ?_ | (with_reducible intro _ <;> (try (exfalso; omega))) | refine Aa ?_ | (refine nd ?_ ?_ <;> intro hg <;> first | exact xo hg | rw [hg]))
   rw [List.take_of_length_le h]
   refine NJ 2 rfl ?_
   exact A8 []

end Go.Proofs.YtbgcjnfhadhjeaaGreat