/- Walks by data and names, part 33: Layer 12, by V: which operations are the same; which may be. Layer 12, by V: which operations may be. Layer 19, by V: an operation's parts, laid. -/
import Derived.Test.YtnjaohdadaifhaaGreatPk32
import Derived.Test.YtnjaohdadaifhaaGreatPk31
namespace Go.Proofs.YtnjaohdadaifhaaGreat
set_option maxRecDepth 20000
open Go.RowKit
set_option maxRecDepth 10000
set_option maxHeartbeats 4000000
theorem pt_eq (a b c d : Int) : decide ([a, b] = [c, d]) = decide (a = c ∧ b = d) := by rw [decide_eq_decide]; simp
theorem osame_v (a b : Opp) : VP Tryz.prog 12 [.agg (oD a), .agg (oD b)] (· = .ret (.lit (.bool (decide (a = b))))) := by
  have cs := stsame_v a b
  have f1 := fromO_v a
  have f2 := fromO_v b
  have f3 := toO_v a
  have f4 := toO_v b
  have e1 := id_eq a.id b.id
  have e2 := id_eq a.tg b.tg
  have e3 := col_eq a.c b.c
  have e4 := pt_eq a.x a.y b.x b.y
  have e5 := pt_eq a.x2 a.y2 b.x2 b.y2
  have he : a = b ↔ a.id = b.id ∧ a.k = b.k ∧ a.x = b.x ∧ a.y = b.y ∧ a.x2 = b.x2 ∧ a.y2 = b.y2 ∧ a.z = b.z ∧ a.c = b.c ∧ a.w = b.w ∧ a.h = b.h ∧ a.px = b.px ∧ a.tg = b.tg := by cases a; cases b; simp
  simp only [oD, oDf] at *
  refine vp_of Tryz.func12 rfl Tryz.ntmps12 rfl Tryz.results12 fun B => ?_
  repeat' (first | refine vw_drawx (id := 1) ?_ (hk := by first | exact .mk (n := 41) (by decide +kernel) (by kernel_rfl) rfl | exact .mk (n := 42) (by decide +kernel) (by kernel_rfl) rfl | exact .mk (n := 43) (by decide +kernel) (by kernel_rfl) rfl | exact .mk (n := 44) (by decide +kernel) (by kernel_rfl) rfl | exact .mk (n := 45) (by decide +kernel) (by kernel_rfl) rfl | exact .mk (n := 46) (by decide +kernel) (by kernel_rfl) rfl | exact .mk (n := 47) (by decide +kernel) (by kernel_rfl) rfl | exact .mk (n := 48) (by decide +kernel) (by kernel_rfl) rfl) | refine nz1 ?_ | (refine vid ?_; first | refine cz (cs) ?_ | refine cz (f1) ?_ | refine cz (f2) ?_ | refine cz (f3) ?_ | refine cz (f4) ?_) | refine nzo ?_ | refine nc ?_ ?_ | (with_reducible intro _ <;> (try (exfalso; omega))) | refine nnil ?_ | (refine nd ?_ ?_ <;> intro hg <;> first | exact xo hg | rw [hg]))
  all_goals (clear cs e1 e2 e3 e4 e5 f1 f2 f3 f4; simp only [he, sameSt]; simp_all; try simp [Bool.and_assoc])
theorem pneed_ok (_ : Int) : VP Tryz.prog 89 [.lit (.bool true)] (· = .ret (.tup [])) := by
  refine vp_of Tryz.func89 rfl Tryz.ntmps89 rfl Tryz.results89 fun B => ?_
  repeat' (first | refine nz1 ?_ | refine nzo ?_ | refine nc ?_ ?_ | (with_reducible intro _ <;> (try (exfalso; omega))) | refine nnil ?_ | (refine nd ?_ ?_ <;> intro hg <;> first | exact xo hg | rw [hg]))
  all_goals rfl
theorem pneed_no (_ : Int) : VP Tryz.prog 89 [.lit (.bool false)] (· = .panic (errD 220)) := by
  refine vp_of Tryz.func89 rfl Tryz.ntmps89 rfl Tryz.results89 fun B => ?_
  repeat' (first | refine nz1 ?_ | refine nzo ?_ | refine nc ?_ ?_ | (with_reducible intro _ <;> (try (exfalso; omega))) | refine nnil ?_ | (refine nd ?_ ?_ <;> intro hg <;> first | exact xo hg | rw [hg]))
  all_goals rfl
theorem pneed_if (c : Bool) (e : Int) : VP Tryz.prog 89 [.lit (.bool c)] (· = if c then .ret (.tup []) else .panic (errD 220)) := by
  cases c with
  | true => exact pneed_ok e
  | false => exact pneed_no e
theorem sside_v (n : Int) : VP Tryz.prog 117 [i64D n] (· = .ret (.lit (.bool (sideB n)))) := by
  simp only [sideB]
  refine vp_of Tryz.func117 rfl Tryz.ntmps117 rfl Tryz.results117 fun B => ?_
  repeat' (first | refine nz1 ?_ | refine nzo ?_ | refine nc ?_ ?_ | (with_reducible intro _ <;> (try (exfalso; omega))) | refine nnil ?_ | (refine nd ?_ ?_ <;> intro hg <;> first | exact xo hg | rw [hg]))
  all_goals (simp_all; try omega)
theorem scheck_v (o : Opp) (_ : o.px.length ≤ 1000000) : VP Tryz.prog 93 [.agg [i64D o.w, i64D o.h, cosD o.px]] (· = .ret (i64D (if stB o then 0 else 190))) := by
  have c1 := sside_v o.w
  have c2 := sside_v o.h
  have hpl := colD_len o.px
  simp only [stB]
  by_cases hs : sideB o.w = true ∧ sideB o.h = true
  · have h1 := hs.1
    have h2 := hs.2
    simp only [sideB, Bool.and_eq_true, decide_eq_true_eq] at h1 h2
    have hm : 0 ≤ o.w * o.h ∧ o.w * o.h ≤ 64 := ⟨Int.mul_nonneg (by omega) (by omega), by
      have := Int.mul_le_mul h1.2 h2.2 (by omega) (by omega : (0 : Int) ≤ 8); omega⟩
    simp only [hs.1, hs.2, Bool.and_self, Bool.true_and] at c1 c2 ⊢
    refine vp_of Tryz.func93 rfl Tryz.ntmps93 rfl Tryz.results93 fun B => ?_
    repeat' (first | refine nz1 ?_ | (refine vid ?_; first | refine cz (c1) ?_ | refine cz (c2) ?_) | refine nzo ?_ | refine nc ?_ ?_ | (with_reducible intro _ <;> (try (exfalso; omega))) | refine nnil ?_ | (refine nd ?_ ?_ <;> intro hg <;> first | exact xo hg | rw [hg]))
    all_goals (simp_all)
  · have hf : (sideB o.w && sideB o.h) = false := by
      cases e : (sideB o.w && sideB o.h)
      · rfl
      · exact (hs (by simpa using e)).elim
    simp only [hf, Bool.false_and, Bool.false_eq_true, if_false]
    generalize sideB o.w = s1 at *
    generalize sideB o.h = s2 at *
    cases s1 <;> cases s2
    all_goals first | (exact absurd hf (by decide)) | skip
    all_goals
      refine vp_of Tryz.func93 rfl Tryz.ntmps93 rfl Tryz.results93 fun B => ?_
      repeat' (first | refine nz1 ?_ | (refine vid ?_; first | refine cz (c1) ?_ | refine cz (c2) ?_) | refine nzo ?_ | refine nc ?_ ?_ | (with_reducible intro _ <;> (try (exfalso; omega))) | refine nnil ?_ | (refine nd ?_ ?_ <;> intro hg <;> first | exact xo hg | rw [hg]))
    all_goals rfl
end Go.Proofs.YtnjaohdadaifhaaGreat

namespace Go.Proofs.YtnjaohdadaifhaaGreat
set_option maxRecDepth 20000
open Go.RowKit
set_option maxRecDepth 10000
set_option maxHeartbeats 4000000
def opB1 (o : Opp) : Bool := idB o.id && decide (1 ≤ o.k) && decide (o.k ≤ 8) && decide (plainO o = o)
def opB2 (o : Opp) : Bool := atB o.x && atB o.y && atB o.x2 && atB o.y2 && decide (0 ≤ o.z) && decide (o.z ≤ if o.k = 5 then 1020 else 15) && (decide (o.k ≠ 6) || stB o) && (decide (o.k ≤ 6) || (idB o.tg && idLt o.tg o.id))
theorem opB_12 (o : Opp) : opB o = (opB1 o && opB2 o) := by simp only [opB, opB1, opB2, Bool.and_assoc]
theorem may_v (o : Opp) (hl : o.px.length ≤ 1000000) : VP Tryz.prog 59 [.agg (oD o)] (· = if opB o then .ret (.tup []) else .panic (errD 220)) := by
  have c1 := icheck_v o.id
  have c2 := is_v o.k
  have c4 := osame_v (plainO o) o
  have c5 := scheck_v o hl
  have c6 := icheck_v o.tg
  have c7 := iless_v o.tg o.id
  rw [opB_12]
  cases h1 : opB1 o with
  | false =>
    simp only [Bool.false_and, Bool.false_eq_true, if_false]
    simp only [opB1] at h1
    obtain ⟨z1, e1⟩ : ∃ z : Int, (if idB o.id then 0 else 210) = z := ⟨_, rfl⟩
    rw [e1] at c1
    rw [show idB o.id = decide (z1 = 0) by rw [← e1]; cases idB o.id <;> rfl] at h1
    clear e1
    by_cases hk : 1 ≤ o.k ∧ o.k ≤ 8
    · have c3 := oplain_v o hk hl
      rw [show (decide (1 ≤ o.k) && decide (o.k ≤ 8)) = true by simp; omega] at c2
      rw [decide_eq_true hk.1, decide_eq_true hk.2, Bool.and_true, Bool.and_true] at h1
      obtain ⟨r3, e3⟩ : ∃ r, decide (plainO o = o) = r := ⟨_, rfl⟩
      rw [e3] at c4 h1
      clear e3 c5 c6 c7
      generalize plainO o = q at *
      simp only [oD, oM, oDf, idD] at *
      cases r3
      · refine vp_of Tryz.func59 rfl Tryz.ntmps59 rfl Tryz.results59 fun B => ?_
        repeat' (first | refine nz1 ?_ | (refine vid ?_; first | refine cz (c1) ?_ | refine cz (c2) ?_ | refine cz (c3) ?_ | refine cz (c4) ?_ | (refine vq_l (pneed_ok 0) ?_; first | refine vs_call (pneed_ok 0) ?_ | refine vs_pan (pneed_no 0) ?_ | (refine vs_cifp (pneed_if _ 0) ?_ ?_ <;> intro _ <;> (try (exfalso; omega))) | (refine vs_cif (pneed_if _ 0) ?_ ?_ <;> intro _))) | refine nzo ?_ | refine nc ?_ ?_ | (with_reducible intro _ <;> (try (exfalso; omega))) | refine nnil ?_ | (refine nd ?_ ?_ <;> intro hg <;> first | exact xo hg | rw [hg]))
        all_goals rfl
      · have hz : z1 ≠ 0 := by intro h; simp [h] at h1
        refine vp_of Tryz.func59 rfl Tryz.ntmps59 rfl Tryz.results59 fun B => ?_
        repeat' (first | refine nz1 ?_ | (refine vid ?_; first | refine cz (c1) ?_ | refine cz (c2) ?_ | refine cz (c3) ?_ | refine cz (c4) ?_ | (refine vq_l (pneed_ok 0) ?_; first | refine vs_call (pneed_ok 0) ?_ | refine vs_pan (pneed_no 0) ?_ | (refine vs_cifp (pneed_if _ 0) ?_ ?_ <;> intro _ <;> (try (exfalso; omega))) | (refine vs_cif (pneed_if _ 0) ?_ ?_ <;> intro _))) | refine nzo ?_ | refine nc ?_ ?_ | (with_reducible intro _ <;> (try (exfalso; omega))) | refine nnil ?_ | (refine nd ?_ ?_ <;> intro hg <;> first | exact xo hg | rw [hg]))
        all_goals rfl
    · rw [show (decide (1 ≤ o.k) && decide (o.k ≤ 8)) = false by simp; omega] at c2
      clear c4 c5 c6 c7
      simp only [oD, oDf, idD] at *
      refine vp_of Tryz.func59 rfl Tryz.ntmps59 rfl Tryz.results59 fun B => ?_
      repeat' (first | refine nz1 ?_ | (refine vid ?_; first | refine cz (c1) ?_ | refine cz (c2) ?_ | (refine vq_l (pneed_ok 0) ?_; first | refine vs_call (pneed_ok 0) ?_ | refine vs_pan (pneed_no 0) ?_ | (refine vs_cifp (pneed_if _ 0) ?_ ?_ <;> intro _ <;> (try (exfalso; omega))) | (refine vs_cif (pneed_if _ 0) ?_ ?_ <;> intro _))) | refine nzo ?_ | refine nc ?_ ?_ | (with_reducible intro _ <;> (try (exfalso; omega))) | refine nnil ?_ | (refine nd ?_ ?_ <;> intro hg <;> first | exact xo hg | rw [hg]))
      all_goals rfl
  | true =>
    simp only [Bool.true_and]
    simp only [opB1, Bool.and_eq_true, decide_eq_true_eq] at h1
    obtain ⟨⟨⟨h1, h2⟩, h3⟩, h4⟩ := h1
    have c3 := oplain_v o ⟨h2, h3⟩ hl
    have c8 := paints_v o.k ⟨h2, h3⟩
    rw [h4] at c3 c4
    rw [h1] at c1
    rw [show (decide (1 ≤ o.k) && decide (o.k ≤ 8)) = true by simp; omega] at c2
    rw [decide_eq_true rfl] at c4
    clear h4
    obtain ⟨b, hb⟩ : ∃ b, opB2 o = b := ⟨_, rfl⟩
    rw [hb]
    simp only [opB2, atB] at hb
    obtain ⟨z4, e4⟩ : ∃ z : Int, (if stB o then 0 else 190) = z := ⟨_, rfl⟩
    obtain ⟨z5, e5⟩ : ∃ z : Int, (if idB o.tg then 0 else 210) = z := ⟨_, rfl⟩
    obtain ⟨r6, e6⟩ : ∃ r, idLt o.tg o.id = r := ⟨_, rfl⟩
    rw [e4] at c5
    rw [e5] at c6
    rw [show stB o = decide (z4 = 0) by rw [← e4]; cases stB o <;> rfl] at hb
    rw [show idB o.tg = decide (z5 = 0) by rw [← e5]; cases idB o.tg <;> rfl] at hb
    rw [e6] at c7 hb
    clear e4 e5 e6
    simp only [oD, oM, oDf, idD] at *
    refine vpf_of Tryz.func59 rfl Tryz.ntmps59 rfl Tryz.results59 fun B => ?_
    refine vf_seq (vf_of ?_)
    repeat' (first | refine nz1 ?_ | (refine vid ?_; first | refine cz (c1) ?_ | refine cz (c2) ?_ | refine cz (c3) ?_ | refine cz (c4) ?_ | refine cz (c5) ?_ | refine cz (c6) ?_ | refine cz (c7) ?_ | refine cz (c8) ?_ | (refine vq_l (pneed_ok 0) ?_; first | refine vs_call (pneed_ok 0) ?_ | refine vs_pan (pneed_no 0) ?_ | (refine vs_cifp (pneed_if _ 0) ?_ ?_ <;> intro _ <;> (try (exfalso; omega))) | (refine vs_cif (pneed_if _ 0) ?_ ?_ <;> intro _)) | refine vs_vc (hc := vc_of Tryz.func92 rfl Tryz.ntmps92 Tryz.results92 fun _ => ?_)) | refine nzo ?_ | refine nc ?_ ?_ | (with_reducible intro _ <;> (try (exfalso; omega))) | refine nnil ?_ | (refine nd ?_ ?_ <;> intro hg <;> first | exact xo hg | rw [hg]))
    refine nf_then (vf_seq (vf_of ?_))
    repeat' (first | refine nz1 ?_ | (refine vid ?_; first | refine cz (c1) ?_ | refine cz (c2) ?_ | refine cz (c3) ?_ | refine cz (c4) ?_ | refine cz (c5) ?_ | refine cz (c6) ?_ | refine cz (c7) ?_ | refine cz (c8) ?_ | (refine vq_l (pneed_ok 0) ?_; first | refine vs_call (pneed_ok 0) ?_ | refine vs_pan (pneed_no 0) ?_ | (refine vs_cifp (pneed_if _ 0) ?_ ?_ <;> intro _ <;> (try (exfalso; omega))) | (refine vs_cif (pneed_if _ 0) ?_ ?_ <;> intro _)) | refine vs_vc (hc := vc_of Tryz.func92 rfl Tryz.ntmps92 Tryz.results92 fun _ => ?_)) | refine nzo ?_ | refine nc ?_ ?_ | (with_reducible intro _ <;> (try (exfalso; omega))) | refine nnil ?_ | (refine nd ?_ ?_ <;> intro hg <;> first | exact xo hg | rw [hg]))
    refine nf_then (vf_seq (vf_seq (vf_of ?_)))
    repeat' (first | refine nz1 ?_ | (refine vid ?_; first | refine cz (c1) ?_ | refine cz (c2) ?_ | refine cz (c3) ?_ | refine cz (c4) ?_ | refine cz (c5) ?_ | refine cz (c6) ?_ | refine cz (c7) ?_ | refine cz (c8) ?_ | (refine vq_l (pneed_ok 0) ?_; first | refine vs_call (pneed_ok 0) ?_ | refine vs_pan (pneed_no 0) ?_ | (refine vs_cifp (pneed_if _ 0) ?_ ?_ <;> intro _ <;> (try (exfalso; omega))) | (refine vs_cif (pneed_if _ 0) ?_ ?_ <;> intro _)) | refine vs_vc (hc := vc_of Tryz.func92 rfl Tryz.ntmps92 Tryz.results92 fun _ => ?_)) | refine nzo ?_ | refine nc ?_ ?_ | (with_reducible intro _ <;> (try (exfalso; omega))) | refine nnil ?_ | (refine nd ?_ ?_ <;> intro hg <;> first | exact xo hg | rw [hg]))
    refine nf_then (vf_block (vf_rng Tryz.func59 fun Lp TT hOk hfn => ?_))
    refine vmb_of Tryz.func116 rfl Tryz.ntmps116 Tryz.results116 fun M2 => ?_
    repeat' (first | refine nz1 ?_ | refine nzo ?_ | refine nc ?_ ?_ | (with_reducible intro _ <;> (try (exfalso; omega))) | refine nnil ?_ | (refine nd ?_ ?_ <;> intro hg <;> first | exact xo hg | rw [hg]))
    refine vw_rounds 5 ?_
    repeat' (first | refine nz1 ?_ | (refine vid ?_; first | refine vs_yield (by assumption) fun _ _ => ?_ | refine cz (c1) ?_ | refine cz (c2) ?_ | refine cz (c3) ?_ | refine cz (c4) ?_ | refine cz (c5) ?_ | refine cz (c6) ?_ | refine cz (c7) ?_ | refine cz (c8) ?_ | (refine vq_l (pneed_ok 0) ?_; first | refine vs_call (pneed_ok 0) ?_ | refine vs_pan (pneed_no 0) ?_ | (refine vs_cifp (pneed_if _ 0) ?_ ?_ <;> intro _ <;> (try (exfalso; omega))) | (refine vs_cif (pneed_if _ 0) ?_ ?_ <;> intro _)) | refine vs_vc (hc := vc_of Tryz.func92 rfl Tryz.ntmps92 Tryz.results92 fun _ => ?_)) | refine nzo ?_ | refine nc ?_ ?_ | (with_reducible intro _ <;> (try (exfalso; omega))) | refine nnil ?_ | (refine nd ?_ ?_ <;> intro hg <;> first | exact xo hg | rw [hg]) | refine nf_then (vf_of ?_) | refine nf_pan ?_)
    all_goals ((try clear hOk hfn); clear c1 c2 c3 c4 c5 c6 c7 c8; subst hb)
    all_goals first | (simp_all; fail_if_success (focus skip)) | (simp_all; omega) | skip
theorem ocheck_v (o : Opp) (hl : o.px.length ≤ 1000000) : VP Tryz.prog 21 [.agg (oD o)] (· = .ret (i64D (if opB o then 0 else 220))) := by
  have cm := may_v o hl
  cases hb : opB o with
  | true =>
    rw [hb] at cm
    simp only [if_true] at cm ⊢
    refine vp_of Tryz.func21 rfl Tryz.ntmps21 rfl Tryz.results21 fun B => ?_
    repeat' (first | refine nz1 ?_ | (refine vid ?_; first | refine cz (cm) ?_ | refine vs_vc (hc := vc_of Tryz.func58 rfl Tryz.ntmps58 Tryz.results58 fun _ => ?_) | refine vs_vc (hc := vc_tries (fd := 88) Tryz.func57 rfl Tryz.ntmps57 Tryz.results57 fun _ => ?_)) | refine nzo ?_ | refine nc ?_ ?_ | (with_reducible intro _ <;> (try (exfalso; omega))) | refine nnil ?_ | (refine nd ?_ ?_ <;> intro hg <;> first | exact xo hg | rw [hg]) | refine vdf_of Tryz.func88 rfl Tryz.ntmps88 Tryz.results88 ?_)
    all_goals first | rfl | trace_state
  | false =>
    rw [hb] at cm
    simp only [Bool.false_eq_true, if_false] at cm ⊢
    refine vp_of Tryz.func21 rfl Tryz.ntmps21 rfl Tryz.results21 fun B => ?_
    repeat' (first | refine nz1 ?_ | (refine vid ?_; first | refine cz (cm) ?_ | refine vs_vc (hc := vc_of Tryz.func58 rfl Tryz.ntmps58 Tryz.results58 fun _ => ?_) | refine vs_vc (hc := vc_tries (fd := 88) Tryz.func57 rfl Tryz.ntmps57 Tryz.results57 fun _ => ?_)) | refine nzo ?_ | refine nc ?_ ?_ | (with_reducible intro _ <;> (try (exfalso; omega))) | refine nnil ?_ | (refine nd ?_ ?_ <;> intro hg <;> first | exact xo hg | rw [hg]) | refine vdf_of Tryz.func88 rfl Tryz.ntmps88 Tryz.results88 ?_)
    all_goals first | rfl | trace_state
end Go.Proofs.YtnjaohdadaifhaaGreat

namespace Go.Proofs.YtnjaohdadaifhaaGreat
set_option maxRecDepth 20000
open Go.RowKit
set_option maxRecDepth 10000
set_option maxHeartbeats 4000000
section
variable {P : Program} {cx : Cx} {tm : List (Nat × V)} {st : List E} {nb : Nat} {Q : VE → St → Prop} {ops rest : List Oper}
theorem vs_nepnT {d : Tmp} {x : Operand} {t yt ty : TypeId} {v : V} {pos : String} {af : Array Edge} {gd : Option (Nat × Bool)} [hT : PtrI P t] (k : VL P cx ops rest ⟨(d, .d (.lit (.bool true))) :: tm, st, nb⟩ Q) (hx : evalV ⟨tm, st, nb⟩ x = some v := by rfl) (hv : nilpV v = some false := by rfl) (hd : Nat.blt d cx.N = true := by rfl)
    (hw : Wd ops tm gd := by first | exact trivial | exact wd_of rfl rfl (by with_reducible rfl)) : VL P cx ops (⟨some d, .binOp .neq t x (.const (.pointer none)) yt, ty, pos, af, gd⟩ :: rest) ⟨tm, st, nb⟩ Q := vs_nepn (b := false) k hx hv hd hw
theorem vs_nepnF {d : Tmp} {x : Operand} {t yt ty : TypeId} {v : V} {pos : String} {af : Array Edge} {gd : Option (Nat × Bool)} [hT : PtrI P t] (k : VL P cx ops rest ⟨(d, .d (.lit (.bool false))) :: tm, st, nb⟩ Q) (hx : evalV ⟨tm, st, nb⟩ x = some v := by rfl) (hv : nilpV v = some true := by rfl) (hd : Nat.blt d cx.N = true := by rfl)
    (hw : Wd ops tm gd := by first | exact trivial | exact wd_of rfl rfl (by with_reducible rfl)) : VL P cx ops (⟨some d, .binOp .neq t x (.const (.pointer none)) yt, ty, pos, af, gd⟩ :: rest) ⟨tm, st, nb⟩ Q := vs_nepn (b := true) k hx hv hd hw
end
abbrev tkV (r l : V) (px : V) (o : Opp) : List V := [r, .d (u64D o.id.t), .d (i64D o.id.s), .d (u64D o.id.q), .d (i64D o.k), .d (i64D o.x), .d (i64D o.y), .d (i64D o.x2), .d (i64D o.y2), .d (i64D o.z),
  .d (.lit (vb o.c.r)), .d (.lit (vb o.c.g)), .d (.lit (vb o.c.b)), .d (.lit (vb o.c.a)), .d (i64D o.w), .d (i64D o.h), px, .d (u64D o.tg.t), .d (i64D o.tg.s), .d (u64D o.tg.q), l]
abbrev nilP : V := .d (.lit (.pointer none))
abbrev tkE (o : Opp) : E := .c 0 0 (tkV nilP (.ptr 1 0) (.d (cosD o.px)) o)
abbrev tlE (b : List UInt8) (o : Opp) : List E := [tkE o, .c 1 0 [.d (bsD b)]]
abbrev tlX (b : List UInt8) (o : Opp) : List E := [tkE o, .c 1 0 [.d (.sl true true (byD b))]]
theorem fromL_v (b : List UInt8) (o : Opp) (h1 : atB o.x = true) (h2 : atB o.y = true) (hb : b.length ≤ 80000000) : VM1 Tryz.prog 102 2 [.ptr 0 0] (tlE b o) 2 (.ret (.tup [])) (tlX (b ++ frBy o) o) 2 := by
  have c1 := layAt_v b o.x h1 (by omega)
  have c2 := layAt_v (b ++ at1 o.x) o.y h2 (by simp [layN_len]; omega)
  rw [frBy, ← List.append_assoc]
  generalize b ++ at1 o.x = B1 at *
  generalize B1 ++ at1 o.y = B2 at *
  refine vm1_of Tryz.func102 rfl Tryz.ntmps102 Tryz.results102 fun B M => ?_
  repeat' (first | refine nz1 ?_ | (refine vid ?_; first | refine vs_vm [(1, none)] c1 ?_ | refine vs_vm [(1, none)] c2 ?_ | refine vs_vc (hc := vc_of Tryz.func120 rfl Tryz.ntmps120 Tryz.results120 fun _ => ?_) | refine vs_eqpn ?_ | refine vs_nepnT ?_ | refine vs_nepnF ?_) | refine nzo ?_ | refine nc ?_ ?_ | (with_reducible intro _ <;> (try (exfalso; omega))) | refine nnil ?_ | (refine nd ?_ ?_ <;> intro hg <;> first | exact xo hg | rw [hg]))
  exact nx_sub []
theorem toL_v (b : List UInt8) (o : Opp) (h1 : atB o.x2 = true) (h2 : atB o.y2 = true) (hb : b.length ≤ 80000000) : VM1 Tryz.prog 103 2 [.ptr 0 0] (tlE b o) 2 (.ret (.tup [])) (tlX (b ++ toBy o) o) 2 := by
  have c1 := layAt_v b o.x2 h1 (by omega)
  have c2 := layAt_v (b ++ at1 o.x2) o.y2 h2 (by simp [layN_len]; omega)
  rw [toBy, ← List.append_assoc]
  generalize b ++ at1 o.x2 = B1 at *
  generalize B1 ++ at1 o.y2 = B2 at *
  refine vm1_of Tryz.func103 rfl Tryz.ntmps103 Tryz.results103 fun B M => ?_
  repeat' (first | refine nz1 ?_ | (refine vid ?_; first | refine vs_vm [(1, none)] c1 ?_ | refine vs_vm [(1, none)] c2 ?_ | refine vs_vc (hc := vc_of Tryz.func120 rfl Tryz.ntmps120 Tryz.results120 fun _ => ?_) | refine vs_eqpn ?_ | refine vs_nepnT ?_ | refine vs_nepnF ?_) | refine nzo ?_ | refine nc ?_ ?_ | (with_reducible intro _ <;> (try (exfalso; omega))) | refine nnil ?_ | (refine nd ?_ ?_ <;> intro hg <;> first | exact xo hg | rw [hg]))
  exact nx_sub []
theorem sizeL_v (b : List UInt8) (o : Opp) (h0 : 0 ≤ o.z) (h1 : o.z ≤ 1020) (hb : b.length ≤ 80000000) : VM1 Tryz.prog 104 2 [.ptr 0 0] (tlE b o) 2 (.ret (.tup [])) (tlX (b ++ szBy o) o) 2 := by
  have c1 := layNum_v b 2 o.z (by omega) h0 (by omega) (by omega)
  rw [show ((2 : Nat) : Int) = 2 from rfl] at c1
  rw [szBy]
  generalize b ++ layN 2 o.z.toNat = B1 at *
  refine vm1_of Tryz.func104 rfl Tryz.ntmps104 Tryz.results104 fun B M => ?_
  repeat' (first | refine nz1 ?_ | (refine vid ?_; first | refine vs_vm [(1, none)] c1 ?_ | refine vs_eqpn ?_ | refine vs_nepnT ?_ | refine vs_nepnF ?_) | refine nzo ?_ | refine nc ?_ ?_ | (with_reducible intro _ <;> (try (exfalso; omega))) | refine nnil ?_ | (refine nd ?_ ?_ <;> intro hg <;> first | exact xo hg | rw [hg]))
  exact nx_sub []
theorem colorL_v (b : List UInt8) (o : Opp) (hb : b.length ≤ 80000000) : VM1 Tryz.prog 105 2 [.ptr 0 0] (tlX b o) 2 (.ret (.tup [])) (tlE (b ++ c4 o.c) o) 2 := by
  have c1 := layCo_v b o.c (by omega)
  generalize b ++ c4 o.c = B1 at *
  refine vm1_of Tryz.func105 rfl Tryz.ntmps105 Tryz.results105 fun B M => ?_
  repeat' (first | refine nz1 ?_ | (refine vid ?_; first | refine vs_vm [(1, none)] c1 ?_ | refine vs_vc (hc := vc_of Tryz.func121 rfl Tryz.ntmps121 Tryz.results121 fun _ => ?_) | refine vs_eqpn ?_ | refine vs_nepnT ?_ | refine vs_nepnF ?_) | refine nzo ?_ | refine nc ?_ ?_ | (with_reducible intro _ <;> (try (exfalso; omega))) | refine nnil ?_ | (refine nd ?_ ?_ <;> intro hg <;> first | exact xo hg | rw [hg]))
  refine nx_frz 2 rfl ?_
  exact nx_sub []
theorem targetL_v (b : List UInt8) (o : Opp) (h : idB o.tg = true) (hb : b.length ≤ 80000000) : VM1 Tryz.prog 106 2 [.ptr 0 0] (tlE b o) 2 (.ret (.tup [])) (tlX (b ++ idBy o.tg) o) 2 := by
  have c1 := layId_v b o.tg h (by omega)
  generalize b ++ idBy o.tg = B1 at *
  refine vm1_of Tryz.func106 rfl Tryz.ntmps106 Tryz.results106 fun B M => ?_
  repeat' (first | refine nz1 ?_ | (refine vid ?_; first | refine vs_vm [(1, none)] c1 ?_ | refine vs_vc (hc := vc_of Tryz.func49 rfl Tryz.ntmps49 Tryz.results49 fun _ => ?_) | refine vs_eqpn ?_ | refine vs_nepnT ?_ | refine vs_nepnF ?_) | refine nzo ?_ | refine nc ?_ ?_ | (with_reducible intro _ <;> (try (exfalso; omega))) | refine nnil ?_ | (refine nd ?_ ?_ <;> intro hg <;> first | exact xo hg | rw [hg]))
  exact nx_sub []
abbrev stS (b : List UInt8) (o : Opp) : Nat → List E
  | 0 => tlX b o
  | i + 1 => [tkE o, .c 1 0 [.row 2 0], .r true true 2 0 5 1 (byD (b ++ pxBy (o.px.take (i + 1))))]
theorem stampL_v (b : List UInt8) (o : Opp) (h : stB o = true) (hb : b.length ≤ 80000000) : VM1 Tryz.prog 107 2 [.ptr 0 0] (tlE b o) 2 (.ret (.tup [])) (tlE (b ++ layN 1 o.w.toNat ++ layN 1 o.h.toNat ++ pxBy o.px) o) 2 := by
  obtain ⟨s1, s2, s3⟩ := st_in h
  simp only [sideB, Bool.and_eq_true, decide_eq_true_eq] at s1 s2
  have c1 := layNum_v b 1 o.w (by omega) (by omega) (by omega) (by omega)
  have c2 := layNum_v (b ++ layN 1 o.w.toNat) 1 o.h (by omega) (by omega) (by omega) (by simp [layN_len]; omega)
  rw [show ((1 : Nat) : Int) = 1 from rfl] at c1 c2
  have hb2 : (b ++ layN 1 o.w.toNat ++ layN 1 o.h.toNat).length ≤ 80000010 := by simp [layN_len]; omega
  generalize b ++ layN 1 o.w.toNat = B1 at *
  generalize B1 ++ layN 1 o.h.toNat = B2 at *
  refine vm1_of Tryz.func107 rfl Tryz.ntmps107 Tryz.results107 fun B M => ?_
  repeat' (first | refine nz1 ?_ | refine nzo ?_ | refine nc ?_ ?_ | (with_reducible intro _ <;> (try (exfalso; omega))) | refine nnil ?_ | (refine nd ?_ ?_ <;> intro hg <;> first | exact xo hg | rw [hg]))
  refine vw_rounds 3 ?_
  repeat' (first | refine nz1 ?_ | (refine vid ?_; first | refine vs_vm [(1, none)] c1 ?_ | refine vs_vm [(1, none)] c2 ?_ | refine vs_eqpn ?_ | refine vs_nepnT ?_ | refine vs_nepnF ?_) | refine nzo ?_ | refine nc ?_ ?_ | (with_reducible intro _ <;> (try (exfalso; omega))) | refine nnil ?_ | (refine nd ?_ ?_ <;> intro hg <;> first | exact xo hg | rw [hg]))
  have hpl := colD_len o.px
  have hl64 : o.px.length ≤ 64 ∧ 1 ≤ o.px.length := by
    have h1 : o.w.toNat ≤ 8 := by omega
    have h2 : o.h.toNat ≤ 8 := by omega
    have h3 : 1 ≤ o.w.toNat := by omega
    have h4 : 1 ≤ o.h.toNat := by omega
    rw [s3]
    exact ⟨Nat.mul_le_mul h1 h2, Nat.mul_le_mul h3 h4⟩
  refine vw_loop (fun i : Nat => ⟨[(74, I .i64 i), (73, I .i64 (o.px.map colD).length), (2, .ptr 0 14), (0, .ptr 0 0)], stS B2 o i, match i with | 0 => 2 | _ + 1 => 3⟩) (fun i => i ≤ o.px.length) (fun i => o.px.length - i) 0 (sub_z) (Nat.zero_le _) fun i hi => ?_
  rcases Nat.lt_or_ge i o.px.length with h | h
  · obtain ⟨x, hx⟩ : ∃ x, o.px[i]? = some x := ⟨_, List.getElem?_eq_getElem h⟩
    have hx' : (o.px.map colD)[((i : Nat) : Int).toNat]? = some (colD x) := by simp [hx]
    have hsz := co_sz o.px
    have htk : o.px.take (i + 1) = o.px.take i ++ [x] := by rw [List.take_add_one, hx]; rfl
    have hps : pxBy (o.px.take (i + 1)) = pxBy (o.px.take i) ++ c4 x := by rw [htk]; simp [pxBy]
    have hpn : (pxBy (o.px.take i)).length ≤ 256 := by rw [pxBy_len, List.length_take]; omega
    cases i with
    | zero =>
      have c := layCo_v B2 x (by omega)
      rw [show B2 ++ c4 x = B2 ++ pxBy (o.px.take (0 + 1)) by rw [hps]; rfl] at c
      simp only [stS]
      repeat' (first | refine nz1 ?_ | (refine vid ?_; first | refine vs_vm [(1, none)] c ?_ | refine vs_vc (hc := vc_of Tryz.func121 rfl Tryz.ntmps121 Tryz.results121 fun _ => ?_) | refine vs_eqpn ?_ | refine vs_nepnT ?_ | refine vs_nepnF ?_) | refine nzo ?_ | refine nc ?_ ?_ | (with_reducible intro _ <;> (try (exfalso; omega))) | refine nnil ?_ | (refine nd ?_ ?_ <;> intro hg <;> first | exact xo hg | rw [hg]))
      refine nx_loop 1 (by omega) (by omega) ?_
      exact (sub_zr [(2, _, _)])
    | succ i =>
      have c := layCoR_v (B2 ++ pxBy (o.px.take (i + 1))) x (by simp; omega)
      rw [List.append_assoc, ← hps] at c
      simp only [stS]
      repeat' (first | refine nz1 ?_ | (refine vid ?_; first | refine vs_vm [(1, none), (2, some _)] c ?_ | refine vs_vc (hc := vc_of Tryz.func121 rfl Tryz.ntmps121 Tryz.results121 fun _ => ?_) | refine vs_eqpn ?_ | refine vs_nepnT ?_ | refine vs_nepnF ?_) | refine nzo ?_ | refine nc ?_ ?_ | (with_reducible intro _ <;> (try (exfalso; omega))) | refine nnil ?_ | (refine nd ?_ ?_ <;> intro hg <;> first | exact xo hg | rw [hg]))
      refine nx_loop (i + 1 + 1) (by omega) (by omega) ?_
      exact (sub_zr [(2, _, _)])
  · cases i with
    | zero => omega
    | succ i =>
      simp only [stS]
      repeat' (first | refine nz1 ?_ | refine nzo ?_ | refine nc ?_ ?_ | (with_reducible intro _ <;> (try (exfalso; omega))) | refine nnil ?_ | (refine nd ?_ ?_ <;> intro hg <;> first | exact xo hg | rw [hg]))
      rw [List.take_of_length_le h]
      refine nx_frz 2 rfl ?_
      exact nx_sub []
end Go.Proofs.YtnjaohdadaifhaaGreat
