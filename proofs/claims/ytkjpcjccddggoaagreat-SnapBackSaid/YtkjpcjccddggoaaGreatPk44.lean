/- Walks by data and names, part 44: Layer 21, by V: which snapshots may be, and are the same. Layer 21, by V: which piles may be; the first piece that is lacking. Layer 21: arguments of its laws, as data. -/
import Derived.Test.YtkjpcjccddggoaaGreatPk40
import Derived.Test.YtkjpcjccddggoaaGreatPk41
import Derived.Test.YtkjpcjccddggoaaGreatPk43
import Derived.Test.YtkjpcjccddggoaaGreatPk42
import Derived.Test.YtkjpcjccddggoaaGreatPk3
import Derived.Test.YtkjpcjccddggoaaGreatPk39
namespace Go.Proofs.YtkjpcjccddggoaaGreat
open Go.RowKit
set_option maxRecDepth 10000
set_option maxHeartbeats 4000000
instance : EqGI Tryz.prog 52 := ⟨by kernel_rfl⟩
theorem sizes05_v (x y : Int) : VP Tryz.prog 96 [i64D x, i64D y] (· = .ret (.lit (.bool (decide (1 ≤ x ∧ x ≤ 4 ∧ 1 ≤ y ∧ y ≤ 4))))) := by
  refine vp_of Tryz.func96 rfl Tryz.ntmps96 rfl Tryz.results96 fun B => ?_
  repeat' (first | fail | fail | refine nzl ?_ | refine nzd ?_ | ((first | with_reducible refine vl_id ?_ | with_reducible refine vd_id ?_); first | fail) | refine nzo ?_ | refine nc ?_ ?_ | (with_reducible intro _ <;> (try (exfalso; omega))) | refine vs_eqnil ?_ | refine vs_nenil ?_ | (refine nd ?_ ?_ <;> intro hg <;> (first | (exfalso; (try simp only [decide_eq_true_eq, decide_eq_false_iff_not] at hg); omega) | rw [hg])) | fail)
  all_goals simp [*]
theorem right05_v (c : Cv) : VP Tryz.prog 60 [.agg (cvD c)] (· = .ret (.lit (.bool (cvB c)))) := by
  have hl : (c.L.map tlD).length = c.L.length := List.length_map _
  have cs := sizes05_v c.x c.y
  simp only [cvD]
  by_cases h : 1 ≤ c.x ∧ c.x ≤ 4 ∧ 1 ≤ c.y ∧ c.y ≤ 4
  · have hm := mul_le c.x c.y h.1 h.2.1 h.2.2.1 h.2.2.2
    rw [decide_eq_true h] at cs
    refine vp_of Tryz.func60 rfl Tryz.ntmps60 rfl Tryz.results60 fun B => ?_
    repeat' (first | fail | fail | refine nzl ?_ | refine nzd ?_ | ((first | with_reducible refine vl_id ?_ | with_reducible refine vd_id ?_); first | refine cz (cs) ?_) | refine nzo ?_ | refine nc ?_ ?_ | (with_reducible intro _ <;> (try (exfalso; omega))) | refine vs_eqnil ?_ | refine vs_nenil ?_ | (refine nd ?_ ?_ <;> intro hg <;> (first | (exfalso; (try simp only [decide_eq_true_eq, decide_eq_false_iff_not] at hg); omega) | rw [hg])) | fail)
    all_goals (simp only [cvB, canOk, hl, h, true_and])
  · rw [decide_eq_false h] at cs
    refine vp_of Tryz.func60 rfl Tryz.ntmps60 rfl Tryz.results60 fun B => ?_
    repeat' (first | fail | fail | refine nzl ?_ | refine nzd ?_ | ((first | with_reducible refine vl_id ?_ | with_reducible refine vd_id ?_); first | refine cz (cs) ?_) | refine nzo ?_ | refine nc ?_ ?_ | (with_reducible intro _ <;> (try (exfalso; omega))) | refine vs_eqnil ?_ | refine vs_nenil ?_ | (refine nd ?_ ?_ <;> intro hg <;> (first | (exfalso; (try simp only [decide_eq_true_eq, decide_eq_false_iff_not] at hg); omega) | rw [hg])) | fail)
    all_goals (rw [show cvB c = false by simp only [cvB, canOk]; exact decide_eq_false fun e => h ⟨e.1, e.2.1, e.2.2.1, e.2.2.2.1⟩])
theorem alike_v (c d : Cv) (h : All64 c.L) (h' : All64 d.L) : VP Tryz.prog 64 [.agg (cvD c), .agg (cvD d)] (· = .ret (.lit (.bool (decide (c = d))))) := by
  have ce := equalT_v c.L d.L h h'
  obtain ⟨x, y, L⟩ := c
  obtain ⟨x', y', L'⟩ := d
  simp only [cvD, Cv.mk.injEq] at *
  refine vp_of Tryz.func64 rfl Tryz.ntmps64 rfl Tryz.results64 fun B => ?_
  repeat' (first | fail | fail | refine nzl ?_ | refine nzd ?_ | ((first | with_reducible refine vl_id ?_ | with_reducible refine vd_id ?_); first | refine cz (ce) ?_) | refine nzo ?_ | refine nc ?_ ?_ | (with_reducible intro _ <;> (try (exfalso; omega))) | refine vs_eqnil ?_ | refine vs_nenil ?_ | (refine nd ?_ ?_ <;> intro hg <;> (first | (exfalso; (try simp only [decide_eq_true_eq, decide_eq_false_iff_not] at hg); omega) | rw [hg])) | fail)
  all_goals simp [*]
/-- a snapshot -/
structure Sn where
  c : Cv
  f : Nat
  s : Nat
  v : Vc
deriving DecidableEq
abbrev snD (s : Sn) : List D := [i64D s.c.x, i64D s.c.y, .sl false false (s.c.L.map tlD), u64D s.f, u64D s.s, u64D s.v.n0, u64D s.v.n1, u64D s.v.n2, u64D s.v.n3, u64D s.v.n4, u64D s.v.n5, u64D s.v.n6, u64D s.v.n7, u64D s.v.n8]
abbrev snN (s : Sn) : List D := [i64D s.c.x, i64D s.c.y, .sl false true (s.c.L.map tlD), u64D s.f, u64D s.s, u64D s.v.n0, u64D s.v.n1, u64D s.v.n2, u64D s.v.n3, u64D s.v.n4, u64D s.v.n5, u64D s.v.n6, u64D s.v.n7, u64D s.v.n8]
def snB (s : Sn) : Bool := cvB s.c && decide (s.f ≤ s.s) && decide (s.s ≤ 4611686018427387904) && vcB s.v
theorem sncheck_v (s : Sn) (h : All64 s.c.L) : VP Tryz.prog 18 [.agg (snD s)] (· = .ret (i64D (if snB s then 0 else 310))) := by
  have cc := ccheck_v s.c h
  have cv := vcheck_v s.v
  simp only [snD, cvD, vcD] at *
  refine vp_of Tryz.func18 rfl Tryz.ntmps18 rfl Tryz.results18 fun B => ?_
  repeat' (first | fail | fail | refine nzl ?_ | refine nzd ?_ | ((first | with_reducible refine vl_id ?_ | with_reducible refine vd_id ?_); first | refine cz (cc) ?_ | refine cz (cv) ?_) | refine nzo ?_ | refine nc ?_ ?_ | (with_reducible intro _ <;> (try (exfalso; omega))) | refine vs_eqnil ?_ | refine vs_nenil ?_ | (refine nd ?_ ?_ <;> intro hg <;> (first | (exfalso; (try simp only [decide_eq_true_eq, decide_eq_false_iff_not] at hg); omega) | rw [hg])) | fail)
  all_goals (simp_all [snB]; try omega)
theorem snright_v (s : Sn) : VP Tryz.prog 17 [.agg (snD s)] (· = .ret (.lit (.bool (snB s)))) := by
  have cc := right05_v s.c
  have cv := right13_v s.v
  simp only [snD, cvD, vcD, snB] at *
  generalize cvB s.c = cb at *
  generalize vcB s.v = vb at *
  refine vp_of Tryz.func17 rfl Tryz.ntmps17 rfl Tryz.results17 fun B => ?_
  repeat' (first | fail | fail | refine nzl ?_ | refine nzd ?_ | ((first | with_reducible refine vl_id ?_ | with_reducible refine vd_id ?_); first | refine cz (cc) ?_ | refine cz (cv) ?_) | refine nzo ?_ | refine nc ?_ ?_ | (with_reducible intro _ <;> (try (exfalso; omega))) | refine vs_eqnil ?_ | refine vs_nenil ?_ | (refine nd ?_ ?_ <;> intro hg <;> (first | (exfalso; (try simp only [decide_eq_true_eq, decide_eq_false_iff_not] at hg); omega) | rw [hg])) | fail)
  all_goals (simp_all; try omega)
abbrev vcL (v : Vc) : List Int := [v.n0, v.n1, v.n2, v.n3, v.n4, v.n5, v.n6, v.n7, v.n8]
theorem vc_iff (v u : Vc) : v = u ↔ vcL v = vcL u := by
  obtain ⟨a0, a1, a2, a3, a4, a5, a6, a7, a8⟩ := v
  obtain ⟨b0, b1, b2, b3, b4, b5, b6, b7, b8⟩ := u
  simp only [Vc.mk.injEq, List.cons.injEq, Int.natCast_inj, and_true]
theorem sn_iff (s t : Sn) : s = t ↔ (s.f : Int) = t.f ∧ (s.s : Int) = t.s ∧ vcL s.v = vcL t.v ∧ s.c = t.c := by
  rw [← vc_iff]
  obtain ⟨c, f, e, v⟩ := s
  obtain ⟨c', f', e', v'⟩ := t
  simp only [Sn.mk.injEq, Int.natCast_inj]
  constructor
  · rintro ⟨h1, h2, h3, h4⟩; exact ⟨h2, h3, h4, h1⟩
  · rintro ⟨h2, h3, h4, h1⟩; exact ⟨h1, h2, h3, h4⟩
theorem snsame_v (s t : Sn) (h : All64 s.c.L) (h' : All64 t.c.L) : VP Tryz.prog 19 [.agg (snD s), .agg (snD t)] (· = .ret (.lit (.bool (decide (s = t))))) := by
  have ca := alike_v s.c t.c h h'
  simp only [snD, cvD] at *
  refine vp_of Tryz.func19 rfl Tryz.ntmps19 rfl Tryz.results19 fun B => ?_
  repeat' (first | fail | fail | refine nzl ?_ | refine nzd ?_ | ((first | with_reducible refine vl_id ?_ | with_reducible refine vd_id ?_); first | refine cz (ca) ?_ | refine vs_equ ?_) | refine nzo ?_ | refine nc ?_ ?_ | (with_reducible intro _ <;> (try (exfalso; omega))) | refine vs_eqnil ?_ | refine vs_nenil ?_ | (refine nd ?_ ?_ <;> intro hg <;> (first | (exfalso; (try simp only [decide_eq_true_eq, decide_eq_false_iff_not] at hg); omega) | rw [hg])) | fail)
  all_goals (simp only [decide_eq_decide, sn_iff, R.ret.injEq, D.lit.injEq, Value.bool.injEq]; simp_all)
theorem rsnsame_v (s t : Sn) (h : All64 s.c.L) (h' : All64 t.c.L) (hl : s.c.L.length ≤ 1000000) : VP Tryz.prog 20 [.agg (snD s), .agg (snD t)] (· = .ret (.lit (.bool (decide (s = t))))) := by
  have ca := rsame05_v s.c t.c h h' hl
  simp only [snD, cvD] at *
  refine vp_of Tryz.func20 rfl Tryz.ntmps20 rfl Tryz.results20 fun B => ?_
  repeat' (first | fail | fail | refine nzl ?_ | refine nzd ?_ | ((first | with_reducible refine vl_id ?_ | with_reducible refine vd_id ?_); first | refine cz (ca) ?_ | refine vs_equ ?_) | refine nzo ?_ | refine nc ?_ ?_ | (with_reducible intro _ <;> (try (exfalso; omega))) | refine vs_eqnil ?_ | refine vs_nenil ?_ | (refine nd ?_ ?_ <;> intro hg <;> (first | (exfalso; (try simp only [decide_eq_true_eq, decide_eq_false_iff_not] at hg); omega) | rw [hg])) | fail)
  all_goals (simp only [decide_eq_decide, sn_iff, R.ret.injEq, D.lit.injEq, Value.bool.injEq]; simp_all)
end Go.Proofs.YtkjpcjccddggoaaGreat

namespace Go.Proofs.YtkjpcjccddggoaaGreat
open Go.RowKit
set_option maxRecDepth 10000
set_option maxHeartbeats 4000000
/-- a pile -/
structure Pi where
  snap : Int
  many : Int
  parts : List (List UInt8)
deriving DecidableEq
abbrev piD (p : Pi) : List D := [u64D p.snap, i64D p.many, .sl false false (p.parts.map fD)]
instance dlss_fD (l : List (List UInt8)) : DLss (l.map fD) (l.map fD) := dlss_map l _ _ (fun _ => inferInstance) (fun _ => rfl)
def comeB (b : List UInt8) : Bool := decide (0 < b.length)
theorem come_v (b : List UInt8) : VP Tryz.prog 49 [bsD b] (· = .ret (.lit (.bool (comeB b)))) := by
  have hl := byD_len b
  refine vp_of Tryz.func49 rfl Tryz.ntmps49 rfl Tryz.results49 fun B => ?_
  repeat' (first | fail | fail | refine nzl ?_ | refine nzd ?_ | ((first | with_reducible refine vl_id ?_ | with_reducible refine vd_id ?_); first | fail) | refine nzo ?_ | refine nc ?_ ?_ | (with_reducible intro _ <;> (try (exfalso; omega))) | refine vs_eqnil ?_ | refine vs_nenil ?_ | (refine nd ?_ ?_ <;> intro hg <;> (first | (exfalso; (try simp only [decide_eq_true_eq, decide_eq_false_iff_not] at hg); omega) | rw [hg])) | fail)
  all_goals simp [comeB]
theorem ncome_v (b : List UInt8) : VP Tryz.prog 55 [bsD b] (· = .ret (.lit (.bool (!comeB b)))) := by
  have c := come_v b
  generalize comeB b = r at *
  refine vp_of Tryz.func55 rfl Tryz.ntmps55 rfl Tryz.results55 fun B => ?_
  repeat' (first | fail | fail | refine nzl ?_ | refine nzd ?_ | ((first | with_reducible refine vl_id ?_ | with_reducible refine vd_id ?_); first | refine cz (c) ?_) | refine nzo ?_ | refine nc ?_ ?_ | (with_reducible intro _ <;> (try (exfalso; omega))) | refine vs_eqnil ?_ | refine vs_nenil ?_ | (refine nd ?_ ?_ <;> intro hg <;> (first | (exfalso; (try simp only [decide_eq_true_eq, decide_eq_false_iff_not] at hg); omega) | rw [hg])) | fail)
  all_goals rfl
def anyI (p : Nat → List UInt8 → Bool) : Nat → List (List UInt8) → Bool
  | _, [] => false
  | i, x :: l => p i x || anyI p (i + 1) l
theorem some_v {f : FuncId} {ca : List D} (l : List (List UInt8)) (p : Nat → List UInt8 → Bool) (hcall : ∀ (i : Nat) x, l[i]? = some x → VP Tryz.prog f (i64D i :: bsD x :: ca) (· = .ret (.lit (.bool (p i x))))) [DLs ca ca] :
    VP Tryz.prog 52 [.sl false false (l.map fD), .fn f [] ca] (· = .ret (.lit (.bool (anyI p 0 l)))) := by
  refine vp_of Tryz.func52 rfl Tryz.ntmps52 rfl Tryz.results52 fun B => ?_
  repeat' (first | fail | fail | refine nzl ?_ | refine nzd ?_ | ((first | with_reducible refine vl_id ?_ | with_reducible refine vd_id ?_); first | fail) | refine nzo ?_ | refine nc ?_ ?_ | (with_reducible intro _ <;> (try (exfalso; omega))) | refine vs_eqnil ?_ | refine vs_nenil ?_ | (refine nd ?_ ?_ <;> intro hg <;> (first | (exfalso; (try simp only [decide_eq_true_eq, decide_eq_false_iff_not] at hg); omega) | rw [hg])) | fail)
  refine vw_each 7 l fD (fun (i : Nat) (_ : Unit) => ⟨[(9, I .i64 i), (8, I .i64 (l.map fD).length), (7, .d (.sl false false (l.map fD))), (1, .d (.fn f [] ca))], [], 0⟩) (fun i _ => anyI p 0 l = anyI p i (l.drop i)) () (sub_z) rfl (fun i y x hT hi hx hx' hlt hlm hlen hdr => ?_) (fun y hT hlt hlm => ?_)
  · rw [hdr] at hT
    have c := hcall i x hx
    repeat' (first | fail | fail | refine nzl ?_ | refine nzd ?_ | ((first | with_reducible refine vl_id ?_ | with_reducible refine vd_id ?_); first | refine cz (c) ?_) | refine nzo ?_ | refine nc ?_ ?_ | (with_reducible intro _ <;> (try (exfalso; omega))) | refine vs_eqnil ?_ | refine vs_nenil ?_ | (refine nd ?_ ?_ <;> intro hg <;> (first | (exfalso; (try simp only [decide_eq_true_eq, decide_eq_false_iff_not] at hg); omega) | rw [hg])) | fail)
    · rw [hT]; simp_all [anyI]
    · refine nx_each () hi ?_ (sub_z); rw [hT]; simp_all [anyI]
  · repeat' (first | fail | fail | refine nzl ?_ | refine nzd ?_ | ((first | with_reducible refine vl_id ?_ | with_reducible refine vd_id ?_); first | fail) | refine nzo ?_ | refine nc ?_ ?_ | (with_reducible intro _ <;> (try (exfalso; omega))) | refine vs_eqnil ?_ | refine vs_nenil ?_ | (refine nd ?_ ?_ <;> intro hg <;> (first | (exfalso; (try simp only [decide_eq_true_eq, decide_eq_false_iff_not] at hg); omega) | rw [hg])) | fail)
    rw [hT, List.drop_of_length_le (Nat.le_refl _)]; rfl
def idxP (p : List UInt8 → Bool) : Nat → List (List UInt8) → Int
  | _, [] => -1
  | i, x :: l => if p x then i else idxP p (i + 1) l
theorem idxF_v {f : FuncId} {ca : List D} (l : List (List UInt8)) (p : List UInt8 → Bool) (hcall : ∀ x, VP Tryz.prog f (bsD x :: ca) (· = .ret (.lit (.bool (p x))))) [DLs ca ca] :
    VP Tryz.prog 54 [.sl false false (l.map fD), .fn f [] ca] (· = .ret (i64D (idxP p 0 l))) := by
  refine vp_of Tryz.func54 rfl Tryz.ntmps54 rfl Tryz.results54 fun B => ?_
  repeat' (first | fail | fail | refine nzl ?_ | refine nzd ?_ | ((first | with_reducible refine vl_id ?_ | with_reducible refine vd_id ?_); first | fail) | refine nzo ?_ | refine nc ?_ ?_ | (with_reducible intro _ <;> (try (exfalso; omega))) | refine vs_eqnil ?_ | refine vs_nenil ?_ | (refine nd ?_ ?_ <;> intro hg <;> (first | (exfalso; (try simp only [decide_eq_true_eq, decide_eq_false_iff_not] at hg); omega) | rw [hg])) | fail)
  refine vw_each 0 l fD (fun (i : Nat) (_ : Unit) => ⟨[(8, I .i64 i), (7, I .i64 (l.map fD).length), (0, .d (.sl false false (l.map fD))), (1, .d (.fn f [] ca))], [], 0⟩) (fun i _ => idxP p 0 l = idxP p i (l.drop i)) () (sub_z) rfl (fun i y x hT hi hx hx' hlt hlm hlen hdr => ?_) (fun y hT hlt hlm => ?_)
  · rw [hdr] at hT
    have c := hcall x
    repeat' (first | fail | fail | refine nzl ?_ | refine nzd ?_ | ((first | with_reducible refine vl_id ?_ | with_reducible refine vd_id ?_); first | refine cz (c) ?_) | refine nzo ?_ | refine nc ?_ ?_ | (with_reducible intro _ <;> (try (exfalso; omega))) | refine vs_eqnil ?_ | refine vs_nenil ?_ | (refine nd ?_ ?_ <;> intro hg <;> (first | (exfalso; (try simp only [decide_eq_true_eq, decide_eq_false_iff_not] at hg); omega) | rw [hg])) | fail)
    · rw [hT]; simp_all [idxP]
    · refine nx_each () hi ?_ (sub_z); rw [hT]; simp_all [idxP]
  · repeat' (first | fail | fail | refine nzl ?_ | refine nzd ?_ | ((first | with_reducible refine vl_id ?_ | with_reducible refine vd_id ?_); first | fail) | refine nzo ?_ | refine nc ?_ ?_ | (with_reducible intro _ <;> (try (exfalso; omega))) | refine vs_eqnil ?_ | refine vs_nenil ?_ | (refine nd ?_ ?_ <;> intro hg <;> (first | (exfalso; (try simp only [decide_eq_true_eq, decide_eq_false_iff_not] at hg); omega) | rw [hg])) | fail)
    rw [hT, List.drop_of_length_le (Nat.le_refl _)]; rfl
theorem contF_v {f : FuncId} {ca : List D} (l : List (List UInt8)) (p : List UInt8 → Bool) (hcall : ∀ x, VP Tryz.prog f (bsD x :: ca) (· = .ret (.lit (.bool (p x))))) [DLs ca ca] :
    VP Tryz.prog 53 [.sl false false (l.map fD), .fn f [] ca] (· = .ret (.lit (.bool (decide (0 ≤ idxP p 0 l))))) := by
  have c := idxF_v l p hcall
  refine vp_of Tryz.func53 rfl Tryz.ntmps53 rfl Tryz.results53 fun B => ?_
  repeat' (first | fail | fail | refine nzl ?_ | refine nzd ?_ | ((first | with_reducible refine vl_id ?_ | with_reducible refine vd_id ?_); first | refine cz (c) ?_) | refine nzo ?_ | refine nc ?_ ?_ | (with_reducible intro _ <;> (try (exfalso; omega))) | refine vs_eqnil ?_ | refine vs_nenil ?_ | (refine nd ?_ ?_ <;> intro hg <;> (first | (exfalso; (try simp only [decide_eq_true_eq, decide_eq_false_iff_not] at hg); omega) | rw [hg])) | fail)
  all_goals rfl
def wrongB (m : Int) (i : Nat) (x : List UInt8) : Bool := comeB x && !partB i m x.length
theorem wrong_v (p : Pi) (i : Nat) (x : List UInt8) (hm : 1 ≤ p.many ∧ p.many ≤ 64) : VP Tryz.prog 48 [i64D i, bsD x, .pt (piD p)] (· = .ret (.lit (.bool (wrongB p.many i x)))) := by
  have c := come_v x
  have hl := byD_len x
  have cf := fits_v i p.many (byD x).length (by omega) (by omega)
  unfold wrongB
  rw [hl] at cf
  generalize comeB x = r1 at *
  generalize partB i p.many x.length = r2 at *
  rw [← hl] at cf
  simp only [piD]
  refine vp_of Tryz.func48 rfl Tryz.ntmps48 rfl Tryz.results48 fun B => ?_
  repeat' (first | fail | fail | refine nzl ?_ | refine nzd ?_ | ((first | with_reducible refine vl_id ?_ | with_reducible refine vd_id ?_); first | refine cz (c) ?_ | refine cz (cf) ?_) | refine nzo ?_ | refine nc ?_ ?_ | (with_reducible intro _ <;> (try (exfalso; omega))) | refine vs_eqnil ?_ | refine vs_nenil ?_ | (refine nd ?_ ?_ <;> intro hg <;> (first | (exfalso; (try simp only [decide_eq_true_eq, decide_eq_false_iff_not] at hg); omega) | rw [hg])) | fail)
  all_goals (cases r1 <;> cases r2 <;> simp_all)
def piZ (p : Pi) : Bool := decide (p.snap = 0) && decide (p.many = 0) && decide (p.parts.length = 0)
def piB (p : Pi) : Bool := piZ p || (numB p.snap && decide (1 ≤ p.many) && decide (p.many ≤ 64) && decide ((p.parts.length : Int) = p.many) && !anyI (wrongB p.many) 0 p.parts && decide (0 ≤ idxP comeB 0 p.parts))
theorem chk_v (p : Pi) : VP Tryz.prog 11 [.agg (piD p)] (· = .ret (i64D (if piB p then 0 else 312))) := by
  have hl : (p.parts.map fD).length = p.parts.length := List.length_map _
  have cn := number_v p.snap
  have cc := contF_v (ca := []) p.parts comeB come_v
  simp only [piD]
  by_cases hm : 1 ≤ p.many ∧ p.many ≤ 64
  · have cs := some_v (ca := [.pt (piD p)]) p.parts (wrongB p.many) (fun i x _ => wrong_v p i x hm)
    simp only [piD] at cs
    refine vp_of Tryz.func11 rfl Tryz.ntmps11 rfl Tryz.results11 fun B => ?_
    repeat' (first | fail | fail | refine nzl ?_ | refine nzd ?_ | ((first | with_reducible refine vl_id ?_ | with_reducible refine vd_id ?_); first | refine cz (cn) ?_ | refine cz (cc) ?_ | refine cz (cs) ?_) | refine nzo ?_ | refine nc ?_ ?_ | (with_reducible intro _ <;> (try (exfalso; omega))) | refine vs_eqnil ?_ | refine vs_nenil ?_ | (refine nd ?_ ?_ <;> intro hg <;> (first | (exfalso; (try simp only [decide_eq_true_eq, decide_eq_false_iff_not] at hg); omega) | rw [hg])) | fail)
    all_goals (rcases Bool.eq_false_or_eq_true (piB p) with hx | hx <;> rw [hx])
    all_goals first | rfl | (exfalso; simp only [piB, piZ] at hx; simp_all; fail_if_success (focus skip)) | (exfalso; simp only [piB, piZ] at hx; simp_all; omega) | trace_state
  · refine vp_of Tryz.func11 rfl Tryz.ntmps11 rfl Tryz.results11 fun B => ?_
    repeat' (first | fail | fail | refine nzl ?_ | refine nzd ?_ | ((first | with_reducible refine vl_id ?_ | with_reducible refine vd_id ?_); first | refine cz (cn) ?_ | refine cz (cc) ?_) | refine nzo ?_ | refine nc ?_ ?_ | (with_reducible intro _ <;> (try (exfalso; omega))) | refine vs_eqnil ?_ | refine vs_nenil ?_ | (refine nd ?_ ?_ <;> intro hg <;> (first | (exfalso; (try simp only [decide_eq_true_eq, decide_eq_false_iff_not] at hg); omega) | rw [hg])) | fail)
    all_goals (rcases Bool.eq_false_or_eq_true (piB p) with hx | hx <;> rw [hx])
    all_goals first | rfl | (exfalso; simp only [piB, piZ] at hx; simp_all; fail_if_success (focus skip)) | (exfalso; simp only [piB, piZ] at hx; simp_all; omega) | trace_state
end Go.Proofs.YtkjpcjccddggoaaGreat

namespace Go.Proofs.YtkjpcjccddggoaaGreat
open Go.RowKit
def I64 (n : Int) : Prop := -9223372036854775808 ≤ n ∧ n ≤ 9223372036854775807
def U64 (n : Int) : Prop := 0 ≤ n ∧ n ≤ 18446744073709551615
theorem opn_int : Opn Tryz.prog 3 I64 (fun n => [.lit (.int .i64 n)]) := Opn.i64 Tryz.underlying3 (by kernel_rfl)
theorem opn_u64 : Opn Tryz.prog 22 U64 (fun n => [.lit (.int .u64 n)]) := (Opn.int Tryz.underlying22 (by kernel_rfl)).map (fun y h => ⟨y, by have := bounds_u64 h; exact this, rfl⟩) (fun _ _ => by rw [show Tryz.prog.cellsOf 22 = 1 by kernel_rfl]; rfl)
theorem opn_u8 : Opn Tryz.prog 5 (fun _ : UInt8 => True) (fun y => [.lit (vb y)]) := Opn.u8 Tryz.underlying5 (by kernel_rfl)
theorem opn_by : Opn Tryz.prog 23 (fun b : List UInt8 => b.length ≤ 9223372036854775807) (fun b => [.sl false false (byD b)]) :=
  (Opn.slice opn_u8 Tryz.underlying23 (by rw [show Tryz.prog.cellsOf 5 = 1 by kernel_rfl]; omega) (by kernel_rfl)).map (fun y h => ⟨y, h.2, rfl⟩) (fun z hz => by rw [show Tryz.prog.cellsOf 23 = 1 by kernel_rfl]; rfl)
theorem opn_ints : Opn Tryz.prog 24 (fun l : List Int => ∀ x ∈ l, I64 x) (fun l => [.sl false false (l.map fun x => [.lit (.int .i64 x)])]) :=
  (Opn.slice opn_int Tryz.underlying24 (by rw [show Tryz.prog.cellsOf 3 = 1 by kernel_rfl]; omega) (by kernel_rfl)).map (fun y h => ⟨y, h.1, rfl⟩) (fun z hz => by rw [show Tryz.prog.cellsOf 24 = 1 by kernel_rfl]; rfl)
theorem opn_col : Opn Tryz.prog 107 (fun _ : Col => True) (fun c => [.lit (vb c.r), .lit (vb c.g), .lit (vb c.b), .lit (vb c.a)]) :=
  (Opn.struct (tot := 4) Tryz.underlying107 (by kernel_rfl) (OpnF.cons opn_u8 rfl (OpnF.cons opn_u8 (by kernel_rfl) (OpnF.cons opn_u8 (by kernel_rfl) (OpnF.cons opn_u8 (by kernel_rfl) (OpnF.nil (by kernel_rfl))))))).map
    (fun y _ => ⟨⟨y.1, y.2.1, y.2.2.1, y.2.2.2.1⟩, trivial, rfl⟩) (fun z hz => by rw [show Tryz.prog.cellsOf 107 = 4 by kernel_rfl]; rfl)
theorem tl_eq (T : List Col) : tlD T = T.flatMap fun c => [.lit (vb c.r), .lit (vb c.g), .lit (vb c.b), .lit (vb c.a)] := by
  unfold tlD tcells
  rw [List.map_flatMap]
  rfl
theorem opn_tile : Opn Tryz.prog 109 (fun T : List Col => T.length = 64) tlD :=
  (Opn.array (n := 64) opn_col Tryz.underlying109 (by kernel_rfl)).map (fun y h => ⟨y, h.1, tl_eq y⟩) (fun z hz => by rw [tlD_len hz, show Tryz.prog.cellsOf 109 = 256 by kernel_rfl])
theorem opn_tiles : Opn Tryz.prog 48 (fun L : List (List Col) => All64 L) (fun L => [.sl false false (L.map tlD)]) :=
  (Opn.slice opn_tile Tryz.underlying48 (by rw [show Tryz.prog.cellsOf 109 = 256 by kernel_rfl]; omega) (by kernel_rfl)).map (fun y h => ⟨y, h.1, rfl⟩) (fun z hz => by rw [show Tryz.prog.cellsOf 48 = 1 by kernel_rfl]; rfl)
theorem opn_cv : Opn Tryz.prog 50 (fun c : Cv => All64 c.L) cvD :=
  (Opn.struct (tot := 3) Tryz.underlying50 (by kernel_rfl) (OpnF.cons opn_int rfl (OpnF.cons opn_int (by kernel_rfl) (OpnF.cons opn_tiles (by kernel_rfl) (OpnF.nil (by kernel_rfl)))))).map
    (fun y h => ⟨⟨y.1, y.2.1, y.2.2.1⟩, h.2.2.1, rfl⟩) (fun z hz => by rw [show Tryz.prog.cellsOf 50 = 3 by kernel_rfl]; rfl)
theorem opn_vc : Opn Tryz.prog 52 (fun _ : Vc => True) vcD :=
  (Opn.array (n := 9) opn_u64 Tryz.underlying52 (by kernel_rfl)).map (fun y h => by
    obtain ⟨h1, h2⟩ := h
    match y, h1, h2 with
    | [a, b, c, d, e, f, g, i, j], _, h2 =>
      have q : ∀ x ∈ [a, b, c, d, e, f, g, i, j], ((x.toNat : Nat) : Int) = x := fun x hx => Int.toNat_of_nonneg (h2 x hx).1
      refine ⟨⟨a.toNat, b.toNat, c.toNat, d.toNat, e.toNat, f.toNat, g.toNat, i.toNat, j.toNat⟩, trivial, ?_⟩
      simp only [vcD, u64D]
      rw [q a (by simp), q b (by simp), q c (by simp), q d (by simp), q e (by simp), q f (by simp), q g (by simp), q i (by simp), q j (by simp)]
      rfl) (fun z hz => by rw [show Tryz.prog.cellsOf 52 = 9 by kernel_rfl]; rfl)
theorem opn_sn : Opn Tryz.prog 54 (fun s : Sn => All64 s.c.L) snD :=
  (Opn.struct (tot := 14) Tryz.underlying54 (by kernel_rfl) (OpnF.cons opn_cv rfl (OpnF.cons opn_u64 (by kernel_rfl) (OpnF.cons opn_u64 (by kernel_rfl) (OpnF.cons opn_vc (by kernel_rfl) (OpnF.nil (by kernel_rfl))))))).map
    (fun y h => ⟨⟨y.1, y.2.1.toNat, y.2.2.1.toNat, y.2.2.2.1⟩, h.1, by
      have q1 : ((y.2.1.toNat : Nat) : Int) = y.2.1 := Int.toNat_of_nonneg h.2.1.1
      have q2 : ((y.2.2.1.toNat : Nat) : Int) = y.2.2.1 := Int.toNat_of_nonneg h.2.2.1.1
      simp only [snD, u64D]
      rw [q1, q2]
      rfl⟩) (fun z hz => by rw [show Tryz.prog.cellsOf 54 = 14 by kernel_rfl]; rfl)
theorem opn_pc : Opn Tryz.prog 35 (fun _ : Pc => True) pcD :=
  (Opn.struct (tot := 4) Tryz.underlying35 (by kernel_rfl) (OpnF.cons opn_u64 rfl (OpnF.cons opn_int (by kernel_rfl) (OpnF.cons opn_int (by kernel_rfl) (OpnF.cons opn_by (by kernel_rfl) (OpnF.nil (by kernel_rfl))))))).map
    (fun y _ => ⟨⟨y.1, y.2.1, y.2.2.1, y.2.2.2.1⟩, trivial, rfl⟩) (fun z hz => by rw [show Tryz.prog.cellsOf 35 = 4 by kernel_rfl]; rfl)
theorem opn_pcs : Opn Tryz.prog 26 (fun _ : List Pc => True) (fun l => [.sl false false (l.map pcD)]) :=
  (Opn.slice opn_pc Tryz.underlying26 (by rw [show Tryz.prog.cellsOf 35 = 4 by kernel_rfl]; omega) (by kernel_rfl)).map (fun y h => ⟨y, trivial, rfl⟩) (fun z hz => by rw [show Tryz.prog.cellsOf 26 = 1 by kernel_rfl]; rfl)
theorem opn_parts : Opn Tryz.prog 30 (fun _ : List (List UInt8) => True) (fun l => [.sl false false (l.map fD)]) :=
  (Opn.slice opn_by Tryz.underlying30 (by rw [show Tryz.prog.cellsOf 23 = 1 by kernel_rfl]; omega) (by kernel_rfl)).map (fun y h => ⟨y, trivial, rfl⟩) (fun z hz => by rw [show Tryz.prog.cellsOf 30 = 1 by kernel_rfl]; rfl)
theorem opn_pi : Opn Tryz.prog 32 (fun p : Pi => I64 p.many) piD :=
  (Opn.struct (tot := 3) Tryz.underlying32 (by kernel_rfl) (OpnF.cons opn_u64 rfl (OpnF.cons opn_int (by kernel_rfl) (OpnF.cons opn_parts (by kernel_rfl) (OpnF.nil (by kernel_rfl)))))).map
    (fun y h => ⟨⟨y.1, y.2.1, y.2.2.1⟩, h.2.1, rfl⟩) (fun z hz => by rw [show Tryz.prog.cellsOf 32 = 3 by kernel_rfl]; rfl)
end Go.Proofs.YtkjpcjccddggoaaGreat

namespace Go.Proofs.YtkjpcjccddggoaaGreat
set_option maxRecDepth 20000
open Go.RowKit
theorem Bytes.sliced {w : World} {a : Option Addr} {n c lo hi m : Nat} {l : List UInt8} (h : Bytes w (.slice a n c) l) (h1 : lo ≤ hi) (h2 : hi ≤ l.length) (h3 : hi ≤ m) (h4 : m ≤ c) :
    ∃ a' c', sliced a lo hi m 1 = .slice a' (hi - lo) c' ∧ Bytes w (.slice a' (hi - lo) c') ((l.drop lo).take (hi - lo)) := by
  obtain ⟨a0, c0, e, q1, q2, q3, q4⟩ := h
  cases e
  have hlen : ((l.drop lo).take (hi - lo)).length = hi - lo := by simp; omega
  refine ⟨_, _, rfl, ?_⟩
  refine ⟨_, m - lo, by rw [hlen], by rw [hlen]; omega, Nat.le_trans (Nat.sub_le _ _) (Nat.le_trans h4 q2), ?_, ?_⟩
  · intro hn
    split at hn
    · rename_i e; omega
    · cases a with
      | none => have := q3 rfl; omega
      | some x => simp at hn
  · intro j u hu
    have hj : j < hi - lo := by have := (List.getElem?_eq_some_iff.1 hu).1; simp at this; omega
    have hu' : (l.map vb)[lo + j]? = some u := by rw [← hu]; simp [List.getElem?_drop, hj]
    obtain ⟨b, o, e1, hc⟩ := q4 (lo + j) u hu'
    subst e1
    rw [if_neg (by omega)]
    refine ⟨b, o + lo, ?_, by rw [Nat.add_assoc]; exact hc⟩
    simp only [Option.map_some, Nat.mul_one]
    unfold Addr.add
    split
    · rename_i e; simp [e]
    · rfl
theorem u8_sz (w : World) : (sizeOf (Tryz.prog.elem 23)).run Tryz.prog w = .ok 1 w := by kernel_rfl
section
variable {ops : Array Oper} {Q : Exit → Act → World → Prop} {rest : List Oper} {a : Act} {w : World} {dst : Option Tmp} {p q r : Operand} {ty : TypeId} {pos : String} {af : Array Edge} {g : Option (Nat × Bool)} {ad : Option Addr} {n c : Nat} {l : List UInt8}
theorem wl_slice_l (lo : Nat) (hw : Region.wanted ⟨dst, .slice 23 p (some q) none none, ty, pos, af, g⟩ (yielded ops a.tmps) = true) (hp : a.eval p = .slice ad n c) (hq : a.eval q = .int .i64 lo) (hb : Bytes w (.slice ad n c) l) (h1 : lo ≤ l.length)
    (hk : ∀ a' c', Bytes w (.slice a' (l.length - lo) c') (l.drop lo) → wpList Tryz.prog ops Q rest (a.put dst (.slice a' (l.length - lo) c')) w) : wpList Tryz.prog ops Q (⟨dst, .slice 23 p (some q) none none, ty, pos, af, g⟩ :: rest) a w := by
  have hb0 := hb
  obtain ⟨a0, c0, e, q1, _⟩ := hb0
  cases e
  obtain ⟨a', c', e1, hb'⟩ := Bytes.sliced hb h1 (Nat.le_refl _) q1 (Nat.le_refl _)
  rw [List.take_of_length_le (by simp)] at hb'
  refine wl_of hw ?_ (hk a' c' hb')
  have h := run_slice_l (P := Tryz.prog) (w := w) 23 ad l.length c (by kernel_rfl) .i64 (lo : Int) (by omega) (by omega)
  rw [u8_sz] at h
  simp only [Int.toNat_natCast, Result.andThen_ok, e1] at h
  simp only [execOp, Option.map_some, Option.map_none, hp, hq, Sem.run_bind, run_sliceAt_slice (P := Tryz.prog) (w := w) 23 _ _ _ _ (by kernel_rfl), h, Result.andThen_ok, Sem.run_pure]
end
end Go.Proofs.YtkjpcjccddggoaaGreat
