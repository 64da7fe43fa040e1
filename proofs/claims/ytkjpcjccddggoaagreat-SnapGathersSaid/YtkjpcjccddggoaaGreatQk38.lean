/- Walks by data and names, part 38: Octet, by V: Split, of two numbers. Layer 21, by V: vectors. Layer 21, by V: which snapshots may be, and are the same. -/
import Derived.Test.YtkjpcjccddggoaaGreatQk37
import Derived.Test.YtkjpcjccddggoaaGreatQk36
import Derived.Test.YtkjpcjccddggoaaGreatQk35
import Derived.Test.YtkjpcjccddggoaaGreatQk3
import Derived.Test.YtkjpcjccddggoaaGreatQk34
namespace Go.Proofs.YtkjpcjccddggoaaGreat
open Go.RowKit
set_option maxRecDepth 10000
set_option maxHeartbeats 4000000
theorem split2_v (b : List UInt8) (hb : b.length = 16) : VP Tryz.prog 77 [.sl false false [[i64D 8], [i64D 8]], bsD b] (· = .ret (.tup [.sl false true [[u64D (numN (b.take 8))], [u64D (numN (b.drop 8))]], i64D 0])) := by
  have hl : ([[i64D 8], [i64D 8]] : List (List D)).length = 2 := rfl
  have hbl := byD_len b
  have c1 := rdnum_v false b 8 (by omega) (by omega)
  have c2 := rdnum_v false (b.drop 8) 8 (by omega) (by simp; omega)
  rw [show ((8 : Nat) : Int) = 8 from rfl] at c1 c2
  have e1 : ([cellsD (u64D (numN (b.take 8)))] : List (List D)).length = 1 := rfl
  have e2 : ([cellsD (u64D (numN (b.take 8)))] ++ [cellsD (u64D (numN ((b.drop 8).take 8)))] : List (List D)).length = 2 := rfl
  have ht : (b.drop 8).take 8 = b.drop 8 := List.take_of_length_le (by simp; omega)
  refine VP.le ?_
  refine vp_of Tryz.func77 rfl Tryz.ntmps77 rfl Tryz.results77 fun B => ?_
  repeat' (first | fail | fail | refine nzl ?_ | refine nzd ?_ | ((first | with_reducible refine vl_id ?_ | with_reducible refine vd_id ?_); first | refine cz (size2_v) ?_ | (refine vq_l (oneed_ok 110) ?_; first | refine vs_call (oneed_ok 110) ?_ | refine vs_pan (oneed_no 110) ?_ | (refine vs_cifp (oneed_if _ 110) ?_ ?_ <;> intro _ <;> (try (exfalso; omega))) | (refine vs_cif (oneed_if _ 110) ?_ ?_ <;> intro _)) | (refine vq_l (oneed_ok 113) ?_; first | refine vs_call (oneed_ok 113) ?_ | refine vs_pan (oneed_no 113) ?_ | (refine vs_cifp (oneed_if _ 113) ?_ ?_ <;> intro _ <;> (try (exfalso; omega))) | (refine vs_cif (oneed_if _ 113) ?_ ?_ <;> intro _)) | refine vs_vc (hc := vc_of Tryz.func116 rfl Tryz.ntmps116 Tryz.results116 fun _ => ?_) | refine vs_vc (hc := vc_of Tryz.func117 rfl Tryz.ntmps117 Tryz.results117 fun _ => ?_) | refine vs_vc (hc := vc_tries (fd := 140) Tryz.func115 rfl Tryz.ntmps115 Tryz.results115 fun _ => ?_)) | refine nzo ?_ | refine nc ?_ ?_ | (with_reducible intro _ <;> (try (exfalso; omega))) | refine vs_eqnil ?_ | refine vs_nenil ?_ | (refine nd ?_ ?_ <;> intro hg <;> (first | (exfalso; (try simp only [decide_eq_true_eq, decide_eq_false_iff_not] at hg); omega) | rw [hg])) | refine vdf_of Tryz.func140 rfl Tryz.ntmps140 Tryz.results140 ?_)
  refine vw_range rfl rfl rfl rfl rfl rfl rfl fun R T hOk => ?_
  refine vmb_of Tryz.func141 rfl Tryz.ntmps141 Tryz.results141 fun M2 => ?_
  repeat' (first | fail | fail | refine nzl ?_ | refine nzd ?_ | ((first | with_reducible refine vl_id ?_ | with_reducible refine vd_id ?_); first | fail) | refine nzo ?_ | refine nc ?_ ?_ | (with_reducible intro _ <;> (try (exfalso; omega))) | refine vs_eqnil ?_ | refine vs_nenil ?_ | (refine nd ?_ ?_ <;> intro hg <;> (first | (exfalso; (try simp only [decide_eq_true_eq, decide_eq_false_iff_not] at hg); omega) | rw [hg])) | fail)
  refine vw_rounds 3 ?_
  repeat' (first | fail | fail | refine nzl ?_ | refine nzd ?_ | ((first | with_reducible refine vl_id ?_ | with_reducible refine vd_id ?_); first | refine vs_yield (by assumption) fun _ _ => ?_ | refine vs_vm [(5, none)] c1 ?_ | refine vs_vm [(5, none)] c2 ?_) | refine nzo ?_ | refine nc ?_ ?_ | (with_reducible intro _ <;> (try (exfalso; omega))) | refine vs_eqnil ?_ | refine vs_nenil ?_ | (refine nd ?_ ?_ <;> intro hg <;> (first | (exfalso; (try simp only [decide_eq_true_eq, decide_eq_false_iff_not] at hg); omega) | rw [hg])) | refine vdf_of Tryz.func140 rfl Tryz.ntmps140 Tryz.results140 ?_)
  all_goals first | (exfalso; omega) | (rw [ht]; exact de_refl _)
end Go.Proofs.YtkjpcjccddggoaaGreat

namespace Go.Proofs.YtkjpcjccddggoaaGreat
open Go.RowKit
set_option maxRecDepth 10000
set_option maxHeartbeats 4000000
structure Vc where
  n0 : Nat
  n1 : Nat
  n2 : Nat
  n3 : Nat
  n4 : Nat
  n5 : Nat
  n6 : Nat
  n7 : Nat
  n8 : Nat
deriving DecidableEq
abbrev vcD (v : Vc) : List D := [u64D v.n0, u64D v.n1, u64D v.n2, u64D v.n3, u64D v.n4, u64D v.n5, u64D v.n6, u64D v.n7, u64D v.n8]
def mxT (n : Nat) : Bool := decide (n ≤ 4611686018427387904)
def vcB (v : Vc) : Bool := decide (v.n0 = 0) && mxT v.n1 && mxT v.n2 && mxT v.n3 && mxT v.n4 && mxT v.n5 && mxT v.n6 && mxT v.n7 && mxT v.n8
theorem vcB_iff (v : Vc) : vcB v = true ↔ v.n0 = 0 ∧ v.n1 ≤ 4611686018427387904 ∧ v.n2 ≤ 4611686018427387904 ∧ v.n3 ≤ 4611686018427387904 ∧ v.n4 ≤ 4611686018427387904 ∧ v.n5 ≤ 4611686018427387904 ∧ v.n6 ≤ 4611686018427387904 ∧ v.n7 ≤ 4611686018427387904 ∧ v.n8 ≤ 4611686018427387904 := by
  simp [vcB, mxT, and_assoc]
theorem vcB_t {v : Vc} (h : v.n0 = 0 ∧ v.n1 ≤ 4611686018427387904 ∧ v.n2 ≤ 4611686018427387904 ∧ v.n3 ≤ 4611686018427387904 ∧ v.n4 ≤ 4611686018427387904 ∧ v.n5 ≤ 4611686018427387904 ∧ v.n6 ≤ 4611686018427387904 ∧ v.n7 ≤ 4611686018427387904 ∧ v.n8 ≤ 4611686018427387904) : vcB v = true := (vcB_iff v).2 h
theorem vcB_f {v : Vc} (h : ¬ (v.n0 = 0 ∧ v.n1 ≤ 4611686018427387904 ∧ v.n2 ≤ 4611686018427387904 ∧ v.n3 ≤ 4611686018427387904 ∧ v.n4 ≤ 4611686018427387904 ∧ v.n5 ≤ 4611686018427387904 ∧ v.n6 ≤ 4611686018427387904 ∧ v.n7 ≤ 4611686018427387904 ∧ v.n8 ≤ 4611686018427387904)) : vcB v = false := by
  cases e : vcB v
  · rfl
  · exact (h ((vcB_iff v).1 e)).elim
theorem vcheck_v (v : Vc) : VP Tryz.prog 63 [.agg (vcD v)] (· = .ret (i64D (if vcB v then 0 else 230))) := by
  refine vp_of Tryz.func63 rfl Tryz.ntmps63 rfl Tryz.results63 fun B => ?_
  repeat' (first | fail | fail | refine nzl ?_ | refine nzd ?_ | ((first | with_reducible refine vl_id ?_ | with_reducible refine vd_id ?_); first | refine vs_vc (hc := vc_of Tryz.func98 rfl Tryz.ntmps98 Tryz.results98 fun _ => ?_)) | refine nzo ?_ | refine nc ?_ ?_ | (with_reducible intro _ <;> (try (exfalso; omega))) | refine vs_eqnil ?_ | refine vs_nenil ?_ | (refine nd ?_ ?_ <;> intro hg <;> (first | (exfalso; (try simp only [decide_eq_true_eq, decide_eq_false_iff_not] at hg); omega) | rw [hg])) | fail)
  · rw [vcB_f (by omega)]; rfl
  refine vw_range rfl rfl rfl rfl rfl rfl rfl fun R T hOk => ?_
  refine vmb_of Tryz.func130 rfl Tryz.ntmps130 Tryz.results130 fun M2 => ?_
  repeat' (first | fail | fail | refine nzl ?_ | refine nzd ?_ | ((first | with_reducible refine vl_id ?_ | with_reducible refine vd_id ?_); first | fail) | refine nzo ?_ | refine nc ?_ ?_ | (with_reducible intro _ <;> (try (exfalso; omega))) | refine vs_eqnil ?_ | refine vs_nenil ?_ | (refine nd ?_ ?_ <;> intro hg <;> (first | (exfalso; (try simp only [decide_eq_true_eq, decide_eq_false_iff_not] at hg); omega) | rw [hg])) | fail)
  refine vw_rounds 10 ?_
  repeat' (first | fail | fail | refine nzl ?_ | refine nzd ?_ | ((first | with_reducible refine vl_id ?_ | with_reducible refine vd_id ?_); first | refine vs_yield (by assumption) fun _ _ => ?_) | refine nzo ?_ | refine nc ?_ ?_ | (with_reducible intro _ <;> (try (exfalso; omega))) | refine vs_eqnil ?_ | refine vs_nenil ?_ | (refine nd ?_ ?_ <;> intro hg <;> (first | (exfalso; (try simp only [decide_eq_true_eq, decide_eq_false_iff_not] at hg); omega) | rw [hg])) | fail)
  all_goals first | (rw [vcB_f (by omega)]; rfl) | (rw [vcB_t (by omega)]; rfl) | trace_state
/-- its bytes -/
def vcBy (v : Vc) : List UInt8 := layN 8 v.n1 ++ layN 8 v.n2 ++ layN 8 v.n3 ++ layN 8 v.n4 ++ layN 8 v.n5 ++ layN 8 v.n6 ++ layN 8 v.n7 ++ layN 8 v.n8
def Vc.in (v : Vc) : Prop := v.n0 < 18446744073709551616 ∧ v.n1 < 18446744073709551616 ∧ v.n2 < 18446744073709551616 ∧ v.n3 < 18446744073709551616 ∧ v.n4 < 18446744073709551616 ∧ v.n5 < 18446744073709551616 ∧ v.n6 < 18446744073709551616 ∧ v.n7 < 18446744073709551616 ∧ v.n8 < 18446744073709551616
def vcOf (b : List UInt8) : Vc := ⟨0, numN (b.take 8), numN ((b.take 16).drop 8), numN ((b.take 24).drop 16), numN ((b.take 32).drop 24), numN ((b.take 40).drop 32), numN ((b.take 48).drop 40), numN ((b.take 56).drop 48), numN ((b.take 64).drop 56)⟩
def Vc.zero : Vc := ⟨0, 0, 0, 0, 0, 0, 0, 0, 0⟩
def take19 (b : List UInt8) : Vc × Int × Int := if b.length < 64 then (.zero, 0, 110) else if vcB (vcOf b) then (vcOf b, 64, 0) else (.zero, 0, 290)
end Go.Proofs.YtkjpcjccddggoaaGreat

namespace Go.Proofs.YtkjpcjccddggoaaGreat
open Go.RowKit
set_option maxRecDepth 10000
set_option maxHeartbeats 4000000
instance : EqGI Tryz.prog 52 := ⟨by kernel_rfl⟩
/-- a snapshot -/
structure Sn where
  c : Cv
  f : Nat
  s : Nat
  v : Vc
deriving DecidableEq
abbrev snD (s : Sn) : List D := [i64D s.c.x, i64D s.c.y, .sl false false (s.c.L.map tlD), u64D s.f, u64D s.s, u64D s.v.n0, u64D s.v.n1, u64D s.v.n2, u64D s.v.n3, u64D s.v.n4, u64D s.v.n5, u64D s.v.n6, u64D s.v.n7, u64D s.v.n8]
abbrev snN (s : Sn) : List D := [i64D s.c.x, i64D s.c.y, .sl false true (s.c.L.map tlD), u64D s.f, u64D s.s, u64D s.v.n0, u64D s.v.n1, u64D s.v.n2, u64D s.v.n3, u64D s.v.n4, u64D s.v.n5, u64D s.v.n6, u64D s.v.n7, u64D s.v.n8]
def snB (s : Sn) : Bool := cvB s.c && decide (s.f ≤ s.s) && decide (s.s ≤ 4611686018427387904) && vcB s.v
theorem sncheck_v (s : Sn) (h : All64 s.c.L) : VP Tryz.prog 18 [.agg (snD s)] (· = .ret (i64D (if snB s then 0 else 310))) := by
  have cc := ccheck_v s.c h
  have cv := vcheck_v s.v
  simp only [snD, cvD, vcD] at *
  refine vp_of Tryz.func18 rfl Tryz.ntmps18 rfl Tryz.results18 fun B => ?_
  repeat' (first | fail | fail | refine nzl ?_ | refine nzd ?_ | ((first | with_reducible refine vl_id ?_ | with_reducible refine vd_id ?_); first | refine cz (cc) ?_ | refine cz (cv) ?_) | refine nzo ?_ | refine nc ?_ ?_ | (with_reducible intro _ <;> (try (exfalso; omega))) | refine vs_eqnil ?_ | refine vs_nenil ?_ | (refine nd ?_ ?_ <;> intro hg <;> (first | (exfalso; (try simp only [decide_eq_true_eq, decide_eq_false_iff_not] at hg); omega) | rw [hg])) | fail)
  all_goals (simp_all [snB]; try omega)
abbrev vcL (v : Vc) : List Int := [v.n0, v.n1, v.n2, v.n3, v.n4, v.n5, v.n6, v.n7, v.n8]
theorem vc_iff (v u : Vc) : v = u ↔ vcL v = vcL u := by
  obtain ⟨a0, a1, a2, a3, a4, a5, a6, a7, a8⟩ := v
  obtain ⟨b0, b1, b2, b3, b4, b5, b6, b7, b8⟩ := u
  simp only [Vc.mk.injEq, List.cons.injEq, Int.natCast_inj, and_true]
theorem sn_iff (s t : Sn) : s = t ↔ (s.f : Int) = t.f ∧ (s.s : Int) = t.s ∧ vcL s.v = vcL t.v ∧ s.c = t.c := by
  rw [← vc_iff]
  obtain ⟨c, f, e, v⟩ := s
  obtain ⟨c', f', e', v'⟩ := t
  simp only [Sn.mk.injEq, Int.natCast_inj]
  constructor
  · rintro ⟨h1, h2, h3, h4⟩; exact ⟨h2, h3, h4, h1⟩
  · rintro ⟨h2, h3, h4, h1⟩; exact ⟨h1, h2, h3, h4⟩
theorem rsnsame_v (s t : Sn) (h : All64 s.c.L) (h' : All64 t.c.L) (hl : s.c.L.length ≤ 1000000) : VP Tryz.prog 20 [.agg (snD s), .agg (snD t)] (· = .ret (.lit (.bool (decide (s = t))))) := by
  have ca := rsame05_v s.c t.c h h' hl
  simp only [snD, cvD] at *
  refine vp_of Tryz.func20 rfl Tryz.ntmps20 rfl Tryz.results20 fun B => ?_
  repeat' (first | fail | fail | refine nzl ?_ | refine nzd ?_ | ((first | with_reducible refine vl_id ?_ | with_reducible refine vd_id ?_); first | refine cz (ca) ?_ | refine vs_equ ?_) | refine nzo ?_ | refine nc ?_ ?_ | (with_reducible intro _ <;> (try (exfalso; omega))) | refine vs_eqnil ?_ | refine vs_nenil ?_ | (refine nd ?_ ?_ <;> intro hg <;> (first | (exfalso; (try simp only [decide_eq_true_eq, decide_eq_false_iff_not] at hg); omega) | rw [hg])) | fail)
  all_goals (simp only [decide_eq_decide, sn_iff, R.ret.injEq, D.lit.injEq, Value.bool.injEq]; simp_all)
end Go.Proofs.YtkjpcjccddggoaaGreat

namespace Go.Proofs.YtkjpcjccddggoaaGreat
open Go.RowKit
set_option maxRecDepth 10000
set_option maxHeartbeats 4000000
/-- a pile -/
structure Pi where
  snap : Int
  many : Int
  parts : List (List UInt8)
deriving DecidableEq
abbrev piD (p : Pi) : List D := [u64D p.snap, i64D p.many, .sl false false (p.parts.map fD)]
instance dlss_fD (l : List (List UInt8)) : DLss (l.map fD) (l.map fD) := dlss_map l _ _ (fun _ => inferInstance) (fun _ => rfl)
def comeB (b : List UInt8) : Bool := decide (0 < b.length)
theorem come_v (b : List UInt8) : VP Tryz.prog 49 [bsD b] (· = .ret (.lit (.bool (comeB b)))) := by
  have hl := byD_len b
  refine vp_of Tryz.func49 rfl Tryz.ntmps49 rfl Tryz.results49 fun B => ?_
  repeat' (first | fail | fail | refine nzl ?_ | refine nzd ?_ | ((first | with_reducible refine vl_id ?_ | with_reducible refine vd_id ?_); first | fail) | refine nzo ?_ | refine nc ?_ ?_ | (with_reducible intro _ <;> (try (exfalso; omega))) | refine vs_eqnil ?_ | refine vs_nenil ?_ | (refine nd ?_ ?_ <;> intro hg <;> (first | (exfalso; (try simp only [decide_eq_true_eq, decide_eq_false_iff_not] at hg); omega) | rw [hg])) | fail)
  all_goals simp [comeB]
theorem ncome_v (b : List UInt8) : VP Tryz.prog 55 [bsD b] (· = .ret (.lit (.bool (!comeB b)))) := by
  have c := come_v b
  generalize comeB b = r at *
  refine vp_of Tryz.func55 rfl Tryz.ntmps55 rfl Tryz.results55 fun B => ?_
  repeat' (first | fail | fail | refine nzl ?_ | refine nzd ?_ | ((first | with_reducible refine vl_id ?_ | with_reducible refine vd_id ?_); first | refine cz (c) ?_) | refine nzo ?_ | refine nc ?_ ?_ | (with_reducible intro _ <;> (try (exfalso; omega))) | refine vs_eqnil ?_ | refine vs_nenil ?_ | (refine nd ?_ ?_ <;> intro hg <;> (first | (exfalso; (try simp only [decide_eq_true_eq, decide_eq_false_iff_not] at hg); omega) | rw [hg])) | fail)
  all_goals rfl
def anyI (p : Nat → List UInt8 → Bool) : Nat → List (List UInt8) → Bool
  | _, [] => false
  | i, x :: l => p i x || anyI p (i + 1) l
theorem some_v {f : FuncId} {ca : List D} (l : List (List UInt8)) (p : Nat → List UInt8 → Bool) (hcall : ∀ (i : Nat) x, l[i]? = some x → VP Tryz.prog f (i64D i :: bsD x :: ca) (· = .ret (.lit (.bool (p i x))))) [DLs ca ca] :
    VP Tryz.prog 52 [.sl false false (l.map fD), .fn f [] ca] (· = .ret (.lit (.bool (anyI p 0 l)))) := by
  refine vp_of Tryz.func52 rfl Tryz.ntmps52 rfl Tryz.results52 fun B => ?_
  repeat' (first | fail | fail | refine nzl ?_ | refine nzd ?_ | ((first | with_reducible refine vl_id ?_ | with_reducible refine vd_id ?_); first | fail) | refine nzo ?_ | refine nc ?_ ?_ | (with_reducible intro _ <;> (try (exfalso; omega))) | refine vs_eqnil ?_ | refine vs_nenil ?_ | (refine nd ?_ ?_ <;> intro hg <;> (first | (exfalso; (try simp only [decide_eq_true_eq, decide_eq_false_iff_not] at hg); omega) | rw [hg])) | fail)
  refine vw_each 7 l fD (fun (i : Nat) (_ : Unit) => ⟨[(9, I .i64 i), (8, I .i64 (l.map fD).length), (7, .d (.sl false false (l.map fD))), (1, .d (.fn f [] ca))], [], 0⟩) (fun i _ => anyI p 0 l = anyI p i (l.drop i)) () (sub_z) rfl (fun i y x hT hi hx hx' hlt hlm hlen hdr => ?_) (fun y hT hlt hlm => ?_)
  · rw [hdr] at hT
    have c := hcall i x hx
    repeat' (first | fail | fail | refine nzl ?_ | refine nzd ?_ | ((first | with_reducible refine vl_id ?_ | with_reducible refine vd_id ?_); first | refine cz (c) ?_) | refine nzo ?_ | refine nc ?_ ?_ | (with_reducible intro _ <;> (try (exfalso; omega))) | refine vs_eqnil ?_ | refine vs_nenil ?_ | (refine nd ?_ ?_ <;> intro hg <;> (first | (exfalso; (try simp only [decide_eq_true_eq, decide_eq_false_iff_not] at hg); omega) | rw [hg])) | fail)
    · rw [hT]; simp_all [anyI]
    · refine nx_each () hi ?_ (sub_z); rw [hT]; simp_all [anyI]
  · repeat' (first | fail | fail | refine nzl ?_ | refine nzd ?_ | ((first | with_reducible refine vl_id ?_ | with_reducible refine vd_id ?_); first | fail) | refine nzo ?_ | refine nc ?_ ?_ | (with_reducible intro _ <;> (try (exfalso; omega))) | refine vs_eqnil ?_ | refine vs_nenil ?_ | (refine nd ?_ ?_ <;> intro hg <;> (first | (exfalso; (try simp only [decide_eq_true_eq, decide_eq_false_iff_not] at hg); omega) | rw [hg])) | fail)
    rw [hT, List.drop_of_length_le (Nat.le_refl _)]; rfl
def idxP (p : List UInt8 → Bool) : Nat → List (List UInt8) → Int
  | _, [] => -1
  | i, x :: l => if p x then i else idxP p (i + 1) l
theorem idxF_v {f : FuncId} {ca : List D} (l : List (List UInt8)) (p : List UInt8 → Bool) (hcall : ∀ x, VP Tryz.prog f (bsD x :: ca) (· = .ret (.lit (.bool (p x))))) [DLs ca ca] :
    VP Tryz.prog 54 [.sl false false (l.map fD), .fn f [] ca] (· = .ret (i64D (idxP p 0 l))) := by
  refine vp_of Tryz.func54 rfl Tryz.ntmps54 rfl Tryz.results54 fun B => ?_
  repeat' (first | fail | fail | refine nzl ?_ | refine nzd ?_ | ((first | with_reducible refine vl_id ?_ | with_reducible refine vd_id ?_); first | fail) | refine nzo ?_ | refine nc ?_ ?_ | (with_reducible intro _ <;> (try (exfalso; omega))) | refine vs_eqnil ?_ | refine vs_nenil ?_ | (refine nd ?_ ?_ <;> intro hg <;> (first | (exfalso; (try simp only [decide_eq_true_eq, decide_eq_false_iff_not] at hg); omega) | rw [hg])) | fail)
  refine vw_each 0 l fD (fun (i : Nat) (_ : Unit) => ⟨[(8, I .i64 i), (7, I .i64 (l.map fD).length), (0, .d (.sl false false (l.map fD))), (1, .d (.fn f [] ca))], [], 0⟩) (fun i _ => idxP p 0 l = idxP p i (l.drop i)) () (sub_z) rfl (fun i y x hT hi hx hx' hlt hlm hlen hdr => ?_) (fun y hT hlt hlm => ?_)
  · rw [hdr] at hT
    have c := hcall x
    repeat' (first | fail | fail | refine nzl ?_ | refine nzd ?_ | ((first | with_reducible refine vl_id ?_ | with_reducible refine vd_id ?_); first | refine cz (c) ?_) | refine nzo ?_ | refine nc ?_ ?_ | (with_reducible intro _ <;> (try (exfalso; omega))) | refine vs_eqnil ?_ | refine vs_nenil ?_ | (refine nd ?_ ?_ <;> intro hg <;> (first | (exfalso; (try simp only [decide_eq_true_eq, decide_eq_false_iff_not] at hg); omega) | rw [hg])) | fail)
    · rw [hT]; simp_all [idxP]
    · refine nx_each () hi ?_ (sub_z); rw [hT]; simp_all [idxP]
  · repeat' (first | fail | fail | refine nzl ?_ | refine nzd ?_ | ((first | with_reducible refine vl_id ?_ | with_reducible refine vd_id ?_); first | fail) | refine nzo ?_ | refine nc ?_ ?_ | (with_reducible intro _ <;> (try (exfalso; omega))) | refine vs_eqnil ?_ | refine vs_nenil ?_ | (refine nd ?_ ?_ <;> intro hg <;> (first | (exfalso; (try simp only [decide_eq_true_eq, decide_eq_false_iff_not] at hg); omega) | rw [hg])) | fail)
    rw [hT, List.drop_of_length_le (Nat.le_refl _)]; rfl
theorem contF_v {f : FuncId} {ca : List D} (l : List (List UInt8)) (p : List UInt8 → Bool) (hcall : ∀ x, VP Tryz.prog f (bsD x :: ca) (· = .ret (.lit (.bool (p x))))) [DLs ca ca] :
    VP Tryz.prog 53 [.sl false false (l.map fD), .fn f [] ca] (· = .ret (.lit (.bool (decide (0 ≤ idxP p 0 l))))) := by
  have c := idxF_v l p hcall
  refine vp_of Tryz.func53 rfl Tryz.ntmps53 rfl Tryz.results53 fun B => ?_
  repeat' (first | fail | fail | refine nzl ?_ | refine nzd ?_ | ((first | with_reducible refine vl_id ?_ | with_reducible refine vd_id ?_); first | refine cz (c) ?_) | refine nzo ?_ | refine nc ?_ ?_ | (with_reducible intro _ <;> (try (exfalso; omega))) | refine vs_eqnil ?_ | refine vs_nenil ?_ | (refine nd ?_ ?_ <;> intro hg <;> (first | (exfalso; (try simp only [decide_eq_true_eq, decide_eq_false_iff_not] at hg); omega) | rw [hg])) | fail)
  all_goals rfl
def wrongB (m : Int) (i : Nat) (x : List UInt8) : Bool := comeB x && !partB i m x.length
theorem wrong_v (p : Pi) (i : Nat) (x : List UInt8) (hm : 1 ≤ p.many ∧ p.many ≤ 64) : VP Tryz.prog 48 [i64D i, bsD x, .pt (piD p)] (· = .ret (.lit (.bool (wrongB p.many i x)))) := by
  have c := come_v x
  have hl := byD_len x
  have cf := fits_v i p.many (byD x).length (by omega) (by omega)
  unfold wrongB
  rw [hl] at cf
  generalize comeB x = r1 at *
  generalize partB i p.many x.length = r2 at *
  rw [← hl] at cf
  simp only [piD]
  refine vp_of Tryz.func48 rfl Tryz.ntmps48 rfl Tryz.results48 fun B => ?_
  repeat' (first | fail | fail | refine nzl ?_ | refine nzd ?_ | ((first | with_reducible refine vl_id ?_ | with_reducible refine vd_id ?_); first | refine cz (c) ?_ | refine cz (cf) ?_) | refine nzo ?_ | refine nc ?_ ?_ | (with_reducible intro _ <;> (try (exfalso; omega))) | refine vs_eqnil ?_ | refine vs_nenil ?_ | (refine nd ?_ ?_ <;> intro hg <;> (first | (exfalso; (try simp only [decide_eq_true_eq, decide_eq_false_iff_not] at hg); omega) | rw [hg])) | fail)
  all_goals (cases r1 <;> cases r2 <;> simp_all)
def piZ (p : Pi) : Bool := decide (p.snap = 0) && decide (p.many = 0) && decide (p.parts.length = 0)
def piB (p : Pi) : Bool := piZ p || (numB p.snap && decide (1 ≤ p.many) && decide (p.many ≤ 64) && decide ((p.parts.length : Int) = p.many) && !anyI (wrongB p.many) 0 p.parts && decide (0 ≤ idxP comeB 0 p.parts))
theorem chk_v (p : Pi) : VP Tryz.prog 11 [.agg (piD p)] (· = .ret (i64D (if piB p then 0 else 312))) := by
  have hl : (p.parts.map fD).length = p.parts.length := List.length_map _
  have cn := number_v p.snap
  have cc := contF_v (ca := []) p.parts comeB come_v
  simp only [piD]
  by_cases hm : 1 ≤ p.many ∧ p.many ≤ 64
  · have cs := some_v (ca := [.pt (piD p)]) p.parts (wrongB p.many) (fun i x _ => wrong_v p i x hm)
    simp only [piD] at cs
    refine vp_of Tryz.func11 rfl Tryz.ntmps11 rfl Tryz.results11 fun B => ?_
    repeat' (first | fail | fail | refine nzl ?_ | refine nzd ?_ | ((first | with_reducible refine vl_id ?_ | with_reducible refine vd_id ?_); first | refine cz (cn) ?_ | refine cz (cc) ?_ | refine cz (cs) ?_) | refine nzo ?_ | refine nc ?_ ?_ | (with_reducible intro _ <;> (try (exfalso; omega))) | refine vs_eqnil ?_ | refine vs_nenil ?_ | (refine nd ?_ ?_ <;> intro hg <;> (first | (exfalso; (try simp only [decide_eq_true_eq, decide_eq_false_iff_not] at hg); omega) | rw [hg])) | fail)
    all_goals (rcases Bool.eq_false_or_eq_true (piB p) with hx | hx <;> rw [hx])
    all_goals first | rfl | (exfalso; simp only [piB, piZ] at hx; simp_all; fail_if_success (focus skip)) | (exfalso; simp only [piB, piZ] at hx; simp_all; omega) | trace_state
  · refine vp_of Tryz.func11 rfl Tryz.ntmps11 rfl Tryz.results11 fun B => ?_
    repeat' (first | fail | fail | refine nzl ?_ | refine nzd ?_ | ((first | with_reducible refine vl_id ?_ | with_reducible refine vd_id ?_); first | refine cz (cn) ?_ | refine cz (cc) ?_) | refine nzo ?_ | refine nc ?_ ?_ | (with_reducible intro _ <;> (try (exfalso; omega))) | refine vs_eqnil ?_ | refine vs_nenil ?_ | (refine nd ?_ ?_ <;> intro hg <;> (first | (exfalso; (try simp only [decide_eq_true_eq, decide_eq_false_iff_not] at hg); omega) | rw [hg])) | fail)
    all_goals (rcases Bool.eq_false_or_eq_true (piB p) with hx | hx <;> rw [hx])
    all_goals first | rfl | (exfalso; simp only [piB, piZ] at hx; simp_all; fail_if_success (focus skip)) | (exfalso; simp only [piB, piZ] at hx; simp_all; omega) | trace_state
end Go.Proofs.YtkjpcjccddggoaaGreat

namespace Go.Proofs.YtkjpcjccddggoaaGreat
open Go.RowKit
def I64 (n : Int) : Prop := -9223372036854775808 ≤ n ∧ n ≤ 9223372036854775807
def U64 (n : Int) : Prop := 0 ≤ n ∧ n ≤ 18446744073709551615
theorem opn_int : Opn Tryz.prog 3 I64 (fun n => [.lit (.int .i64 n)]) := Opn.i64 Tryz.underlying3 (by kernel_rfl)
theorem opn_u64 : Opn Tryz.prog 22 U64 (fun n => [.lit (.int .u64 n)]) := (Opn.int Tryz.underlying22 (by kernel_rfl)).map (fun y h => ⟨y, by have := bounds_u64 h; exact this, rfl⟩) (fun _ _ => by rw [show Tryz.prog.cellsOf 22 = 1 by kernel_rfl]; rfl)
theorem opn_u8 : Opn Tryz.prog 5 (fun _ : UInt8 => True) (fun y => [.lit (vb y)]) := Opn.u8 Tryz.underlying5 (by kernel_rfl)
theorem opn_by : Opn Tryz.prog 23 (fun b : List UInt8 => b.length ≤ 9223372036854775807) (fun b => [.sl false false (byD b)]) :=
  (Opn.slice opn_u8 Tryz.underlying23 (by rw [show Tryz.prog.cellsOf 5 = 1 by kernel_rfl]; omega) (by kernel_rfl)).map (fun y h => ⟨y, h.2, rfl⟩) (fun z hz => by rw [show Tryz.prog.cellsOf 23 = 1 by kernel_rfl]; rfl)
theorem opn_ints : Opn Tryz.prog 24 (fun l : List Int => ∀ x ∈ l, I64 x) (fun l => [.sl false false (l.map fun x => [.lit (.int .i64 x)])]) :=
  (Opn.slice opn_int Tryz.underlying24 (by rw [show Tryz.prog.cellsOf 3 = 1 by kernel_rfl]; omega) (by kernel_rfl)).map (fun y h => ⟨y, h.1, rfl⟩) (fun z hz => by rw [show Tryz.prog.cellsOf 24 = 1 by kernel_rfl]; rfl)
end Go.Proofs.YtkjpcjccddggoaaGreat

namespace Go.Proofs.YtkjpcjccddggoaaGreat
set_option maxRecDepth 20000
open Go.RowKit
structure RtInv (w W : World) (b : Value) (l : List UInt8) (o : Value) (O : List (List Col)) (out : Value) (A : List (List Col)) : Prop where
  bel : Below w.heap.size w W
  bs : Bytes W b l
  os : Tiles W o O
  own : OwnT w.heap.size W out A
theorem RtInv.below {w W W' : World} {b : Value} {l : List UInt8} {o : Value} {O : List (List Col)} {out : Value} {A : List (List Col)} (h : RtInv w W b l o O out A) (hb : Below W.heap.size W W') : RtInv w W' b l o O out A :=
  ⟨Below.up h.bel hb, h.bs.below hb, h.os.below hb, h.own.below hb⟩
end Go.Proofs.YtkjpcjccddggoaaGreat

namespace Go.Proofs.YtkjpcjccddggoaaGreat
open Go.RowKit
set_option maxRecDepth 10000
set_option maxHeartbeats 4000000
abbrev nilV : D := .lit (.slice none 0 0)
/-- what is read of bytes: the canvas, how many bytes, the error -/
def rdCv (b : List UInt8) : List D × Int × Int := match readCan b with
  | some (x, y, A, k) => ([i64D x, i64D y, .sl false true (A.map tlD)], k, 0)
  | none => ([i64D 0, i64D 0, nilV], 0, 200)
theorem readcan_v (b : List UInt8) : VP Tryz.prog 79 [bsD b] (· = .ret (.tup [.agg (rdCv b).1, i64D (rdCv b).2.1, i64D (rdCv b).2.2])) := by
  refine vp_bridge (callFunc_run Tryz.func79 (by kernel_rfl) rfl) fun U w us hu => ?_
  simp only [dreps] at hu
  obtain ⟨u, _, rfl, h1, rfl⟩ := hu
  refine (readcan_any u b w (bytes_of h1)).mono ?_
  rintro e w' ⟨hb, hr⟩
  refine ⟨hb, ?_⟩
  unfold rdCv
  cases hc : readCan b with
  | none =>
    rw [hc] at hr
    simp only [CanRet] at hr
    subst hr
    exact ⟨_, rfl, by simp only [drep, dreps]; exact ⟨_, rfl, _, _, rfl, ⟨_, rfl, _, _, rfl, rfl, _, _, rfl, rfl, _, _, rfl, rfl, rfl⟩, _, _, rfl, rfl, _, _, rfl, rfl, rfl⟩⟩
  | some z =>
    obtain ⟨x, y, A, k⟩ := z
    rw [hc] at hr
    simp only [CanRet] at hr
    obtain ⟨tl, rfl, ho⟩ := hr
    have := own_tiles ho (U := fun b => U b ∨ w.heap.size ≤ b) fun _ => .inr
    refine ⟨_, rfl, ?_⟩
    simp only [drep, dreps] at this ⊢
    exact ⟨_, rfl, _, _, rfl, ⟨_, rfl, _, _, rfl, rfl, _, _, rfl, rfl, _, _, rfl, this, rfl⟩, _, _, rfl, rfl, _, _, rfl, rfl, rfl⟩
end Go.Proofs.YtkjpcjccddggoaaGreat
