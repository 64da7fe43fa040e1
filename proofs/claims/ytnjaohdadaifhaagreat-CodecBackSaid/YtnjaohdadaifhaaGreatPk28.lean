/- Walks by data and names, part 28: Octet, by V: Put, Lay; a reader's Number. Octet, by V: Split, of two numbers. Slices of an array variable: length, elements; arrays of numbers compared. -/
import Derived.ChangeKeysEq
import Derived.Test.YtnjaohdadaifhaaGreatPk27
import Derived.Test.YtnjaohdadaifhaaGreatPk6
namespace Go.Proofs.YtnjaohdadaifhaaGreat
set_option maxRecDepth 20000
open Go.RowKit
set_option maxRecDepth 10000
set_option maxHeartbeats 4000000
theorem put_v (b : List UInt8) (w n : Nat) (hw : 1 ≤ w ∧ w ≤ 8) (hn : n < 256 ^ w) (hb : b.length ≤ 100000000) : VP Tryz.prog 73 [bsD b, i64D w, u64D n] (· = .ret (.tup [.sl false true (byD (b ++ layN w n)), i64D 0])) := by
  have c1 := laid_v w n hw hn
  have c2 := behind_v b (layN w n) (by rw [layN_len]; omega)
  refine vp_of Tryz.func73 rfl Tryz.ntmps73 rfl Tryz.results73 fun B => ?_
  repeat' (first | refine nz1 ?_ | (refine vid ?_; first | refine cz (c1) ?_ | refine cz (c2) ?_ | refine vs_vc (hc := vc_of Tryz.func99 rfl Tryz.ntmps99 Tryz.results99 fun _ => ?_) | refine vs_vc (hc := vc_tries (fd := 119) Tryz.func98 rfl Tryz.ntmps98 Tryz.results98 fun _ => ?_)) | refine nzo ?_ | refine nc ?_ ?_ | (with_reducible intro _ <;> (try (exfalso; omega))) | refine nnil ?_ | (refine nd ?_ ?_ <;> intro hg <;> first | exact xo hg | rw [hg]) | refine vdf_of Tryz.func119 rfl Tryz.ntmps119 Tryz.results119 ?_)
  all_goals first | rfl | trace_state
theorem cutN (b : List UInt8) (n : Nat) : cutL none (some (n : Int)) (byD b) = byD (b.take n) := by
  rw [cutL_eq]; simp [byD, List.map_take]
theorem cutD (b : List UInt8) (n : Nat) : cutL (some (n : Int)) none (byD b) = byD (b.drop n) := cutB _ b n
theorem rdnum_v (f : Bool) (b : List UInt8) (w : Nat) (hw : 1 ≤ w ∧ w ≤ 8) (h : w ≤ b.length) : VM1 Tryz.prog 78 1 [.ptr 0 0, .d (i64D w)] [.c 0 0 [.d (.sl false f (byD b)), .d (i64D 0)]] 1 (.ret (.d (u64D (numN (b.take w))))) [.c 0 0 [.d (.sl false f (byD (b.drop w))), .d (i64D 0)]] 1 := by
  have ci := ois_v w (by omega)
  have cn := onum_v (b.take w) (by simp; omega)
  have hl := byD_len b
  have hc := cutN b w
  have hd := cutD b w
  refine vm1_of Tryz.func78 rfl Tryz.ntmps78 Tryz.results78 fun B M => ?_
  repeat' (first | refine nz1 ?_ | (refine vid ?_; first | refine cz (ci) ?_ | (refine vq_l (oneed_ok 111) ?_; first | refine vs_call (oneed_ok 111) ?_ | refine vs_pan (oneed_no 111) ?_ | (refine vs_cifp (oneed_if _ 111) ?_ ?_ <;> intro _ <;> (try (exfalso; omega))) | (refine vs_cif (oneed_if _ 111) ?_ ?_ <;> intro _)) | (refine vq_l (oneed_ok 2) ?_; first | refine vs_call (oneed_ok 2) ?_ | refine vs_pan (oneed_no 2) ?_ | (refine vs_cifp (oneed_if _ 2) ?_ ?_ <;> intro _ <;> (try (exfalso; omega))) | (refine vs_cif (oneed_if _ 2) ?_ ?_ <;> intro _)) | (refine vq_l (oneed_ok 110) ?_; first | refine vs_call (oneed_ok 110) ?_ | refine vs_pan (oneed_no 110) ?_ | (refine vs_cifp (oneed_if _ 110) ?_ ?_ <;> intro _ <;> (try (exfalso; omega))) | (refine vs_cif (oneed_if _ 110) ?_ ?_ <;> intro _)) | (rw [hc]; first | refine cz (cn) ?_) | refine vs_vc (hc := vc_of Tryz.func113 rfl Tryz.ntmps113 Tryz.results113 fun _ => ?_) | refine vs_vc (hc := vc_of Tryz.func109 rfl Tryz.ntmps109 Tryz.results109 fun _ => ?_) | refine vs_vc (hc := vc_of Tryz.func108 rfl Tryz.ntmps108 Tryz.results108 fun _ => ?_) | refine vs_eqpn ?_ | refine vs_nepn ?_ | refine vs_vc (hc := vc_tries (fd := 129) Tryz.func122 rfl Tryz.ntmps122 Tryz.results122 fun _ => ?_)) | refine nzo ?_ | refine nc ?_ ?_ | (with_reducible intro _ <;> (try (exfalso; omega))) | refine nnil ?_ | (refine nd ?_ ?_ <;> intro hg <;> first | exact xo hg | rw [hg]) | refine vdf_of Tryz.func129 rfl Tryz.ntmps129 Tryz.results129 ?_)
  rw [hd]
  exact nx_sub []
theorem rdnum_no (f : Bool) (b : List UInt8) (w : Nat) (hw : 1 ≤ w ∧ w ≤ 8) (h : ¬ w ≤ b.length) : VM1 Tryz.prog 78 1 [.ptr 0 0, .d (i64D w)] [.c 0 0 [.d (.sl false f (byD b)), .d (i64D 0)]] 1 (.ret (.d (u64D 0))) [.c 0 0 [.d (.sl false f (byD b)), .d (i64D 110)]] 1 := by
  have ci := ois_v w (by omega)
  have hl := byD_len b
  refine vm1_of Tryz.func78 rfl Tryz.ntmps78 Tryz.results78 fun B M => ?_
  repeat' (first | refine nz1 ?_ | (refine vid ?_; first | refine cz (ci) ?_ | (refine vq_l (oneed_ok 111) ?_; first | refine vs_call (oneed_ok 111) ?_ | refine vs_pan (oneed_no 111) ?_ | (refine vs_cifp (oneed_if _ 111) ?_ ?_ <;> intro _ <;> (try (exfalso; omega))) | (refine vs_cif (oneed_if _ 111) ?_ ?_ <;> intro _)) | (refine vq_l (oneed_ok 2) ?_; first | refine vs_call (oneed_ok 2) ?_ | refine vs_pan (oneed_no 2) ?_ | (refine vs_cifp (oneed_if _ 2) ?_ ?_ <;> intro _ <;> (try (exfalso; omega))) | (refine vs_cif (oneed_if _ 2) ?_ ?_ <;> intro _)) | (refine vq_l (oneed_ok 110) ?_; first | refine vs_call (oneed_ok 110) ?_ | refine vs_pan (oneed_no 110) ?_ | (refine vs_cifp (oneed_if _ 110) ?_ ?_ <;> intro _ <;> (try (exfalso; omega))) | (refine vs_cif (oneed_if _ 110) ?_ ?_ <;> intro _)) | refine vs_vc (hc := vc_of Tryz.func113 rfl Tryz.ntmps113 Tryz.results113 fun _ => ?_) | refine vs_vc (hc := vc_of Tryz.func109 rfl Tryz.ntmps109 Tryz.results109 fun _ => ?_) | refine vs_vc (hc := vc_of Tryz.func108 rfl Tryz.ntmps108 Tryz.results108 fun _ => ?_) | refine vs_eqpn ?_ | refine vs_nepn ?_ | refine vs_vc (hc := vc_tries (fd := 129) Tryz.func122 rfl Tryz.ntmps122 Tryz.results122 fun _ => ?_)) | refine nzo ?_ | refine nc ?_ ?_ | (with_reducible intro _ <;> (try (exfalso; omega))) | refine nnil ?_ | (refine nd ?_ ?_ <;> intro hg <;> first | exact xo hg | rw [hg]) | refine vdf_of Tryz.func129 rfl Tryz.ntmps129 Tryz.results129 ?_)
  exact nx_sub []
end Go.Proofs.YtnjaohdadaifhaaGreat

namespace Go.Proofs.YtnjaohdadaifhaaGreat
set_option maxRecDepth 20000
open Go.RowKit
section
variable {P : Program} {cx : Cx} {s : St}
theorem q_lensv {t ty e : TypeId} {x : Operand} {k off n cap sz sz' by_ : Nat} [hE : SlI P t e sz' by_] (hx : evalV s x = some (.sv k off n cap sz)) : OpQ P cx (.call { callee := .builtin .len, args := #[x], argTypes := #[t] }) ty s (I .i64 (n : Int)) := fun g a w hS => by
  have h := hS.eval hx
  simp only [vrep] at h
  obtain ⟨b, _, h, _⟩ := h
  refine ⟨.int .i64 n, ?_, by simp only [vrep, drep]⟩
  simp [execOp, resolve, invoke, builtin, Builtin.len_, h, run_underlying hE.elem.und w, goInt]
theorem q_idxsv {t ty e : TypeId} {x y : Operand} {k0 : IntKind} {i : Int} {k off n cap sz by_ : Nat} [hE : SlI P t e sz by_] (hx : evalV s x = some (.sv k off n cap sz)) (hy : evalV s y = some (I k0 i)) (h0 : 0 ≤ i) (h1 : i < (n : Int)) : OpQ P cx (.indexAddr t x y) ty s (.ptr k (off + i.toNat * sz)) := fun g a w hS => by
  have hx' := hS.eval hx
  have hy' := hS.eval hy
  simp only [vrep, drep] at hx' hy'
  obtain ⟨b, hb, hx', _⟩ := hx'
  have hadd : (⟨b, off, none⟩ : Addr).add (i.toNat * sz) = ⟨b, off + i.toNat * sz, none⟩ := by unfold Addr.add; split <;> simp_all
  refine ⟨.pointer (some ⟨b, off + i.toNat * sz, none⟩), ?_, by simp only [vrep]; exact ⟨b, hb, rfl⟩⟩
  simp [execOp, hx', hy', Instr.indexAt, asIntOf, run_underlying hE.elem.und w, run_sizeOf_e hE.elem, h0, h1, hadd]
end
section
variable {P : Program} {cx : Cx} {tm : List (Nat × V)} {st : List E} {nb : Nat} {Q : VE → St → Prop} {ops rest : List Oper}
theorem vs_lensv {d : Tmp} {t ty e : TypeId} {x : Operand} {kk off n cap sz sz' by_ : Nat} {pos : String} {af : Array Edge} [hE : SlI P t e sz' by_] (k : VL P cx ops rest ⟨(d, I .i64 (n : Int)) :: tm, st, nb⟩ Q) (hx : evalV ⟨tm, st, nb⟩ x = some (.sv kk off n cap sz) := by rfl) (hd : Nat.blt d cx.N = true := by rfl) :
    VL P cx ops (⟨some d, .call { callee := .builtin .len, args := #[x], argTypes := #[t] }, ty, pos, af, none⟩ :: rest) ⟨tm, st, nb⟩ Q := vs_x k (sx_q (h := q_lensv hx) (hd := hd))
theorem vs_idxsv {d : Tmp} {t ty e : TypeId} {x y : Operand} {k0 : IntKind} {i : Int} {kk off n cap sz by_ : Nat} {pos : String} {af : Array Edge} [hE : SlI P t e sz by_] (k : VL P cx ops rest ⟨(d, .ptr kk (off + i.toNat * sz)) :: tm, st, nb⟩ Q) (hx : evalV ⟨tm, st, nb⟩ x = some (.sv kk off n cap sz) := by rfl) (hy : evalV ⟨tm, st, nb⟩ y = some (I k0 i) := by rfl)
    (h0 : 0 ≤ i := by omega) (h1 : i < (n : Int) := by omega) (hd : Nat.blt d cx.N = true := by rfl) :
    VL P cx ops (⟨some d, .indexAddr t x y, ty, pos, af, none⟩ :: rest) ⟨tm, st, nb⟩ Q := vs_x k (sx_q (h := q_idxsv hx hy h0 h1) (hd := hd))
end
end Go.Proofs.YtnjaohdadaifhaaGreat

namespace Go.Proofs.YtnjaohdadaifhaaGreat
set_option maxRecDepth 20000
open Go.RowKit
set_option maxRecDepth 10000
set_option maxHeartbeats 4000000
structure Vc where
  n0 : Nat
  n1 : Nat
  n2 : Nat
  n3 : Nat
  n4 : Nat
  n5 : Nat
  n6 : Nat
  n7 : Nat
  n8 : Nat
deriving DecidableEq
abbrev vcD (v : Vc) : List D := [u64D v.n0, u64D v.n1, u64D v.n2, u64D v.n3, u64D v.n4, u64D v.n5, u64D v.n6, u64D v.n7, u64D v.n8]
def mxT (n : Nat) : Bool := decide (n ≤ 4611686018427387904)
def vcB (v : Vc) : Bool := decide (v.n0 = 0) && mxT v.n1 && mxT v.n2 && mxT v.n3 && mxT v.n4 && mxT v.n5 && mxT v.n6 && mxT v.n7 && mxT v.n8
theorem vcB_iff (v : Vc) : vcB v = true ↔ v.n0 = 0 ∧ v.n1 ≤ 4611686018427387904 ∧ v.n2 ≤ 4611686018427387904 ∧ v.n3 ≤ 4611686018427387904 ∧ v.n4 ≤ 4611686018427387904 ∧ v.n5 ≤ 4611686018427387904 ∧ v.n6 ≤ 4611686018427387904 ∧ v.n7 ≤ 4611686018427387904 ∧ v.n8 ≤ 4611686018427387904 := by
  simp [vcB, mxT, and_assoc]
theorem vcB_t {v : Vc} (h : v.n0 = 0 ∧ v.n1 ≤ 4611686018427387904 ∧ v.n2 ≤ 4611686018427387904 ∧ v.n3 ≤ 4611686018427387904 ∧ v.n4 ≤ 4611686018427387904 ∧ v.n5 ≤ 4611686018427387904 ∧ v.n6 ≤ 4611686018427387904 ∧ v.n7 ≤ 4611686018427387904 ∧ v.n8 ≤ 4611686018427387904) : vcB v = true := (vcB_iff v).2 h
theorem vcB_f {v : Vc} (h : ¬ (v.n0 = 0 ∧ v.n1 ≤ 4611686018427387904 ∧ v.n2 ≤ 4611686018427387904 ∧ v.n3 ≤ 4611686018427387904 ∧ v.n4 ≤ 4611686018427387904 ∧ v.n5 ≤ 4611686018427387904 ∧ v.n6 ≤ 4611686018427387904 ∧ v.n7 ≤ 4611686018427387904 ∧ v.n8 ≤ 4611686018427387904)) : vcB v = false := by
  cases e : vcB v
  · rfl
  · exact (h ((vcB_iff v).1 e)).elim
theorem right13_v (v : Vc) : VP Tryz.prog 24 [.agg (vcD v)] (· = .ret (.lit (.bool (vcB v)))) := by
  refine vp_of Tryz.func24 rfl Tryz.ntmps24 rfl Tryz.results24 fun B => ?_
  repeat' (first | refine nz1 ?_ | refine nzo ?_ | refine nc ?_ ?_ | (with_reducible intro _ <;> (try (exfalso; omega))) | refine nnil ?_ | (refine nd ?_ ?_ <;> intro hg <;> first | exact xo hg | rw [hg]))
  refine vw_rounds 10 ?_
  repeat' (first | refine nz1 ?_ | refine nzo ?_ | refine nc ?_ ?_ | (with_reducible intro _ <;> (try (exfalso; omega))) | refine nnil ?_ | (refine nd ?_ ?_ <;> intro hg <;> first | exact xo hg | rw [hg]))
  all_goals first | (rw [vcB_f (by omega)]) | (rw [vcB_t (by omega)]) | trace_state
theorem vcheck_v (v : Vc) : VP Tryz.prog 55 [.agg (vcD v)] (· = .ret (i64D (if vcB v then 0 else 230))) := by
  refine vp_of Tryz.func55 rfl Tryz.ntmps55 rfl Tryz.results55 fun B => ?_
  repeat' (first | refine nz1 ?_ | (refine vid ?_; first | refine vs_vc (hc := vc_of Tryz.func87 rfl Tryz.ntmps87 Tryz.results87 fun _ => ?_)) | refine nzo ?_ | refine nc ?_ ?_ | (with_reducible intro _ <;> (try (exfalso; omega))) | refine nnil ?_ | (refine nd ?_ ?_ <;> intro hg <;> first | exact xo hg | rw [hg]))
  · rw [vcB_f (by omega)]; rfl
  refine vw_range rfl rfl rfl rfl rfl rfl rfl fun R T hOk => ?_
  refine vmb_of Tryz.func114 rfl Tryz.ntmps114 Tryz.results114 fun M2 => ?_
  repeat' (first | refine nz1 ?_ | refine nzo ?_ | refine nc ?_ ?_ | (with_reducible intro _ <;> (try (exfalso; omega))) | refine nnil ?_ | (refine nd ?_ ?_ <;> intro hg <;> first | exact xo hg | rw [hg]))
  refine vw_rounds 10 ?_
  repeat' (first | refine nz1 ?_ | (refine vid ?_; first | refine vs_yield (by assumption) fun _ _ => ?_) | refine nzo ?_ | refine nc ?_ ?_ | (with_reducible intro _ <;> (try (exfalso; omega))) | refine nnil ?_ | (refine nd ?_ ?_ <;> intro hg <;> first | exact xo hg | rw [hg]))
  all_goals first | (rw [vcB_f (by omega)]; rfl) | (rw [vcB_t (by omega)]; rfl) | trace_state
def vcBy (v : Vc) : List UInt8 := layN 8 v.n1 ++ layN 8 v.n2 ++ layN 8 v.n3 ++ layN 8 v.n4 ++ layN 8 v.n5 ++ layN 8 v.n6 ++ layN 8 v.n7 ++ layN 8 v.n8
def Vc.in (v : Vc) : Prop := v.n0 < 18446744073709551616 ∧ v.n1 < 18446744073709551616 ∧ v.n2 < 18446744073709551616 ∧ v.n3 < 18446744073709551616 ∧ v.n4 < 18446744073709551616 ∧ v.n5 < 18446744073709551616 ∧ v.n6 < 18446744073709551616 ∧ v.n7 < 18446744073709551616 ∧ v.n8 < 18446744073709551616
theorem vector19_v (v : Vc) (h : v.in) : VP Tryz.prog 25 [.agg (vcD v)] (· = .ret (.sl false true (byD (vcBy v)))) := by
  obtain ⟨h0, h1, h2, h3, h4, h5, h6, h7, h8⟩ := h
  have c1 := lay01_v 8 v.n1 (by omega) h1
  have c2 := lay01_v 8 v.n2 (by omega) h2
  have c3 := lay01_v 8 v.n3 (by omega) h3
  have c4 := lay01_v 8 v.n4 (by omega) h4
  have c5 := lay01_v 8 v.n5 (by omega) h5
  have c6 := lay01_v 8 v.n6 (by omega) h6
  have c7 := lay01_v 8 v.n7 (by omega) h7
  have c8 := lay01_v 8 v.n8 (by omega) h8
  have l1 := layN_len 8 v.n1
  have l2 := layN_len 8 v.n2
  have l3 := layN_len 8 v.n3
  have l4 := layN_len 8 v.n4
  have l5 := layN_len 8 v.n5
  have l6 := layN_len 8 v.n6
  have l7 := layN_len 8 v.n7
  have l8 := layN_len 8 v.n8
  refine VP.le ?_
  refine vp_of Tryz.func25 rfl Tryz.ntmps25 rfl Tryz.results25 fun B => ?_
  repeat' (first | refine nz1 ?_ | refine nzo ?_ | refine nc ?_ ?_ | (with_reducible intro _ <;> (try (exfalso; omega))) | refine nnil ?_ | (refine nd ?_ ?_ <;> intro hg <;> first | exact xo hg | rw [hg]))
  refine vw_nilT 3 5 1 rfl ?_
  refine vw_rounds 9 ?_
  repeat' (first | refine nz1 ?_ | (refine vid ?_; first | refine cz (c1) ?_ | refine cz (c2) ?_ | refine cz (c3) ?_ | refine cz (c4) ?_ | refine cz (c5) ?_ | refine cz (c6) ?_ | refine cz (c7) ?_ | refine cz (c8) ?_) | refine nzo ?_ | refine nc ?_ ?_ | (with_reducible intro _ <;> (try (exfalso; omega))) | refine nnil ?_ | (refine nd ?_ ?_ <;> intro hg <;> first | exact xo hg | rw [hg]))
  have hv : ([] : List (List D)) ++ byD (layN 8 v.n1) ++ byD (layN 8 v.n2) ++ byD (layN 8 v.n3) ++ byD (layN 8 v.n4) ++ byD (layN 8 v.n5) ++ byD (layN 8 v.n6) ++ byD (layN 8 v.n7) ++ byD (layN 8 v.n8) = byD (vcBy v) := by simp [vcBy, byD]
  rw [hv]
  exact de_refl _
def vcOf (b : List UInt8) : Vc := ⟨0, numN (b.take 8), numN ((b.take 16).drop 8), numN ((b.take 24).drop 16), numN ((b.take 32).drop 24), numN ((b.take 40).drop 32), numN ((b.take 48).drop 40), numN ((b.take 56).drop 48), numN ((b.take 64).drop 56)⟩
def Vc.zero : Vc := ⟨0, 0, 0, 0, 0, 0, 0, 0, 0⟩
def take19 (b : List UInt8) : Vc × Int × Int := if b.length < 64 then (.zero, 0, 110) else if vcB (vcOf b) then (vcOf b, 64, 0) else (.zero, 0, 290)
end Go.Proofs.YtnjaohdadaifhaaGreat

namespace Go.Proofs.YtnjaohdadaifhaaGreat
set_option maxRecDepth 20000
open Go.RowKit
set_option maxRecDepth 10000
set_option maxHeartbeats 4000000
theorem cneed_ok (e : Int) : VP Tryz.prog 33 [.lit (.bool true), i64D e] (· = .ret (.tup [])) := by
  refine vp_of Tryz.func33 rfl Tryz.ntmps33 rfl Tryz.results33 fun B => ?_
  repeat' (first | refine nz1 ?_ | refine nzo ?_ | refine nc ?_ ?_ | (with_reducible intro _ <;> (try (exfalso; omega))) | refine nnil ?_ | (refine nd ?_ ?_ <;> intro hg <;> first | exact xo hg | rw [hg]))
  all_goals rfl
theorem cneed_no (e : Int) : VP Tryz.prog 33 [.lit (.bool false), i64D e] (· = .panic (errD e)) := by
  refine vp_of Tryz.func33 rfl Tryz.ntmps33 rfl Tryz.results33 fun B => ?_
  repeat' (first | refine nz1 ?_ | refine nzo ?_ | refine nc ?_ ?_ | (with_reducible intro _ <;> (try (exfalso; omega))) | refine nnil ?_ | (refine nd ?_ ?_ <;> intro hg <;> first | exact xo hg | rw [hg]))
  all_goals rfl
theorem cneed_if (c : Bool) (e : Int) : VP Tryz.prog 33 [.lit (.bool c), i64D e] (· = if c then .ret (.tup []) else .panic (errD e)) := by
  cases c with
  | true => exact cneed_ok e
  | false => exact cneed_no e
theorem vectorC_v (v : Vc) (h : v.in) : VP Tryz.prog 20 [.agg (vcD v)] (· = .ret (.tup [.sl false true (byD (if vcB v then vcBy v else [])), i64D (if vcB v then 0 else 230)])) := by
  obtain ⟨h0, h1, h2, h3, h4, h5, h6, h7, h8⟩ := h
  have cc := vcheck_v v
  refine VP.le ?_
  cases hv : vcB v with
  | false =>
    rw [hv] at cc
    simp only [Bool.false_eq_true, if_false] at cc ⊢
    refine vp_of Tryz.func20 rfl Tryz.ntmps20 rfl Tryz.results20 fun B => ?_
    repeat' (first | refine nz1 ?_ | (refine vid ?_; first | refine cz (cc) ?_ | (refine vq_l (cneed_ok 230) ?_; first | refine vs_call (cneed_ok 230) ?_ | refine vs_pan (cneed_no 230) ?_ | (refine vs_cifp (cneed_if _ 230) ?_ ?_ <;> intro _ <;> (try (exfalso; omega))) | (refine vs_cif (cneed_if _ 230) ?_ ?_ <;> intro _)) | refine vs_vc (hc := vc_of Tryz.func31 rfl Tryz.ntmps31 Tryz.results31 fun _ => ?_) | refine vs_vc (hc := vc_of Tryz.func72 rfl Tryz.ntmps72 Tryz.results72 fun _ => ?_) | refine vs_vc (hc := vc_of Tryz.func56 rfl Tryz.ntmps56 Tryz.results56 fun _ => ?_) | refine vs_vc (hc := vc_tries (fd := 97) Tryz.func71 rfl Tryz.ntmps71 Tryz.results71 fun _ => ?_)) | refine nzo ?_ | refine nc ?_ ?_ | (with_reducible intro _ <;> (try (exfalso; omega))) | refine nnil ?_ | (refine nd ?_ ?_ <;> intro hg <;> first | exact xo hg | rw [hg]) | refine vdf_of Tryz.func97 rfl Tryz.ntmps97 Tryz.results97 ?_)
    all_goals (simp only [byD, List.map_nil, leR]; infer_instance)
  | true =>
    rw [hv] at cc
    simp only [if_true] at cc ⊢
    have c1 := put_v [] 8 v.n1 (by omega) (by simpa using h1) (by simp)
    have c2 := put_v ([] ++ layN 8 v.n1) 8 v.n2 (by omega) (by simpa using h2) (by simp [layN_len])
    have c3 := put_v ([] ++ layN 8 v.n1 ++ layN 8 v.n2) 8 v.n3 (by omega) (by simpa using h3) (by simp [layN_len])
    have c4 := put_v ([] ++ layN 8 v.n1 ++ layN 8 v.n2 ++ layN 8 v.n3) 8 v.n4 (by omega) (by simpa using h4) (by simp [layN_len])
    have c5 := put_v ([] ++ layN 8 v.n1 ++ layN 8 v.n2 ++ layN 8 v.n3 ++ layN 8 v.n4) 8 v.n5 (by omega) (by simpa using h5) (by simp [layN_len])
    have c6 := put_v ([] ++ layN 8 v.n1 ++ layN 8 v.n2 ++ layN 8 v.n3 ++ layN 8 v.n4 ++ layN 8 v.n5) 8 v.n6 (by omega) (by simpa using h6) (by simp [layN_len])
    have c7 := put_v ([] ++ layN 8 v.n1 ++ layN 8 v.n2 ++ layN 8 v.n3 ++ layN 8 v.n4 ++ layN 8 v.n5 ++ layN 8 v.n6) 8 v.n7 (by omega) (by simpa using h7) (by simp [layN_len])
    have c8 := put_v ([] ++ layN 8 v.n1 ++ layN 8 v.n2 ++ layN 8 v.n3 ++ layN 8 v.n4 ++ layN 8 v.n5 ++ layN 8 v.n6 ++ layN 8 v.n7) 8 v.n8 (by omega) (by simpa using h8) (by simp [layN_len])
    simp only [bsD, show byD ([] : List UInt8) = [] from rfl] at c1
    rw [show ((8 : Nat) : Int) = 8 from rfl] at c1 c2 c3 c4 c5 c6 c7 c8
    simp only [vcBy]
    generalize layN 8 v.n1 = L1 at *
    generalize layN 8 v.n2 = L2 at *
    generalize layN 8 v.n3 = L3 at *
    generalize layN 8 v.n4 = L4 at *
    generalize layN 8 v.n5 = L5 at *
    generalize layN 8 v.n6 = L6 at *
    generalize layN 8 v.n7 = L7 at *
    generalize layN 8 v.n8 = L8 at *
    refine vp_of Tryz.func20 rfl Tryz.ntmps20 rfl Tryz.results20 fun B => ?_
    repeat' (first | refine nz1 ?_ | (refine vid ?_; first | refine cz (cc) ?_ | (refine vq_l (cneed_ok 230) ?_; first | refine vs_call (cneed_ok 230) ?_ | refine vs_pan (cneed_no 230) ?_ | (refine vs_cifp (cneed_if _ 230) ?_ ?_ <;> intro _ <;> (try (exfalso; omega))) | (refine vs_cif (cneed_if _ 230) ?_ ?_ <;> intro _)) | refine vs_vc (hc := vc_of Tryz.func31 rfl Tryz.ntmps31 Tryz.results31 fun _ => ?_) | refine vs_vc (hc := vc_of Tryz.func72 rfl Tryz.ntmps72 Tryz.results72 fun _ => ?_) | refine vs_vc (hc := vc_of Tryz.func56 rfl Tryz.ntmps56 Tryz.results56 fun _ => ?_) | refine vs_slicelo ?_ | refine vs_lensv ?_ | refine vs_vc (hc := vc_tries (fd := 97) Tryz.func71 rfl Tryz.ntmps71 Tryz.results71 fun _ => ?_)) | refine nzo ?_ | refine nc ?_ ?_ | (with_reducible intro _ <;> (try (exfalso; omega))) | refine nnil ?_ | (refine nd ?_ ?_ <;> intro hg <;> first | exact xo hg | rw [hg]) | refine vdf_of Tryz.func97 rfl Tryz.ntmps97 Tryz.results97 ?_)
    refine vw_rounds 9 ?_
    repeat' (first | refine nz1 ?_ | (refine vid ?_; first | refine vs_idxsv ?_ | refine vs_vc (hc := vc_of Tryz.func34 rfl Tryz.ntmps34 Tryz.results34 fun _ => ?_) | refine cz (c1) ?_ | refine cz (c2) ?_ | refine cz (c3) ?_ | refine cz (c4) ?_ | refine cz (c5) ?_ | refine cz (c6) ?_ | refine cz (c7) ?_ | refine cz (c8) ?_ | (refine vq_l (cneed_ok 0) ?_; first | refine vs_call (cneed_ok 0) ?_ | refine vs_pan (cneed_no 0) ?_ | (refine vs_cifp (cneed_if _ 0) ?_ ?_ <;> intro _ <;> (try (exfalso; omega))) | (refine vs_cif (cneed_if _ 0) ?_ ?_ <;> intro _))) | refine nzo ?_ | refine nc ?_ ?_ | (with_reducible intro _ <;> (try (exfalso; omega))) | refine nnil ?_ | (refine nd ?_ ?_ <;> intro hg <;> first | exact xo hg | rw [hg]) | refine vdf_of Tryz.func97 rfl Tryz.ntmps97 Tryz.results97 ?_)
    have hv : byD ([] ++ L1 ++ L2 ++ L3 ++ L4 ++ L5 ++ L6 ++ L7 ++ L8) = byD (L1 ++ L2 ++ L3 ++ L4 ++ L5 ++ L6 ++ L7 ++ L8) := by rw [List.nil_append]
    rw [hv]
    exact de_refl _
end Go.Proofs.YtnjaohdadaifhaaGreat

namespace Go.Proofs.YtnjaohdadaifhaaGreat
set_option maxRecDepth 20000
open Go.RowKit
section
variable {B : Nat} {U : Nat → Prop} {w : World}
theorem dreps_lits : ∀ {vs cs : List Value}, dreps B U w (vs.map .lit) cs → cs = vs
  | [], _, h => by simpa only [List.map_nil, dreps] using h
  | v :: vs, _, h => by
    simp only [List.map_cons, dreps, drep] at h
    obtain ⟨y, ys, rfl, rfl, k⟩ := h
    rw [dreps_lits k]
theorem drepss_lits {α : Type} (g : α → List Value) : ∀ {L : List α} {cs : List Value}, drepss B U w (L.map fun x => (g x).map .lit) cs → cs = L.flatMap g
  | [], _, h => by simpa only [List.map_nil, drepss, List.flatMap_nil] using h
  | x :: L, _, h => by
    simp only [List.map_cons, drepss] at h
    obtain ⟨c1, c2, rfl, k1, k2⟩ := h
    rw [dreps_lits k1, drepss_lits g k2, List.flatMap_cons]
theorem dreps_lits_mk : ∀ (vs : List Value), dreps B U w (vs.map .lit) vs
  | [] => by simp only [List.map_nil, dreps]
  | v :: vs => by simp only [List.map_cons, dreps, drep]; exact ⟨v, vs, rfl, rfl, dreps_lits_mk vs⟩
theorem drepss_lits_mk {α : Type} (g : α → List Value) : ∀ (L : List α), drepss B U w (L.map fun x => (g x).map .lit) (L.flatMap g)
  | [] => by simp only [List.map_nil, drepss, List.flatMap_nil]
  | x :: L => by simp only [List.map_cons, drepss, List.flatMap_cons]; exact ⟨_, _, rfl, dreps_lits_mk _, drepss_lits_mk g L⟩
theorem isSl_of {α : Type} (g : α → List Value) {c f : Bool} {L : List α} {u : Value} (h : drep B U w (.sl c f (L.map fun x => (g x).map .lit)) u) : IsSl w u L.length (L.flatMap g) := by
  simp only [drep] at h
  obtain ⟨a, cap, cs, e1, e2, e3, _, e5, _, _, e7, e8⟩ := h
  rw [List.length_map] at e1 e2
  rw [drepss_lits g e8] at e7
  exact ⟨a, cap, e1, e2, e3, e5, fun j u hj => by
    obtain ⟨b, o, h1, _, h3⟩ := e7 j u hj
    exact ⟨b, o, h1, h3⟩⟩
end
theorem vp_bridge {P : Program} {f : FuncId} {ds : List D} {r : R} (hrun : ∀ args w, (callFunc f args).run P w = .ok (.enter f args) w)
    (h : ∀ (U : Nat → Prop) (w : World) (us : List Value), dreps w.heap.size U w ds us → Calls P f us.toArray w fun e w' => Below w.heap.size w w' ∧ rrel w.heap.size (fun b => U b ∨ w.heap.size ≤ b) w' r e) : VP P f ds (· = r) :=
  ⟨hrun, fun U w us hu => (h U w us hu).mono fun _ _ ⟨h1, h2⟩ => ⟨h1, r, rfl, h2⟩⟩
end Go.Proofs.YtnjaohdadaifhaaGreat
