/- Walks by data and names, part 36: Layer 19, by V: an operation's parts, read. Layer 19, by V: colours and ids, read. -/
import Derived.Test.YtnjaohdadaifhaaGreatPk35
import Derived.Test.YtnjaohdadaifhaaGreatPk33
namespace Go.Proofs.YtnjaohdadaifhaaGreat
set_option maxRecDepth 20000
open Go.RowKit
set_option maxRecDepth 10000
set_option maxHeartbeats 4000000
abbrev tkW (r l px : V) (i : Idd) (k x y x2 y2 z : Int) (c : Col) (w h : Int) (tg : Idd) : List V := [r, .d (u64D i.t), .d (i64D i.s), .d (u64D i.q), .d (i64D k), .d (i64D x), .d (i64D y), .d (i64D x2), .d (i64D y2), .d (i64D z),
  .d (.lit (vb c.r)), .d (.lit (vb c.g)), .d (.lit (vb c.b)), .d (.lit (vb c.a)), .d (i64D w), .d (i64D h), px, .d (u64D tg.t), .d (i64D tg.s), .d (u64D tg.q), l]
abbrev tkA (r l : V) : List V := [r, .d .any, .d .any, .d .any, .d .any, .d .any, .d .any, .d .any, .d .any, .d .any, .d .any, .d .any, .d .any, .d .any, .d .any, .d .any, .d .any, .d .any, .d .any, .d .any, l]
abbrev rdV (b : List UInt8) : List V := [.d (.sl false true (byD b)), .d (i64D 0)]
theorem num1 (u : UInt8) (t : List UInt8) : numN ((u :: t).take 1) = u.toNat := by simp [numN]
theorem rd1 (u : UInt8) (t : List UInt8) : VM1 Tryz.prog 78 1 [.ptr 0 0, .d (i64D 1)] [.c 0 0 (rdV (u :: t))] 1 (.ret (.d (u64D u.toNat))) [.c 0 0 (rdV t)] 1 := by
  have c := rdnum_v true (u :: t) 1 (by omega) (by simp)
  rw [num1] at c
  exact c
theorem rd1n : VM1 Tryz.prog 78 1 [.ptr 0 0, .d (i64D 1)] [.c 0 0 (rdV [])] 1 (.ret (.d (u64D 0))) [.c 0 0 [.d (.sl false true (byD [])), .d (i64D 110)]] 1 := rdnum_no true [] 1 (by omega) (by simp)
theorem rd8 (b : List UInt8) (h : 8 ≤ b.length) : VM1 Tryz.prog 78 1 [.ptr 0 0, .d (i64D 8)] [.c 0 0 (rdV b)] 1 (.ret (.d (u64D (numN (b.take 8))))) [.c 0 0 (rdV (b.drop 8))] 1 := rdnum_v true b 8 (by omega) h
theorem rd8n (b : List UInt8) (h : ¬ 8 ≤ b.length) : VM1 Tryz.prog 78 1 [.ptr 0 0, .d (i64D 8)] [.c 0 0 (rdV b)] 1 (.ret (.d (u64D 0))) [.c 0 0 [.d (.sl false true (byD b)), .d (i64D 110)]] 1 := rdnum_no true b 8 (by omega) h
theorem num2 (u v : UInt8) (t : List UInt8) : numN ((u :: v :: t).take 2) = 256 * u.toNat + v.toNat := by simp [numN]
theorem rd2 (u v : UInt8) (t : List UInt8) : VM1 Tryz.prog 78 1 [.ptr 0 0, .d (i64D 2)] [.c 0 0 (rdV (u :: v :: t))] 1 (.ret (.d (u64D (256 * u.toNat + v.toNat : Nat)))) [.c 0 0 (rdV t)] 1 := by
  have c := rdnum_v true (u :: v :: t) 2 (by omega) (by simp)
  rw [num2] at c
  exact c
theorem rd2n (b : List UInt8) (h : ¬ 2 ≤ b.length) : VM1 Tryz.prog 78 1 [.ptr 0 0, .d (i64D 2)] [.c 0 0 (rdV b)] 1 (.ret (.d (u64D 0))) [.c 0 0 [.d (.sl false true (byD b)), .d (i64D 110)]] 1 := rdnum_no true b 2 (by omega) h
theorem fromR_v {px : D} {i : Idd} {k x y x2 y2 z : Int} {c : Col} {w h : Int} {tg : Idd} (u v : UInt8) (t : List UInt8) : VM1 Tryz.prog 102 2 [.ptr 0 0] [.c 0 0 (tkW (.ptr 1 0) nilP (.d px) i k x y x2 y2 z c w h tg), .c 1 0 (rdV (u :: v :: t))] 2 (.ret (.tup [])) [.c 0 0 (tkW (.ptr 1 0) nilP (.d px) i k ((u.toNat : Int) + -64) ((v.toNat : Int) + -64) x2 y2 z c w h tg), .c 1 0 (rdV t)] 2 := by
  have hu := u.toNat_lt
  have hv := v.toNat_lt
  have c1 := rd1 u (v :: t)
  have c2 := rd1 v t
  refine vm1_of Tryz.func102 rfl Tryz.ntmps102 Tryz.results102 fun B M => ?_
  repeat' (first | refine nz1 ?_ | (refine vid ?_; first | refine vs_vm [(1, none)] c1 ?_ | refine vs_vm [(1, none)] c2 ?_ | refine vs_vc (hc := vc_of Tryz.func38 rfl Tryz.ntmps38 Tryz.results38 fun _ => ?_) | refine vs_vc (hc := vc_of Tryz.func79 rfl Tryz.ntmps79 Tryz.results79 fun _ => ?_) | refine vs_eqpn ?_ | refine vs_nepnT ?_ | refine vs_nepnF ?_ | (refine vq_l (cneed_ok 110) ?_; first | refine vs_call (cneed_ok 110) ?_ | refine vs_pan (cneed_no 110) ?_ | (refine vs_cifp (cneed_if _ 110) ?_ ?_ <;> intro _ <;> (try (exfalso; omega))) | (refine vs_cif (cneed_if _ 110) ?_ ?_ <;> intro _)) | refine vs_vc (hc := vc_of Tryz.func120 rfl Tryz.ntmps120 Tryz.results120 fun _ => ?_)) | refine nzo ?_ | refine nc ?_ ?_ | (with_reducible intro _ <;> (try (exfalso; omega))) | refine nnil ?_ | (refine nd ?_ ?_ <;> intro hg <;> first | exact xo hg | rw [hg]))
  exact nx_sub []
theorem toR_v {px : D} {i : Idd} {k x y x2 y2 z : Int} {c : Col} {w h : Int} {tg : Idd} (u v : UInt8) (t : List UInt8) : VM1 Tryz.prog 103 2 [.ptr 0 0] [.c 0 0 (tkW (.ptr 1 0) nilP (.d px) i k x y x2 y2 z c w h tg), .c 1 0 (rdV (u :: v :: t))] 2 (.ret (.tup [])) [.c 0 0 (tkW (.ptr 1 0) nilP (.d px) i k x y ((u.toNat : Int) + -64) ((v.toNat : Int) + -64) z c w h tg), .c 1 0 (rdV t)] 2 := by
  have hu := u.toNat_lt
  have hv := v.toNat_lt
  have c1 := rd1 u (v :: t)
  have c2 := rd1 v t
  refine vm1_of Tryz.func103 rfl Tryz.ntmps103 Tryz.results103 fun B M => ?_
  repeat' (first | refine nz1 ?_ | (refine vid ?_; first | refine vs_vm [(1, none)] c1 ?_ | refine vs_vm [(1, none)] c2 ?_ | refine vs_vc (hc := vc_of Tryz.func38 rfl Tryz.ntmps38 Tryz.results38 fun _ => ?_) | refine vs_vc (hc := vc_of Tryz.func79 rfl Tryz.ntmps79 Tryz.results79 fun _ => ?_) | refine vs_eqpn ?_ | refine vs_nepnT ?_ | refine vs_nepnF ?_ | (refine vq_l (cneed_ok 110) ?_; first | refine vs_call (cneed_ok 110) ?_ | refine vs_pan (cneed_no 110) ?_ | (refine vs_cifp (cneed_if _ 110) ?_ ?_ <;> intro _ <;> (try (exfalso; omega))) | (refine vs_cif (cneed_if _ 110) ?_ ?_ <;> intro _)) | refine vs_vc (hc := vc_of Tryz.func120 rfl Tryz.ntmps120 Tryz.results120 fun _ => ?_)) | refine nzo ?_ | refine nc ?_ ?_ | (with_reducible intro _ <;> (try (exfalso; omega))) | refine nnil ?_ | (refine nd ?_ ?_ <;> intro hg <;> first | exact xo hg | rw [hg]))
  exact nx_sub []
theorem fromR_no {px : D} {i : Idd} {k x y x2 y2 z : Int} {c : Col} {w h : Int} {tg : Idd} (b : List UInt8) (hb : rdAt b = none) : VM1 Tryz.prog 102 2 [.ptr 0 0] [.c 0 0 (tkW (.ptr 1 0) nilP (.d px) i k x y x2 y2 z c w h tg), .c 1 0 (rdV b)] 2 (.panic (.d (errD 110))) [.c 0 0 (tkA (.ptr 1 0) nilP), .c 1 0 [.d .any, .d .any]] 2 := by
  match b, hb with
  | [], _ =>
    have c1 := rd1n
    refine vm1_of Tryz.func102 rfl Tryz.ntmps102 Tryz.results102 fun B M => ?_
    repeat' (first | refine nz1 ?_ | (refine vid ?_; first | refine vs_vm [(1, none)] c1 ?_ | refine vs_vc (hc := vc_of Tryz.func38 rfl Tryz.ntmps38 Tryz.results38 fun _ => ?_) | refine vs_vc (hc := vc_of Tryz.func79 rfl Tryz.ntmps79 Tryz.results79 fun _ => ?_) | refine vs_eqpn ?_ | refine vs_nepnT ?_ | refine vs_nepnF ?_ | (refine vq_l (cneed_ok 110) ?_; first | refine vs_call (cneed_ok 110) ?_ | refine vs_pan (cneed_no 110) ?_ | (refine vs_cifp (cneed_if _ 110) ?_ ?_ <;> intro _ <;> (try (exfalso; omega))) | (refine vs_cif (cneed_if _ 110) ?_ ?_ <;> intro _)) | refine vs_vc (hc := vc_of Tryz.func120 rfl Tryz.ntmps120 Tryz.results120 fun _ => ?_)) | refine nzo ?_ | refine nc ?_ ?_ | (with_reducible intro _ <;> (try (exfalso; omega))) | refine nnil ?_ | (refine nd ?_ ?_ <;> intro hg <;> first | exact xo hg | rw [hg]))
    exact nx_subp []
  | [u], _ =>
    have hu := u.toNat_lt
    have c1 := rd1 u []
    have c2 := rd1n
    refine vm1_of Tryz.func102 rfl Tryz.ntmps102 Tryz.results102 fun B M => ?_
    repeat' (first | refine nz1 ?_ | (refine vid ?_; first | refine vs_vm [(1, none)] c1 ?_ | refine vs_vm [(1, none)] c2 ?_ | refine vs_vc (hc := vc_of Tryz.func38 rfl Tryz.ntmps38 Tryz.results38 fun _ => ?_) | refine vs_vc (hc := vc_of Tryz.func79 rfl Tryz.ntmps79 Tryz.results79 fun _ => ?_) | refine vs_eqpn ?_ | refine vs_nepnT ?_ | refine vs_nepnF ?_ | (refine vq_l (cneed_ok 110) ?_; first | refine vs_call (cneed_ok 110) ?_ | refine vs_pan (cneed_no 110) ?_ | (refine vs_cifp (cneed_if _ 110) ?_ ?_ <;> intro _ <;> (try (exfalso; omega))) | (refine vs_cif (cneed_if _ 110) ?_ ?_ <;> intro _)) | refine vs_vc (hc := vc_of Tryz.func120 rfl Tryz.ntmps120 Tryz.results120 fun _ => ?_)) | refine nzo ?_ | refine nc ?_ ?_ | (with_reducible intro _ <;> (try (exfalso; omega))) | refine nnil ?_ | (refine nd ?_ ?_ <;> intro hg <;> first | exact xo hg | rw [hg]))
    exact nx_subp []
theorem toR_no {px : D} {i : Idd} {k x y x2 y2 z : Int} {c : Col} {w h : Int} {tg : Idd} (b : List UInt8) (hb : rdAt b = none) : VM1 Tryz.prog 103 2 [.ptr 0 0] [.c 0 0 (tkW (.ptr 1 0) nilP (.d px) i k x y x2 y2 z c w h tg), .c 1 0 (rdV b)] 2 (.panic (.d (errD 110))) [.c 0 0 (tkA (.ptr 1 0) nilP), .c 1 0 [.d .any, .d .any]] 2 := by
  match b, hb with
  | [], _ =>
    have c1 := rd1n
    refine vm1_of Tryz.func103 rfl Tryz.ntmps103 Tryz.results103 fun B M => ?_
    repeat' (first | refine nz1 ?_ | (refine vid ?_; first | refine vs_vm [(1, none)] c1 ?_ | refine vs_vc (hc := vc_of Tryz.func38 rfl Tryz.ntmps38 Tryz.results38 fun _ => ?_) | refine vs_vc (hc := vc_of Tryz.func79 rfl Tryz.ntmps79 Tryz.results79 fun _ => ?_) | refine vs_eqpn ?_ | refine vs_nepnT ?_ | refine vs_nepnF ?_ | (refine vq_l (cneed_ok 110) ?_; first | refine vs_call (cneed_ok 110) ?_ | refine vs_pan (cneed_no 110) ?_ | (refine vs_cifp (cneed_if _ 110) ?_ ?_ <;> intro _ <;> (try (exfalso; omega))) | (refine vs_cif (cneed_if _ 110) ?_ ?_ <;> intro _)) | refine vs_vc (hc := vc_of Tryz.func120 rfl Tryz.ntmps120 Tryz.results120 fun _ => ?_)) | refine nzo ?_ | refine nc ?_ ?_ | (with_reducible intro _ <;> (try (exfalso; omega))) | refine nnil ?_ | (refine nd ?_ ?_ <;> intro hg <;> first | exact xo hg | rw [hg]))
    exact nx_subp []
  | [u], _ =>
    have hu := u.toNat_lt
    have c1 := rd1 u []
    have c2 := rd1n
    refine vm1_of Tryz.func103 rfl Tryz.ntmps103 Tryz.results103 fun B M => ?_
    repeat' (first | refine nz1 ?_ | (refine vid ?_; first | refine vs_vm [(1, none)] c1 ?_ | refine vs_vm [(1, none)] c2 ?_ | refine vs_vc (hc := vc_of Tryz.func38 rfl Tryz.ntmps38 Tryz.results38 fun _ => ?_) | refine vs_vc (hc := vc_of Tryz.func79 rfl Tryz.ntmps79 Tryz.results79 fun _ => ?_) | refine vs_eqpn ?_ | refine vs_nepnT ?_ | refine vs_nepnF ?_ | (refine vq_l (cneed_ok 110) ?_; first | refine vs_call (cneed_ok 110) ?_ | refine vs_pan (cneed_no 110) ?_ | (refine vs_cifp (cneed_if _ 110) ?_ ?_ <;> intro _ <;> (try (exfalso; omega))) | (refine vs_cif (cneed_if _ 110) ?_ ?_ <;> intro _)) | refine vs_vc (hc := vc_of Tryz.func120 rfl Tryz.ntmps120 Tryz.results120 fun _ => ?_)) | refine nzo ?_ | refine nc ?_ ?_ | (with_reducible intro _ <;> (try (exfalso; omega))) | refine nnil ?_ | (refine nd ?_ ?_ <;> intro hg <;> first | exact xo hg | rw [hg]))
    exact nx_subp []
theorem sizeR_v {px : D} {i : Idd} {k x y x2 y2 z : Int} {c : Col} {w h : Int} {tg : Idd} (u v : UInt8) (t : List UInt8) : VM1 Tryz.prog 104 2 [.ptr 0 0] [.c 0 0 (tkW (.ptr 1 0) nilP (.d px) i k x y x2 y2 z c w h tg), .c 1 0 (rdV (u :: v :: t))] 2 (.ret (.tup [])) [.c 0 0 (tkW (.ptr 1 0) nilP (.d px) i k x y x2 y2 ((256 * u.toNat + v.toNat : Nat) : Int) c w h tg), .c 1 0 (rdV t)] 2 := by
  have hu := u.toNat_lt
  have hv := v.toNat_lt
  have hn : 256 * u.toNat + v.toNat < 65536 := by omega
  have c1 := rd2 u v t
  generalize 256 * u.toNat + v.toNat = n at *
  refine vm1_of Tryz.func104 rfl Tryz.ntmps104 Tryz.results104 fun B M => ?_
  repeat' (first | refine nz1 ?_ | (refine vid ?_; first | refine vs_vm [(1, none)] c1 ?_ | refine vs_vc (hc := vc_of Tryz.func38 rfl Tryz.ntmps38 Tryz.results38 fun _ => ?_) | refine vs_vc (hc := vc_of Tryz.func79 rfl Tryz.ntmps79 Tryz.results79 fun _ => ?_) | refine vs_eqpn ?_ | refine vs_nepnT ?_ | refine vs_nepnF ?_ | (refine vq_l (cneed_ok 110) ?_; first | refine vs_call (cneed_ok 110) ?_ | refine vs_pan (cneed_no 110) ?_ | (refine vs_cifp (cneed_if _ 110) ?_ ?_ <;> intro _ <;> (try (exfalso; omega))) | (refine vs_cif (cneed_if _ 110) ?_ ?_ <;> intro _))) | refine nzo ?_ | refine nc ?_ ?_ | (with_reducible intro _ <;> (try (exfalso; omega))) | refine nnil ?_ | (refine nd ?_ ?_ <;> intro hg <;> first | exact xo hg | rw [hg]))
  exact nx_sub []
theorem sizeR_no {px : D} {i : Idd} {k x y x2 y2 z : Int} {c : Col} {w h : Int} {tg : Idd} (b : List UInt8) (hb : rdSz b = none) : VM1 Tryz.prog 104 2 [.ptr 0 0] [.c 0 0 (tkW (.ptr 1 0) nilP (.d px) i k x y x2 y2 z c w h tg), .c 1 0 (rdV b)] 2 (.panic (.d (errD 110))) [.c 0 0 (tkA (.ptr 1 0) nilP), .c 1 0 [.d .any, .d .any]] 2 := by
  have c1 := rd2n b (by
    match b, hb with
    | [], _ => simp
    | [_], _ => simp)
  refine vm1_of Tryz.func104 rfl Tryz.ntmps104 Tryz.results104 fun B M => ?_
  repeat' (first | refine nz1 ?_ | (refine vid ?_; first | refine vs_vm [(1, none)] c1 ?_ | refine vs_vc (hc := vc_of Tryz.func38 rfl Tryz.ntmps38 Tryz.results38 fun _ => ?_) | refine vs_vc (hc := vc_of Tryz.func79 rfl Tryz.ntmps79 Tryz.results79 fun _ => ?_) | refine vs_eqpn ?_ | refine vs_nepnT ?_ | refine vs_nepnF ?_ | (refine vq_l (cneed_ok 110) ?_; first | refine vs_call (cneed_ok 110) ?_ | refine vs_pan (cneed_no 110) ?_ | (refine vs_cifp (cneed_if _ 110) ?_ ?_ <;> intro _ <;> (try (exfalso; omega))) | (refine vs_cif (cneed_if _ 110) ?_ ?_ <;> intro _))) | refine nzo ?_ | refine nc ?_ ?_ | (with_reducible intro _ <;> (try (exfalso; omega))) | refine nnil ?_ | (refine nd ?_ ?_ <;> intro hg <;> first | exact xo hg | rw [hg]))
  exact nx_subp []
end Go.Proofs.YtnjaohdadaifhaaGreat

namespace Go.Proofs.YtnjaohdadaifhaaGreat
set_option maxRecDepth 20000
open Go.RowKit
set_option maxRecDepth 10000
set_option maxHeartbeats 4000000
theorem colorR_v {px : D} {i : Idd} {k x y x2 y2 z : Int} {c : Col} {w h : Int} {tg : Idd} (r g b a : UInt8) (t : List UInt8) : VM1 Tryz.prog 105 2 [.ptr 0 0] [.c 0 0 (tkW (.ptr 1 0) nilP (.d px) i k x y x2 y2 z c w h tg), .c 1 0 (rdV (r :: g :: b :: a :: t))] 2 (.ret (.tup [])) [.c 0 0 (tkW (.ptr 1 0) nilP (.d px) i k x y x2 y2 z ⟨r, g, b, a⟩ w h tg), .c 1 0 (rdV t)] 2 := by
  have h1 := r.toNat_lt
  have h2 := g.toNat_lt
  have h3 := b.toNat_lt
  have h4 := a.toNat_lt
  have c1 := rd1 r (g :: b :: a :: t)
  have c2 := rd1 g (b :: a :: t)
  have c3 := rd1 b (a :: t)
  have c4 := rd1 a t
  refine vm1_of Tryz.func105 rfl Tryz.ntmps105 Tryz.results105 fun B M => ?_
  repeat' (first | refine nz1 ?_ | (refine vid ?_; first | refine vs_vc (hc := vc_of Tryz.func121 rfl Tryz.ntmps121 Tryz.results121 fun _ => ?_) | refine vs_eqpn ?_ | refine vs_nepnT ?_ | refine vs_nepnF ?_) | refine nzo ?_ | refine nc ?_ ?_ | (with_reducible intro _ <;> (try (exfalso; omega))) | refine nnil ?_ | (refine nd ?_ ?_ <;> intro hg <;> first | exact xo hg | rw [hg]))
  refine vw_rounds 5 ?_
  repeat' (first | refine nz1 ?_ | (refine vid ?_; first | refine vs_vm [(1, none)] c1 ?_ | refine vs_vm [(1, none)] c2 ?_ | refine vs_vm [(1, none)] c3 ?_ | refine vs_vm [(1, none)] c4 ?_ | refine vs_vc (hc := vc_of Tryz.func38 rfl Tryz.ntmps38 Tryz.results38 fun _ => ?_) | refine vs_vc (hc := vc_of Tryz.func79 rfl Tryz.ntmps79 Tryz.results79 fun _ => ?_) | refine vs_eqpn ?_ | refine vs_nepnT ?_ | refine vs_nepnF ?_ | (refine vq_l (cneed_ok 110) ?_; first | refine vs_call (cneed_ok 110) ?_ | refine vs_pan (cneed_no 110) ?_ | (refine vs_cifp (cneed_if _ 110) ?_ ?_ <;> intro _ <;> (try (exfalso; omega))) | (refine vs_cif (cneed_if _ 110) ?_ ?_ <;> intro _))) | refine nzo ?_ | refine nc ?_ ?_ | (with_reducible intro _ <;> (try (exfalso; omega))) | refine nnil ?_ | (refine nd ?_ ?_ <;> intro hg <;> first | exact xo hg | rw [hg]))
  exact nx_sub []
theorem colorR_no {px : D} {i : Idd} {k x y x2 y2 z : Int} {c : Col} {w h : Int} {tg : Idd} (b : List UInt8) (hb : rdCol b = none) : VM1 Tryz.prog 105 2 [.ptr 0 0] [.c 0 0 (tkW (.ptr 1 0) nilP (.d px) i k x y x2 y2 z c w h tg), .c 1 0 (rdV b)] 2 (.panic (.d (errD 110))) [.c 0 0 (tkA (.ptr 1 0) nilP), .c 1 0 [.d .any, .d .any]] 2 := by
  match b, hb with
  | [], _ =>
    have cn := rd1n
    refine vm1_of Tryz.func105 rfl Tryz.ntmps105 Tryz.results105 fun B M => ?_
    repeat' (first | refine nz1 ?_ | (refine vid ?_; first | refine vs_vc (hc := vc_of Tryz.func121 rfl Tryz.ntmps121 Tryz.results121 fun _ => ?_) | refine vs_eqpn ?_ | refine vs_nepnT ?_ | refine vs_nepnF ?_) | refine nzo ?_ | refine nc ?_ ?_ | (with_reducible intro _ <;> (try (exfalso; omega))) | refine nnil ?_ | (refine nd ?_ ?_ <;> intro hg <;> first | exact xo hg | rw [hg]))
    refine vw_rounds 5 ?_
    repeat' (first | refine nz1 ?_ | (refine vid ?_; first | refine vs_vm [(1, none)] cn ?_ | refine vs_vc (hc := vc_of Tryz.func38 rfl Tryz.ntmps38 Tryz.results38 fun _ => ?_) | refine vs_vc (hc := vc_of Tryz.func79 rfl Tryz.ntmps79 Tryz.results79 fun _ => ?_) | refine vs_eqpn ?_ | refine vs_nepnT ?_ | refine vs_nepnF ?_ | (refine vq_l (cneed_ok 110) ?_; first | refine vs_call (cneed_ok 110) ?_ | refine vs_pan (cneed_no 110) ?_ | (refine vs_cifp (cneed_if _ 110) ?_ ?_ <;> intro _ <;> (try (exfalso; omega))) | (refine vs_cif (cneed_if _ 110) ?_ ?_ <;> intro _))) | refine nzo ?_ | refine nc ?_ ?_ | (with_reducible intro _ <;> (try (exfalso; omega))) | refine nnil ?_ | (refine nd ?_ ?_ <;> intro hg <;> first | exact xo hg | rw [hg]))
    exact nx_subp []
  | [r], _ =>
    have h1 := r.toNat_lt
    have c1 := rd1 r []
    have cn := rd1n
    refine vm1_of Tryz.func105 rfl Tryz.ntmps105 Tryz.results105 fun B M => ?_
    repeat' (first | refine nz1 ?_ | (refine vid ?_; first | refine vs_vc (hc := vc_of Tryz.func121 rfl Tryz.ntmps121 Tryz.results121 fun _ => ?_) | refine vs_eqpn ?_ | refine vs_nepnT ?_ | refine vs_nepnF ?_) | refine nzo ?_ | refine nc ?_ ?_ | (with_reducible intro _ <;> (try (exfalso; omega))) | refine nnil ?_ | (refine nd ?_ ?_ <;> intro hg <;> first | exact xo hg | rw [hg]))
    refine vw_rounds 5 ?_
    repeat' (first | refine nz1 ?_ | (refine vid ?_; first | refine vs_vm [(1, none)] c1 ?_ | refine vs_vm [(1, none)] cn ?_ | refine vs_vc (hc := vc_of Tryz.func38 rfl Tryz.ntmps38 Tryz.results38 fun _ => ?_) | refine vs_vc (hc := vc_of Tryz.func79 rfl Tryz.ntmps79 Tryz.results79 fun _ => ?_) | refine vs_eqpn ?_ | refine vs_nepnT ?_ | refine vs_nepnF ?_ | (refine vq_l (cneed_ok 110) ?_; first | refine vs_call (cneed_ok 110) ?_ | refine vs_pan (cneed_no 110) ?_ | (refine vs_cifp (cneed_if _ 110) ?_ ?_ <;> intro _ <;> (try (exfalso; omega))) | (refine vs_cif (cneed_if _ 110) ?_ ?_ <;> intro _))) | refine nzo ?_ | refine nc ?_ ?_ | (with_reducible intro _ <;> (try (exfalso; omega))) | refine nnil ?_ | (refine nd ?_ ?_ <;> intro hg <;> first | exact xo hg | rw [hg]))
    exact nx_subp []
  | [r, g], _ =>
    have h1 := r.toNat_lt
    have c1 := rd1 r [g]
    have h2 := g.toNat_lt
    have c2 := rd1 g []
    have cn := rd1n
    refine vm1_of Tryz.func105 rfl Tryz.ntmps105 Tryz.results105 fun B M => ?_
    repeat' (first | refine nz1 ?_ | (refine vid ?_; first | refine vs_vc (hc := vc_of Tryz.func121 rfl Tryz.ntmps121 Tryz.results121 fun _ => ?_) | refine vs_eqpn ?_ | refine vs_nepnT ?_ | refine vs_nepnF ?_) | refine nzo ?_ | refine nc ?_ ?_ | (with_reducible intro _ <;> (try (exfalso; omega))) | refine nnil ?_ | (refine nd ?_ ?_ <;> intro hg <;> first | exact xo hg | rw [hg]))
    refine vw_rounds 5 ?_
    repeat' (first | refine nz1 ?_ | (refine vid ?_; first | refine vs_vm [(1, none)] c1 ?_ | refine vs_vm [(1, none)] c2 ?_ | refine vs_vm [(1, none)] cn ?_ | refine vs_vc (hc := vc_of Tryz.func38 rfl Tryz.ntmps38 Tryz.results38 fun _ => ?_) | refine vs_vc (hc := vc_of Tryz.func79 rfl Tryz.ntmps79 Tryz.results79 fun _ => ?_) | refine vs_eqpn ?_ | refine vs_nepnT ?_ | refine vs_nepnF ?_ | (refine vq_l (cneed_ok 110) ?_; first | refine vs_call (cneed_ok 110) ?_ | refine vs_pan (cneed_no 110) ?_ | (refine vs_cifp (cneed_if _ 110) ?_ ?_ <;> intro _ <;> (try (exfalso; omega))) | (refine vs_cif (cneed_if _ 110) ?_ ?_ <;> intro _))) | refine nzo ?_ | refine nc ?_ ?_ | (with_reducible intro _ <;> (try (exfalso; omega))) | refine nnil ?_ | (refine nd ?_ ?_ <;> intro hg <;> first | exact xo hg | rw [hg]))
    exact nx_subp []
  | [r, g, b], _ =>
    have h1 := r.toNat_lt
    have c1 := rd1 r [g, b]
    have h2 := g.toNat_lt
    have c2 := rd1 g [b]
    have h3 := b.toNat_lt
    have c3 := rd1 b []
    have cn := rd1n
    refine vm1_of Tryz.func105 rfl Tryz.ntmps105 Tryz.results105 fun B M => ?_
    repeat' (first | refine nz1 ?_ | (refine vid ?_; first | refine vs_vc (hc := vc_of Tryz.func121 rfl Tryz.ntmps121 Tryz.results121 fun _ => ?_) | refine vs_eqpn ?_ | refine vs_nepnT ?_ | refine vs_nepnF ?_) | refine nzo ?_ | refine nc ?_ ?_ | (with_reducible intro _ <;> (try (exfalso; omega))) | refine nnil ?_ | (refine nd ?_ ?_ <;> intro hg <;> first | exact xo hg | rw [hg]))
    refine vw_rounds 5 ?_
    repeat' (first | refine nz1 ?_ | (refine vid ?_; first | refine vs_vm [(1, none)] c1 ?_ | refine vs_vm [(1, none)] c2 ?_ | refine vs_vm [(1, none)] c3 ?_ | refine vs_vm [(1, none)] cn ?_ | refine vs_vc (hc := vc_of Tryz.func38 rfl Tryz.ntmps38 Tryz.results38 fun _ => ?_) | refine vs_vc (hc := vc_of Tryz.func79 rfl Tryz.ntmps79 Tryz.results79 fun _ => ?_) | refine vs_eqpn ?_ | refine vs_nepnT ?_ | refine vs_nepnF ?_ | (refine vq_l (cneed_ok 110) ?_; first | refine vs_call (cneed_ok 110) ?_ | refine vs_pan (cneed_no 110) ?_ | (refine vs_cifp (cneed_if _ 110) ?_ ?_ <;> intro _ <;> (try (exfalso; omega))) | (refine vs_cif (cneed_if _ 110) ?_ ?_ <;> intro _))) | refine nzo ?_ | refine nc ?_ ?_ | (with_reducible intro _ <;> (try (exfalso; omega))) | refine nnil ?_ | (refine nd ?_ ?_ <;> intro hg <;> first | exact xo hg | rw [hg]))
    exact nx_subp []
theorem rdId_in {b t : List UInt8} {i : Idd} (h : rdId b = some (i, t)) : 17 ≤ b.length ∧ i = ⟨numN (b.take 8), numN ((b.drop 8).take 1), numN ((b.drop 9).take 8)⟩ ∧ t = b.drop 17 := by
  simp only [rdId] at h
  split at h
  · simp only [Option.some.injEq, Prod.mk.injEq] at h
    exact ⟨by assumption, h.1.symm, h.2.symm⟩
  · cases h
theorem rdId_no {b : List UInt8} (h : rdId b = none) : b.length < 17 := by
  simp only [rdId] at h
  split at h
  · cases h
  · omega
theorem rd19 (b : List UInt8) (h : 9 ≤ b.length) : VM1 Tryz.prog 78 1 [.ptr 0 0, .d (i64D 1)] [.c 0 0 (rdV (b.drop 8))] 1 (.ret (.d (u64D (numN ((b.drop 8).take 1))))) [.c 0 0 (rdV (b.drop 9))] 1 := by
  have c := rdnum_v true (b.drop 8) 1 (by omega) (by simp; omega)
  rw [List.drop_drop] at c
  exact c
theorem rd19n (b : List UInt8) (h : ¬ 9 ≤ b.length) : VM1 Tryz.prog 78 1 [.ptr 0 0, .d (i64D 1)] [.c 0 0 (rdV (b.drop 8))] 1 (.ret (.d (u64D 0))) [.c 0 0 [.d (.sl false true (byD (b.drop 8))), .d (i64D 110)]] 1 := rdnum_no true (b.drop 8) 1 (by omega) (by simp; omega)
theorem num1_lt (b : List UInt8) : numN (b.take 1) < 256 := by
  have h1 := numN_lt (b.take 1)
  have h2 : 256 ^ (b.take 1).length ≤ 256 ^ 1 := Nat.pow_le_pow_right (by omega) (by simp; omega)
  omega
theorem idR2_v {px : D} {i : Idd} {k x y x2 y2 z : Int} {c : Col} {w h : Int} {tg : Idd} (b t : List UInt8) (i' : Idd) (hb : rdId b = some (i', t)) : VM1 Tryz.prog 49 2 [.ptr 0 0, .ptr 0 1] [.c 0 0 (tkW (.ptr 1 0) nilP (.d px) i k x y x2 y2 z c w h tg), .c 1 0 (rdV b)] 2 (.ret (.tup [])) [.c 0 0 (tkW (.ptr 1 0) nilP (.d px) i' k x y x2 y2 z c w h tg), .c 1 0 (rdV t)] 2 := by
  obtain ⟨hl, rfl, rfl⟩ := rdId_in hb
  have hn := num1_lt (b.drop 8)
  have c1 := rd8 b (by omega)
  have c2 := rd19 b (by omega)
  have c3 := rd8 (b.drop 9) (by simp; omega)
  rw [List.drop_drop] at c3
  generalize numN (b.take 8) = n1 at *
  generalize numN ((b.drop 8).take 1) = n2 at *
  generalize numN ((b.drop 9).take 8) = n3 at *
  refine vm1_of Tryz.func49 rfl Tryz.ntmps49 Tryz.results49 fun B M => ?_
  repeat' (first | refine nz1 ?_ | (refine vid ?_; first | refine vs_vm [(1, none)] c1 ?_ | refine vs_vm [(1, none)] c2 ?_ | refine vs_vm [(1, none)] c3 ?_ | refine vs_vc (hc := vc_of Tryz.func38 rfl Tryz.ntmps38 Tryz.results38 fun _ => ?_) | refine vs_vc (hc := vc_of Tryz.func79 rfl Tryz.ntmps79 Tryz.results79 fun _ => ?_) | refine vs_eqpn ?_ | refine vs_nepnT ?_ | refine vs_nepnF ?_ | (refine vq_l (cneed_ok 110) ?_; first | refine vs_call (cneed_ok 110) ?_ | refine vs_pan (cneed_no 110) ?_ | (refine vs_cifp (cneed_if _ 110) ?_ ?_ <;> intro _ <;> (try (exfalso; omega))) | (refine vs_cif (cneed_if _ 110) ?_ ?_ <;> intro _))) | refine nzo ?_ | refine nc ?_ ?_ | (with_reducible intro _ <;> (try (exfalso; omega))) | refine nnil ?_ | (refine nd ?_ ?_ <;> intro hg <;> first | exact xo hg | rw [hg]))
  exact nx_sub []
theorem idR2_no {px : D} {i : Idd} {k x y x2 y2 z : Int} {c : Col} {w h : Int} {tg : Idd} (b : List UInt8) (hb : rdId b = none) : VM1 Tryz.prog 49 2 [.ptr 0 0, .ptr 0 1] [.c 0 0 (tkW (.ptr 1 0) nilP (.d px) i k x y x2 y2 z c w h tg), .c 1 0 (rdV b)] 2 (.panic (.d (errD 110))) [.c 0 0 (tkA (.ptr 1 0) nilP), .c 1 0 [.d .any, .d .any]] 2 := by
  have hl := rdId_no hb
  have hn := num1_lt (b.drop 8)
  by_cases h1 : 8 ≤ b.length
  · have c1 := rd8 b h1
    by_cases h2 : 9 ≤ b.length
    · have c2 := rd19 b h2
      have c3 := rd8n (b.drop 9) (by simp; omega)
      generalize numN (b.take 8) = n1 at *
      generalize numN ((b.drop 8).take 1) = n2 at *
      refine vm1_of Tryz.func49 rfl Tryz.ntmps49 Tryz.results49 fun B M => ?_
      repeat' (first | refine nz1 ?_ | (refine vid ?_; first | refine vs_vm [(1, none)] c1 ?_ | refine vs_vm [(1, none)] c2 ?_ | refine vs_vm [(1, none)] c3 ?_ | refine vs_vc (hc := vc_of Tryz.func38 rfl Tryz.ntmps38 Tryz.results38 fun _ => ?_) | refine vs_vc (hc := vc_of Tryz.func79 rfl Tryz.ntmps79 Tryz.results79 fun _ => ?_) | refine vs_eqpn ?_ | refine vs_nepnT ?_ | refine vs_nepnF ?_ | (refine vq_l (cneed_ok 110) ?_; first | refine vs_call (cneed_ok 110) ?_ | refine vs_pan (cneed_no 110) ?_ | (refine vs_cifp (cneed_if _ 110) ?_ ?_ <;> intro _ <;> (try (exfalso; omega))) | (refine vs_cif (cneed_if _ 110) ?_ ?_ <;> intro _))) | refine nzo ?_ | refine nc ?_ ?_ | (with_reducible intro _ <;> (try (exfalso; omega))) | refine nnil ?_ | (refine nd ?_ ?_ <;> intro hg <;> first | exact xo hg | rw [hg]))
      exact nx_subp []
    · have c2 := rd19n b h2
      generalize numN (b.take 8) = n1 at *
      refine vm1_of Tryz.func49 rfl Tryz.ntmps49 Tryz.results49 fun B M => ?_
      repeat' (first | refine nz1 ?_ | (refine vid ?_; first | refine vs_vm [(1, none)] c1 ?_ | refine vs_vm [(1, none)] c2 ?_ | refine vs_vc (hc := vc_of Tryz.func38 rfl Tryz.ntmps38 Tryz.results38 fun _ => ?_) | refine vs_vc (hc := vc_of Tryz.func79 rfl Tryz.ntmps79 Tryz.results79 fun _ => ?_) | refine vs_eqpn ?_ | refine vs_nepnT ?_ | refine vs_nepnF ?_ | (refine vq_l (cneed_ok 110) ?_; first | refine vs_call (cneed_ok 110) ?_ | refine vs_pan (cneed_no 110) ?_ | (refine vs_cifp (cneed_if _ 110) ?_ ?_ <;> intro _ <;> (try (exfalso; omega))) | (refine vs_cif (cneed_if _ 110) ?_ ?_ <;> intro _))) | refine nzo ?_ | refine nc ?_ ?_ | (with_reducible intro _ <;> (try (exfalso; omega))) | refine nnil ?_ | (refine nd ?_ ?_ <;> intro hg <;> first | exact xo hg | rw [hg]))
      exact nx_subp []
  · have c1 := rd8n b h1
    refine vm1_of Tryz.func49 rfl Tryz.ntmps49 Tryz.results49 fun B M => ?_
    repeat' (first | refine nz1 ?_ | (refine vid ?_; first | refine vs_vm [(1, none)] c1 ?_ | refine vs_vc (hc := vc_of Tryz.func38 rfl Tryz.ntmps38 Tryz.results38 fun _ => ?_) | refine vs_vc (hc := vc_of Tryz.func79 rfl Tryz.ntmps79 Tryz.results79 fun _ => ?_) | refine vs_eqpn ?_ | refine vs_nepnT ?_ | refine vs_nepnF ?_ | (refine vq_l (cneed_ok 110) ?_; first | refine vs_call (cneed_ok 110) ?_ | refine vs_pan (cneed_no 110) ?_ | (refine vs_cifp (cneed_if _ 110) ?_ ?_ <;> intro _ <;> (try (exfalso; omega))) | (refine vs_cif (cneed_if _ 110) ?_ ?_ <;> intro _))) | refine nzo ?_ | refine nc ?_ ?_ | (with_reducible intro _ <;> (try (exfalso; omega))) | refine nnil ?_ | (refine nd ?_ ?_ <;> intro hg <;> first | exact xo hg | rw [hg]))
    exact nx_subp []
theorem targetR_v {px : D} {i : Idd} {k x y x2 y2 z : Int} {c : Col} {w h : Int} {tg : Idd} (b t : List UInt8) (i' : Idd) (hb : rdId b = some (i', t)) : VM1 Tryz.prog 106 2 [.ptr 0 0] [.c 0 0 (tkW (.ptr 1 0) nilP (.d px) i k x y x2 y2 z c w h tg), .c 1 0 (rdV b)] 2 (.ret (.tup [])) [.c 0 0 (tkW (.ptr 1 0) nilP (.d px) i k x y x2 y2 z c w h i'), .c 1 0 (rdV t)] 2 := by
  obtain ⟨hl, rfl, rfl⟩ := rdId_in hb
  have hn := num1_lt (b.drop 8)
  have c1 := rd8 b (by omega)
  have c2 := rd19 b (by omega)
  have c3 := rd8 (b.drop 9) (by simp; omega)
  rw [List.drop_drop] at c3
  generalize numN (b.take 8) = n1 at *
  generalize numN ((b.drop 8).take 1) = n2 at *
  generalize numN ((b.drop 9).take 8) = n3 at *
  refine vm1_of Tryz.func106 rfl Tryz.ntmps106 Tryz.results106 fun B M => ?_
  repeat' (first | refine nz1 ?_ | (refine vid ?_; first | refine vs_vm [(1, none)] c1 ?_ | refine vs_vm [(1, none)] c2 ?_ | refine vs_vm [(1, none)] c3 ?_ | refine vs_vc (hc := vc_of Tryz.func38 rfl Tryz.ntmps38 Tryz.results38 fun _ => ?_) | refine vs_vc (hc := vc_of Tryz.func79 rfl Tryz.ntmps79 Tryz.results79 fun _ => ?_) | refine vs_eqpn ?_ | refine vs_nepnT ?_ | refine vs_nepnF ?_ | (refine vq_l (cneed_ok 110) ?_; first | refine vs_call (cneed_ok 110) ?_ | refine vs_pan (cneed_no 110) ?_ | (refine vs_cifp (cneed_if _ 110) ?_ ?_ <;> intro _ <;> (try (exfalso; omega))) | (refine vs_cif (cneed_if _ 110) ?_ ?_ <;> intro _)) | refine vs_vc (hc := vc_of Tryz.func49 rfl Tryz.ntmps49 Tryz.results49 fun _ => ?_)) | refine nzo ?_ | refine nc ?_ ?_ | (with_reducible intro _ <;> (try (exfalso; omega))) | refine nnil ?_ | (refine nd ?_ ?_ <;> intro hg <;> first | exact xo hg | rw [hg]))
  exact nx_sub []
theorem targetR_no {px : D} {i : Idd} {k x y x2 y2 z : Int} {c : Col} {w h : Int} {tg : Idd} (b : List UInt8) (hb : rdId b = none) : VM1 Tryz.prog 106 2 [.ptr 0 0] [.c 0 0 (tkW (.ptr 1 0) nilP (.d px) i k x y x2 y2 z c w h tg), .c 1 0 (rdV b)] 2 (.panic (.d (errD 110))) [.c 0 0 (tkA (.ptr 1 0) nilP), .c 1 0 [.d .any, .d .any]] 2 := by
  have hl := rdId_no hb
  have hn := num1_lt (b.drop 8)
  by_cases h1 : 8 ≤ b.length
  · have c1 := rd8 b h1
    by_cases h2 : 9 ≤ b.length
    · have c2 := rd19 b h2
      have c3 := rd8n (b.drop 9) (by simp; omega)
      generalize numN (b.take 8) = n1 at *
      generalize numN ((b.drop 8).take 1) = n2 at *
      refine vm1_of Tryz.func106 rfl Tryz.ntmps106 Tryz.results106 fun B M => ?_
      repeat' (first | refine nz1 ?_ | (refine vid ?_; first | refine vs_vm [(1, none)] c1 ?_ | refine vs_vm [(1, none)] c2 ?_ | refine vs_vm [(1, none)] c3 ?_ | refine vs_vc (hc := vc_of Tryz.func38 rfl Tryz.ntmps38 Tryz.results38 fun _ => ?_) | refine vs_vc (hc := vc_of Tryz.func79 rfl Tryz.ntmps79 Tryz.results79 fun _ => ?_) | refine vs_eqpn ?_ | refine vs_nepnT ?_ | refine vs_nepnF ?_ | (refine vq_l (cneed_ok 110) ?_; first | refine vs_call (cneed_ok 110) ?_ | refine vs_pan (cneed_no 110) ?_ | (refine vs_cifp (cneed_if _ 110) ?_ ?_ <;> intro _ <;> (try (exfalso; omega))) | (refine vs_cif (cneed_if _ 110) ?_ ?_ <;> intro _)) | refine vs_vc (hc := vc_of Tryz.func49 rfl Tryz.ntmps49 Tryz.results49 fun _ => ?_)) | refine nzo ?_ | refine nc ?_ ?_ | (with_reducible intro _ <;> (try (exfalso; omega))) | refine nnil ?_ | (refine nd ?_ ?_ <;> intro hg <;> first | exact xo hg | rw [hg]))
      exact nx_subp []
    · have c2 := rd19n b h2
      generalize numN (b.take 8) = n1 at *
      refine vm1_of Tryz.func106 rfl Tryz.ntmps106 Tryz.results106 fun B M => ?_
      repeat' (first | refine nz1 ?_ | (refine vid ?_; first | refine vs_vm [(1, none)] c1 ?_ | refine vs_vm [(1, none)] c2 ?_ | refine vs_vc (hc := vc_of Tryz.func38 rfl Tryz.ntmps38 Tryz.results38 fun _ => ?_) | refine vs_vc (hc := vc_of Tryz.func79 rfl Tryz.ntmps79 Tryz.results79 fun _ => ?_) | refine vs_eqpn ?_ | refine vs_nepnT ?_ | refine vs_nepnF ?_ | (refine vq_l (cneed_ok 110) ?_; first | refine vs_call (cneed_ok 110) ?_ | refine vs_pan (cneed_no 110) ?_ | (refine vs_cifp (cneed_if _ 110) ?_ ?_ <;> intro _ <;> (try (exfalso; omega))) | (refine vs_cif (cneed_if _ 110) ?_ ?_ <;> intro _)) | refine vs_vc (hc := vc_of Tryz.func49 rfl Tryz.ntmps49 Tryz.results49 fun _ => ?_)) | refine nzo ?_ | refine nc ?_ ?_ | (with_reducible intro _ <;> (try (exfalso; omega))) | refine nnil ?_ | (refine nd ?_ ?_ <;> intro hg <;> first | exact xo hg | rw [hg]))
      exact nx_subp []
  · have c1 := rd8n b h1
    refine vm1_of Tryz.func106 rfl Tryz.ntmps106 Tryz.results106 fun B M => ?_
    repeat' (first | refine nz1 ?_ | (refine vid ?_; first | refine vs_vm [(1, none)] c1 ?_ | refine vs_vc (hc := vc_of Tryz.func38 rfl Tryz.ntmps38 Tryz.results38 fun _ => ?_) | refine vs_vc (hc := vc_of Tryz.func79 rfl Tryz.ntmps79 Tryz.results79 fun _ => ?_) | refine vs_eqpn ?_ | refine vs_nepnT ?_ | refine vs_nepnF ?_ | (refine vq_l (cneed_ok 110) ?_; first | refine vs_call (cneed_ok 110) ?_ | refine vs_pan (cneed_no 110) ?_ | (refine vs_cifp (cneed_if _ 110) ?_ ?_ <;> intro _ <;> (try (exfalso; omega))) | (refine vs_cif (cneed_if _ 110) ?_ ?_ <;> intro _)) | refine vs_vc (hc := vc_of Tryz.func49 rfl Tryz.ntmps49 Tryz.results49 fun _ => ?_)) | refine nzo ?_ | refine nc ?_ ?_ | (with_reducible intro _ <;> (try (exfalso; omega))) | refine nnil ?_ | (refine nd ?_ ?_ <;> intro hg <;> first | exact xo hg | rw [hg]))
    exact nx_subp []
end Go.Proofs.YtnjaohdadaifhaaGreat
