/- Walks by data and names, part 37: Layer 19, by V: stamps, read. Layer 19, by V: what is no stamp. Layer 19, by V: operations, read. -/
import Derived.Test.YtnjaohdadaifhaaGreatPk36
import Derived.Test.YtnjaohdadaifhaaGreatPk34
namespace Go.Proofs.YtnjaohdadaifhaaGreat
set_option maxRecDepth 20000
open Go.RowKit
set_option maxRecDepth 10000
set_option maxHeartbeats 4000000
abbrev zeroC : List D := [.lit (.int .u8 0), .lit (.int .u8 0), .lit (.int .u8 0), .lit (.int .u8 0)]
def pxL (pre : List Col) (n : Nat) : List (List D) := pre.map colD ++ List.replicate (n - pre.length) zeroC
theorem pxL_len {pre : List Col} {n : Nat} (h : pre.length ≤ n) : (pxL pre n).length = n := by simp [pxL]; omega
theorem pxL_get {pre : List Col} {n : Nat} (h : pre.length < n) : (pxL pre n)[pre.length]? = some zeroC := by
  rw [pxL, List.getElem?_append_right (by simp), List.length_map, Nat.sub_self, List.getElem?_replicate, if_pos (by omega)]
theorem pxL_set {pre : List Col} {n : Nat} (h : pre.length < n) (c : Col) : (pxL pre n).set pre.length (colD c) = pxL (pre ++ [c]) n := by
  rw [pxL, List.set_append_right _ _ (by simp), List.length_map, Nat.sub_self, show n - pre.length = (n - (pre ++ [c]).length) + 1 by simp; omega, List.replicate_succ, List.set_cons_zero, pxL]
  simp
theorem pxL_n (l : List Col) : pxL l l.length = l.map colD := by simp [pxL]
abbrev bD (x : UInt8) : List D := cellsD (.lit (.int .u8 (x.toNat : Int)))
theorem set_same {l : List (List D)} {n : Nat} (e : List D) (h : n < l.length) : (l.set n e)[n]? = some e := by rw [List.getElem?_set_self h]
abbrev stBad : List E := [.c 0 0 (tkA (.ptr 1 0) nilP), .c 1 0 [.d .any, .d .any]]
theorem stampR_m (px : D) (i : Idd) (k x y x2 y2 z : Int) (c : Col) (w0 h0 : Int) (tg : Idd) (u v : UInt8) (b : List UInt8) (hu : 1 ≤ u.toNat ∧ u.toNat ≤ 8) (hv : 1 ≤ v.toNat ∧ v.toNat ≤ 8) :
    VM Tryz.prog 107 2 [.ptr 0 0] [.c 0 0 (tkW (.ptr 1 0) nilP (.d px) i k x y x2 y2 z c w0 h0 tg), .c 1 0 (rdV (u :: v :: b))] 2
      fun r s n => (∀ l t, rdPx (u.toNat * v.toNat) b = some (l, t) → subK 2 (.ret (.tup [])) [.c 0 0 (tkW (.ptr 1 0) nilP (.d (.sl false true (l.map colD))) i k x y x2 y2 z c u.toNat v.toNat tg), .c 1 0 (rdV t)] 2 r s n) ∧
        (rdPx (u.toNat * v.toNat) b = none → subK 2 (.panic (.d (errD 110))) stBad 2 r s n) := by
  have c1 := rd1 u (v :: b)
  have c2 := rd1 v b
  have hm : 0 ≤ (u.toNat : Int) * v.toNat ∧ (u.toNat : Int) * v.toNat ≤ 64 := ⟨Int.mul_nonneg (by omega) (by omega), by
    have := Int.mul_le_mul (show (u.toNat : Int) ≤ 8 by omega) (show (v.toNat : Int) ≤ 8 by omega) (by omega) (by omega : (0 : Int) ≤ 8); omega⟩
  intro B
  refine vmb_of Tryz.func107 rfl Tryz.ntmps107 Tryz.results107 fun M => ?_
  repeat' (first | refine nz1 ?_ | refine nzo ?_ | refine nc ?_ ?_ | (with_reducible intro _ <;> (try (exfalso; omega))) | refine nnil ?_ | (refine nd ?_ ?_ <;> intro hg <;> first | exact xo hg | rw [hg]))
  refine vw_rounds 3 ?_
  repeat' (first | refine nz1 ?_ | (refine vid ?_; first | refine vs_vm [(1, none)] c1 ?_ | refine vs_vm [(1, none)] c2 ?_ | refine vs_vc (hc := vc_of Tryz.func38 rfl Tryz.ntmps38 Tryz.results38 fun _ => ?_) | refine vs_vc (hc := vc_of Tryz.func79 rfl Tryz.ntmps79 Tryz.results79 fun _ => ?_) | refine vs_eqpn ?_ | refine vs_nepnT ?_ | refine vs_nepnF ?_ | (refine vq_l (cneed_ok 110) ?_; first | refine vs_call (cneed_ok 110) ?_ | refine vs_pan (cneed_no 110) ?_ | (refine vs_cifp (cneed_if _ 110) ?_ ?_ <;> intro _ <;> (try (exfalso; omega))) | (refine vs_cif (cneed_if _ 110) ?_ ?_ <;> intro _)) | (refine vq_l (cneed_ok 290) ?_; first | refine vs_call (cneed_ok 290) ?_ | refine vs_pan (cneed_no 290) ?_ | (refine vs_cifp (cneed_if _ 290) ?_ ?_ <;> intro _ <;> (try (exfalso; omega))) | (refine vs_cif (cneed_if _ 290) ?_ ?_ <;> intro _))) | refine nzo ?_ | refine nc ?_ ?_ | (with_reducible intro _ <;> (try (exfalso; omega))) | refine nnil ?_ | (refine nd ?_ ?_ <;> intro hg <;> first | exact xo hg | rw [hg]))
  obtain ⟨N, hN⟩ : ∃ N, u.toNat * v.toNat = N := ⟨_, rfl⟩
  have hNI : ((u.toNat : Int) * v.toNat).toNat = N := by rw [← hN, ← Int.natCast_mul, Int.toNat_natCast]
  rw [hN, show List.replicate ((u.toNat : Int) * v.toNat).toNat (List.map D.lit [Value.int IntKind.u8 0, Value.int IntKind.u8 0, Value.int IntKind.u8 0, Value.int IntKind.u8 0]) = pxL [] N by rw [hNI]; rfl]
  have hN64 : N ≤ 64 := by omega
  have hl0 := pxL_len (pre := []) (n := N) (by simp)
  refine vw_loop (fun p : List Col × List UInt8 => ⟨[(74, I .i64 p.1.length), (73, I .i64 (pxL [] N).length), (2, .ptr 0 14), (0, .ptr 0 0)],
    [.c 0 0 (tkW (.ptr 1 0) nilP (.row 2 0) i k x y x2 y2 z c u.toNat v.toNat tg), .c 1 0 (rdV p.2), .r true true 2 0 37 4 (pxL p.1 N)], 3⟩)
    (fun p => p.1.length ≤ N ∧ rdPx N b = (rdPx (N - p.1.length) p.2).map fun z => (p.1 ++ z.1, z.2)) (fun p => N - p.1.length) ([], b) (sub_zr [(2, _, _)]) ⟨Nat.zero_le _, by simp⟩ fun p hp => ?_
  obtain ⟨pre, b'⟩ := p
  obtain ⟨hp1, hp2⟩ := hp
  simp only at hp1 hp2
  have hpl := pxL_len hp1
  dsimp only
  rcases Nat.lt_or_ge pre.length N with h | h
  · have hn : ((pre.length : Nat) : Int).toNat < (pxL pre N).length := by omega
    have hg : (pxL pre N)[((pre.length : Nat) : Int).toNat]? = some zeroC := pxL_get h
    rw [show N - pre.length = (N - pre.length - 1) + 1 by omega, rdPx] at hp2
    cases hc : rdCol b' with
    | none =>
      rw [hc] at hp2
      simp only [Option.map_none] at hp2
      match b', hc with
      | [], _ =>
        have dn := rd1n
        repeat' (first | refine nz1 ?_ | (refine vid ?_; first | refine vs_vc (hc := vc_of Tryz.func121 rfl Tryz.ntmps121 Tryz.results121 fun _ => ?_) | refine vs_eqpn ?_ | refine vs_nepnT ?_ | refine vs_nepnF ?_) | refine nzo ?_ | refine nc ?_ ?_ | (with_reducible intro _ <;> (try (exfalso; omega))) | refine nnil ?_ | (refine nd ?_ ?_ <;> intro hg <;> first | exact xo hg | rw [hg]))
        refine vw_rounds 5 ?_
        repeat' (first | refine nz1 ?_ | (refine vid ?_; first | refine vs_vm [(1, none)] dn ?_ | refine vs_vc (hc := vc_of Tryz.func38 rfl Tryz.ntmps38 Tryz.results38 fun _ => ?_) | refine vs_vc (hc := vc_of Tryz.func79 rfl Tryz.ntmps79 Tryz.results79 fun _ => ?_) | refine vs_eqpn ?_ | refine vs_nepnT ?_ | refine vs_nepnF ?_ | (refine vq_l (cneed_ok 110) ?_; first | refine vs_call (cneed_ok 110) ?_ | refine vs_pan (cneed_no 110) ?_ | (refine vs_cifp (cneed_if _ 110) ?_ ?_ <;> intro _ <;> (try (exfalso; omega))) | (refine vs_cif (cneed_if _ 110) ?_ ?_ <;> intro _))) | refine nzo ?_ | refine nc ?_ ?_ | (with_reducible intro _ <;> (try (exfalso; omega))) | refine nnil ?_ | (refine nd ?_ ?_ <;> intro hg <;> first | exact xo hg | rw [hg]))
        exact ⟨fun l t h => (by rw [hp2] at h; cases h), fun _ => nx_subp []⟩
      | [r], _ =>
        have h1 := r.toNat_lt
        have d1 := rd1 r []
        have dn := rd1n
        repeat' (first | refine nz1 ?_ | (refine vid ?_; first | refine vs_vc (hc := vc_of Tryz.func121 rfl Tryz.ntmps121 Tryz.results121 fun _ => ?_) | refine vs_eqpn ?_ | refine vs_nepnT ?_ | refine vs_nepnF ?_) | refine nzo ?_ | refine nc ?_ ?_ | (with_reducible intro _ <;> (try (exfalso; omega))) | refine nnil ?_ | (refine nd ?_ ?_ <;> intro hg <;> first | exact xo hg | rw [hg]))
        refine vw_rounds 5 ?_
        repeat' (first | refine nz1 ?_ | (refine vid ?_; first | refine vs_vm [(1, none)] d1 ?_ | refine vs_vm [(1, none)] dn ?_ | refine vs_vc (hc := vc_of Tryz.func38 rfl Tryz.ntmps38 Tryz.results38 fun _ => ?_) | refine vs_vc (hc := vc_of Tryz.func79 rfl Tryz.ntmps79 Tryz.results79 fun _ => ?_) | refine vs_eqpn ?_ | refine vs_nepnT ?_ | refine vs_nepnF ?_ | (refine vq_l (cneed_ok 110) ?_; first | refine vs_call (cneed_ok 110) ?_ | refine vs_pan (cneed_no 110) ?_ | (refine vs_cifp (cneed_if _ 110) ?_ ?_ <;> intro _ <;> (try (exfalso; omega))) | (refine vs_cif (cneed_if _ 110) ?_ ?_ <;> intro _))) | refine nzo ?_ | refine nc ?_ ?_ | (with_reducible intro _ <;> (try (exfalso; omega))) | refine nnil ?_ | (refine nd ?_ ?_ <;> intro hg <;> first | exact xo hg | rw [hg]))
        exact ⟨fun l t h => (by rw [hp2] at h; cases h), fun _ => nx_subp []⟩
      | [r, g], _ =>
        have h1 := r.toNat_lt
        have d1 := rd1 r [g]
        have h2 := g.toNat_lt
        have d2 := rd1 g []
        have g1 := set_same (setD zeroC 0 (bD r)) hn
        have dn := rd1n
        repeat' (first | refine nz1 ?_ | (refine vid ?_; first | refine vs_vc (hc := vc_of Tryz.func121 rfl Tryz.ntmps121 Tryz.results121 fun _ => ?_) | refine vs_eqpn ?_ | refine vs_nepnT ?_ | refine vs_nepnF ?_) | refine nzo ?_ | refine nc ?_ ?_ | (with_reducible intro _ <;> (try (exfalso; omega))) | refine nnil ?_ | (refine nd ?_ ?_ <;> intro hg <;> first | exact xo hg | rw [hg]))
        refine vw_rounds 5 ?_
        repeat' (first | refine nz1 ?_ | (refine vid ?_; first | refine vs_vm [(1, none)] d1 ?_ | refine vs_vm [(1, none)] d2 ?_ | refine vs_vm [(1, none)] dn ?_ | refine vs_vc (hc := vc_of Tryz.func38 rfl Tryz.ntmps38 Tryz.results38 fun _ => ?_) | refine vs_vc (hc := vc_of Tryz.func79 rfl Tryz.ntmps79 Tryz.results79 fun _ => ?_) | refine vs_eqpn ?_ | refine vs_nepnT ?_ | refine vs_nepnF ?_ | (refine vq_l (cneed_ok 110) ?_; first | refine vs_call (cneed_ok 110) ?_ | refine vs_pan (cneed_no 110) ?_ | (refine vs_cifp (cneed_if _ 110) ?_ ?_ <;> intro _ <;> (try (exfalso; omega))) | (refine vs_cif (cneed_if _ 110) ?_ ?_ <;> intro _))) | refine nzo ?_ | refine nc ?_ ?_ | (with_reducible intro _ <;> (try (exfalso; omega))) | refine nnil ?_ | (refine nd ?_ ?_ <;> intro hg <;> first | exact xo hg | rw [hg]))
        exact ⟨fun l t h => (by rw [hp2] at h; cases h), fun _ => nx_subp []⟩
      | [r, g, bl], _ =>
        have h1 := r.toNat_lt
        have d1 := rd1 r [g, bl]
        have h2 := g.toNat_lt
        have d2 := rd1 g [bl]
        have h3 := bl.toNat_lt
        have d3 := rd1 bl []
        have g1 := set_same (setD zeroC 0 (bD r)) hn
        have g2 := set_same (l := (pxL pre N).set ((pre.length : Nat) : Int).toNat (setD zeroC 0 (bD r))) (setD (setD zeroC 0 (bD r)) 1 (bD g)) (by rw [List.length_set]; exact hn)
        have dn := rd1n
        repeat' (first | refine nz1 ?_ | (refine vid ?_; first | refine vs_vc (hc := vc_of Tryz.func121 rfl Tryz.ntmps121 Tryz.results121 fun _ => ?_) | refine vs_eqpn ?_ | refine vs_nepnT ?_ | refine vs_nepnF ?_) | refine nzo ?_ | refine nc ?_ ?_ | (with_reducible intro _ <;> (try (exfalso; omega))) | refine nnil ?_ | (refine nd ?_ ?_ <;> intro hg <;> first | exact xo hg | rw [hg]))
        refine vw_rounds 5 ?_
        repeat' (first | refine nz1 ?_ | (refine vid ?_; first | refine vs_vm [(1, none)] d1 ?_ | refine vs_vm [(1, none)] d2 ?_ | refine vs_vm [(1, none)] d3 ?_ | refine vs_vm [(1, none)] dn ?_ | refine vs_vc (hc := vc_of Tryz.func38 rfl Tryz.ntmps38 Tryz.results38 fun _ => ?_) | refine vs_vc (hc := vc_of Tryz.func79 rfl Tryz.ntmps79 Tryz.results79 fun _ => ?_) | refine vs_eqpn ?_ | refine vs_nepnT ?_ | refine vs_nepnF ?_ | (refine vq_l (cneed_ok 110) ?_; first | refine vs_call (cneed_ok 110) ?_ | refine vs_pan (cneed_no 110) ?_ | (refine vs_cifp (cneed_if _ 110) ?_ ?_ <;> intro _ <;> (try (exfalso; omega))) | (refine vs_cif (cneed_if _ 110) ?_ ?_ <;> intro _))) | refine nzo ?_ | refine nc ?_ ?_ | (with_reducible intro _ <;> (try (exfalso; omega))) | refine nnil ?_ | (refine nd ?_ ?_ <;> intro hg <;> first | exact xo hg | rw [hg]))
        exact ⟨fun l t h => (by rw [hp2] at h; cases h), fun _ => nx_subp []⟩
    | some q =>
      obtain ⟨c', t'⟩ := q
      rw [hc] at hp2
      match b', hc with
      | r :: g :: bl :: a :: t, hc =>
        simp only [rdCol, Option.some.injEq, Prod.mk.injEq] at hc
        obtain ⟨rfl, rfl⟩ := hc
        have h1 := r.toNat_lt
        have h2 := g.toNat_lt
        have h3 := bl.toNat_lt
        have h4 := a.toNat_lt
        have d1 := rd1 r (g :: bl :: a :: t)
        have d2 := rd1 g (bl :: a :: t)
        have d3 := rd1 bl (a :: t)
        have d4 := rd1 a t
        have g1 := set_same (setD zeroC 0 (bD r)) hn
        have g2 := set_same (l := (pxL pre N).set ((pre.length : Nat) : Int).toNat (setD zeroC 0 (bD r))) (setD (setD zeroC 0 (bD r)) 1 (bD g)) (by rw [List.length_set]; exact hn)
        have g3 := set_same (l := ((pxL pre N).set ((pre.length : Nat) : Int).toNat (setD zeroC 0 (bD r))).set ((pre.length : Nat) : Int).toNat (setD (setD zeroC 0 (bD r)) 1 (bD g))) (setD (setD (setD zeroC 0 (bD r)) 1 (bD g)) 2 (bD bl)) (by rw [List.length_set, List.length_set]; exact hn)
        repeat' (first | refine nz1 ?_ | (refine vid ?_; first | refine vs_vc (hc := vc_of Tryz.func121 rfl Tryz.ntmps121 Tryz.results121 fun _ => ?_) | refine vs_eqpn ?_ | refine vs_nepnT ?_ | refine vs_nepnF ?_) | refine nzo ?_ | refine nc ?_ ?_ | (with_reducible intro _ <;> (try (exfalso; omega))) | refine nnil ?_ | (refine nd ?_ ?_ <;> intro hg <;> first | exact xo hg | rw [hg]))
        refine vw_rounds 5 ?_
        repeat' (first | refine nz1 ?_ | (refine vid ?_; first | refine vs_vm [(1, none)] d1 ?_ | refine vs_vm [(1, none)] d2 ?_ | refine vs_vm [(1, none)] d3 ?_ | refine vs_vm [(1, none)] d4 ?_ | refine vs_vc (hc := vc_of Tryz.func38 rfl Tryz.ntmps38 Tryz.results38 fun _ => ?_) | refine vs_vc (hc := vc_of Tryz.func79 rfl Tryz.ntmps79 Tryz.results79 fun _ => ?_) | refine vs_eqpn ?_ | refine vs_nepnT ?_ | refine vs_nepnF ?_ | (refine vq_l (cneed_ok 110) ?_; first | refine vs_call (cneed_ok 110) ?_ | refine vs_pan (cneed_no 110) ?_ | (refine vs_cifp (cneed_if _ 110) ?_ ?_ <;> intro _ <;> (try (exfalso; omega))) | (refine vs_cif (cneed_if _ 110) ?_ ?_ <;> intro _))) | refine nzo ?_ | refine nc ?_ ?_ | (with_reducible intro _ <;> (try (exfalso; omega))) | refine nnil ?_ | (refine nd ?_ ?_ <;> intro hg <;> first | exact xo hg | rw [hg]))
        have hfin : ((((pxL pre N).set ((pre.length : Nat) : Int).toNat (setD zeroC (0 + 0) (cellsD (.lit (.int .u8 (r.toNat : Int)))))).set ((pre.length : Nat) : Int).toNat (setD (setD zeroC 0 (bD r)) (0 + 1) (cellsD (.lit (.int .u8 (g.toNat : Int)))))).set ((pre.length : Nat) : Int).toNat (setD (setD (setD zeroC 0 (bD r)) 1 (bD g)) (0 + 2) (cellsD (.lit (.int .u8 (bl.toNat : Int)))))).set ((pre.length : Nat) : Int).toNat (setD (setD (setD (setD zeroC 0 (bD r)) 1 (bD g)) 2 (bD bl)) (0 + 3) (cellsD (.lit (.int .u8 (a.toNat : Int))))) = pxL (pre ++ [⟨r, g, bl, a⟩]) N := by
          rw [List.set_set, List.set_set, List.set_set]; exact pxL_set h ⟨r, g, bl, a⟩
        refine nx_loop (pre ++ [⟨r, g, bl, a⟩], t) ⟨by simp; omega, ?_⟩ (by simp; omega) ?_
        · rw [hp2]
          simp only [List.length_append, List.length_cons, List.length_nil, Option.map_map]
          rw [show N - pre.length - 1 = N - (pre.length + (0 + 1)) by omega]
          congr 1
          funext z
          simp
        · dsimp only
          rw [hfin, show (((pre ++ [(⟨r, g, bl, a⟩ : Col)]).length : Nat) : Int) = (pre.length : Int) + 1 by simp]
          exact (sub_zr [(2, _, _)])
  · have hN2 : N = pre.length := by omega
    rw [show N - pre.length = 0 by omega, rdPx] at hp2
    repeat' (first | refine nz1 ?_ | refine nzo ?_ | refine nc ?_ ?_ | (with_reducible intro _ <;> (try (exfalso; omega))) | refine nnil ?_ | (refine nd ?_ ?_ <;> intro hg <;> first | exact xo hg | rw [hg]))
    refine ⟨fun l t hh => ?_, fun hh => (by rw [hp2] at hh; cases hh)⟩
    rw [hp2] at hh
    simp only [Option.map_some, List.append_nil, Option.some.injEq, Prod.mk.injEq] at hh
    obtain ⟨rfl, rfl⟩ := hh
    rw [hN2, pxL_n]
    refine nx_frz 2 rfl ?_
    exact nx_subx []
theorem stampR_v {px : D} {i : Idd} {k x y x2 y2 z : Int} {c : Col} {w0 h0 : Int} {tg : Idd} (b t : List UInt8) (w h : Nat) (l : List Col) (hb : rdSt b = .ok ((w, h, l), t)) : VM1 Tryz.prog 107 2 [.ptr 0 0] [.c 0 0 (tkW (.ptr 1 0) nilP (.d px) i k x y x2 y2 z c w0 h0 tg), .c 1 0 (rdV b)] 2 (.ret (.tup [])) [.c 0 0 (tkW (.ptr 1 0) nilP (.d (.sl false true (l.map colD))) i k x y x2 y2 z c w h tg), .c 1 0 (rdV t)] 2 := by
  simp only [rdSt] at hb
  split at hb
  · cases hb
  · rename_i w' b1 e1
    split at hb
    · cases hb
    · rename_i h' b2 e2
      split at hb
      · cases hb
      · rename_i l' b3 e3
        simp only [Except.ok.injEq, Prod.mk.injEq] at hb
        obtain ⟨⟨rfl, rfl, rfl⟩, rfl⟩ := hb
        match b, e1 with
        | u :: b, e1 =>
          simp only [rdSide] at e1
          split at e1
          · rename_i hu
            simp only [Except.ok.injEq, Prod.mk.injEq] at e1
            obtain ⟨rfl, rfl⟩ := e1
            match b, e2 with
            | v :: b, e2 =>
              simp only [rdSide] at e2
              split at e2
              · rename_i hv
                simp only [Except.ok.injEq, Prod.mk.injEq] at e2
                obtain ⟨rfl, rfl⟩ := e2
                exact ((stampR_m px i k x y x2 y2 z c w0 h0 tg u v b hu hv).mono fun r s n h => h.1 _ _ e3).sub1
              · cases e2
          · cases e1
end Go.Proofs.YtnjaohdadaifhaaGreat

namespace Go.Proofs.YtnjaohdadaifhaaGreat
set_option maxRecDepth 20000
open Go.RowKit
set_option maxRecDepth 10000
set_option maxHeartbeats 4000000
theorem rdSt_no {b : List UInt8} {e : Int} (hb : rdSt b = .error e) : (b = [] ∧ e = 110) ∨ (∃ u t, b = u :: t ∧ ¬ (1 ≤ u.toNat ∧ u.toNat ≤ 8) ∧ e = 290) ∨ (∃ u, b = [u] ∧ (1 ≤ u.toNat ∧ u.toNat ≤ 8) ∧ e = 110) ∨
    (∃ u v t, b = u :: v :: t ∧ (1 ≤ u.toNat ∧ u.toNat ≤ 8) ∧ ¬ (1 ≤ v.toNat ∧ v.toNat ≤ 8) ∧ e = 290) ∨ ∃ u v t, b = u :: v :: t ∧ (1 ≤ u.toNat ∧ u.toNat ≤ 8) ∧ (1 ≤ v.toNat ∧ v.toNat ≤ 8) ∧ rdPx (u.toNat * v.toNat) t = none ∧ e = 110 := by
  match b, hb with
  | [], hb => left; simp [rdSt, rdSide] at hb; exact ⟨rfl, hb.symm⟩
  | u :: t, hb =>
    by_cases hu : 1 ≤ u.toNat ∧ u.toNat ≤ 8
    · match t, hb with
      | [], hb => right; right; left; simp [rdSt, rdSide, hu] at hb; exact ⟨u, rfl, hu, hb.symm⟩
      | v :: t, hb =>
        by_cases hv : 1 ≤ v.toNat ∧ v.toNat ≤ 8
        · right; right; right; right
          refine ⟨u, v, t, rfl, hu, hv, ?_⟩
          simp only [rdSt, rdSide] at hb
          rw [if_pos hu] at hb
          simp only at hb
          rw [if_pos hv] at hb
          simp only at hb
          split at hb
          · rename_i hn; cases hb; exact ⟨hn, rfl⟩
          · cases hb
        · right; right; right; left
          refine ⟨u, v, t, rfl, hu, hv, ?_⟩
          simp only [rdSt, rdSide] at hb
          rw [if_pos hu] at hb
          simp only at hb
          rw [if_neg hv] at hb
          cases hb; rfl
    · right; left
      refine ⟨u, t, rfl, hu, ?_⟩
      simp only [rdSt, rdSide] at hb
      rw [if_neg hu] at hb
      cases hb; rfl
theorem stampR_no {px : D} {i : Idd} {k x y x2 y2 z : Int} {c : Col} {w0 h0 : Int} {tg : Idd} (b : List UInt8) (e : Int) (hb : rdSt b = .error e) : VM1 Tryz.prog 107 2 [.ptr 0 0] [.c 0 0 (tkW (.ptr 1 0) nilP (.d px) i k x y x2 y2 z c w0 h0 tg), .c 1 0 (rdV b)] 2 (.panic (.d (errD e))) stBad 2 := by
  rcases rdSt_no hb with ⟨rfl, rfl⟩ | ⟨u, t, rfl, hu, rfl⟩ | ⟨u, rfl, hu, rfl⟩ | ⟨u, v, t, rfl, hu, hv, rfl⟩ | ⟨u, v, t, rfl, hu, hv, hn, rfl⟩
  · have c1 := rd1n
    refine vm1_of Tryz.func107 rfl Tryz.ntmps107 Tryz.results107 fun B M => ?_
    repeat' (first | refine nz1 ?_ | refine nzo ?_ | refine nc ?_ ?_ | (with_reducible intro _ <;> (try (exfalso; omega))) | refine nnil ?_ | (refine nd ?_ ?_ <;> intro hg <;> first | exact xo hg | rw [hg]))
    refine vw_rounds 3 ?_
    repeat' (first | refine nz1 ?_ | (refine vid ?_; first | refine vs_vm [(1, none)] c1 ?_ | refine vs_vc (hc := vc_of Tryz.func38 rfl Tryz.ntmps38 Tryz.results38 fun _ => ?_) | refine vs_vc (hc := vc_of Tryz.func79 rfl Tryz.ntmps79 Tryz.results79 fun _ => ?_) | refine vs_eqpn ?_ | refine vs_nepnT ?_ | refine vs_nepnF ?_ | (refine vq_l (cneed_ok 110) ?_; first | refine vs_call (cneed_ok 110) ?_ | refine vs_pan (cneed_no 110) ?_ | (refine vs_cifp (cneed_if _ 110) ?_ ?_ <;> intro _ <;> (try (exfalso; omega))) | (refine vs_cif (cneed_if _ 110) ?_ ?_ <;> intro _)) | (refine vq_l (cneed_ok 290) ?_; first | refine vs_call (cneed_ok 290) ?_ | refine vs_pan (cneed_no 290) ?_ | (refine vs_cifp (cneed_if _ 290) ?_ ?_ <;> intro _ <;> (try (exfalso; omega))) | (refine vs_cif (cneed_if _ 290) ?_ ?_ <;> intro _))) | refine nzo ?_ | refine nc ?_ ?_ | (with_reducible intro _ <;> (try (exfalso; omega))) | refine nnil ?_ | (refine nd ?_ ?_ <;> intro hg <;> first | exact xo hg | rw [hg]))
    all_goals exact nx_subp []
  · have c1 := rd1 u t
    have hu8 := u.toNat_lt
    refine vm1_of Tryz.func107 rfl Tryz.ntmps107 Tryz.results107 fun B M => ?_
    repeat' (first | refine nz1 ?_ | refine nzo ?_ | refine nc ?_ ?_ | (with_reducible intro _ <;> (try (exfalso; omega))) | refine nnil ?_ | (refine nd ?_ ?_ <;> intro hg <;> first | exact xo hg | rw [hg]))
    refine vw_rounds 3 ?_
    repeat' (first | refine nz1 ?_ | (refine vid ?_; first | refine vs_vm [(1, none)] c1 ?_ | refine vs_vc (hc := vc_of Tryz.func38 rfl Tryz.ntmps38 Tryz.results38 fun _ => ?_) | refine vs_vc (hc := vc_of Tryz.func79 rfl Tryz.ntmps79 Tryz.results79 fun _ => ?_) | refine vs_eqpn ?_ | refine vs_nepnT ?_ | refine vs_nepnF ?_ | (refine vq_l (cneed_ok 110) ?_; first | refine vs_call (cneed_ok 110) ?_ | refine vs_pan (cneed_no 110) ?_ | (refine vs_cifp (cneed_if _ 110) ?_ ?_ <;> intro _ <;> (try (exfalso; omega))) | (refine vs_cif (cneed_if _ 110) ?_ ?_ <;> intro _)) | (refine vq_l (cneed_ok 290) ?_; first | refine vs_call (cneed_ok 290) ?_ | refine vs_pan (cneed_no 290) ?_ | (refine vs_cifp (cneed_if _ 290) ?_ ?_ <;> intro _ <;> (try (exfalso; omega))) | (refine vs_cif (cneed_if _ 290) ?_ ?_ <;> intro _))) | refine nzo ?_ | refine nc ?_ ?_ | (with_reducible intro _ <;> (try (exfalso; omega))) | refine nnil ?_ | (refine nd ?_ ?_ <;> intro hg <;> first | exact xo hg | rw [hg]))
    all_goals exact nx_subp []
  · have c1 := rd1 u []
    have c2 := rd1n
    refine vm1_of Tryz.func107 rfl Tryz.ntmps107 Tryz.results107 fun B M => ?_
    repeat' (first | refine nz1 ?_ | refine nzo ?_ | refine nc ?_ ?_ | (with_reducible intro _ <;> (try (exfalso; omega))) | refine nnil ?_ | (refine nd ?_ ?_ <;> intro hg <;> first | exact xo hg | rw [hg]))
    refine vw_rounds 3 ?_
    repeat' (first | refine nz1 ?_ | (refine vid ?_; first | refine vs_vm [(1, none)] c1 ?_ | refine vs_vm [(1, none)] c2 ?_ | refine vs_vc (hc := vc_of Tryz.func38 rfl Tryz.ntmps38 Tryz.results38 fun _ => ?_) | refine vs_vc (hc := vc_of Tryz.func79 rfl Tryz.ntmps79 Tryz.results79 fun _ => ?_) | refine vs_eqpn ?_ | refine vs_nepnT ?_ | refine vs_nepnF ?_ | (refine vq_l (cneed_ok 110) ?_; first | refine vs_call (cneed_ok 110) ?_ | refine vs_pan (cneed_no 110) ?_ | (refine vs_cifp (cneed_if _ 110) ?_ ?_ <;> intro _ <;> (try (exfalso; omega))) | (refine vs_cif (cneed_if _ 110) ?_ ?_ <;> intro _)) | (refine vq_l (cneed_ok 290) ?_; first | refine vs_call (cneed_ok 290) ?_ | refine vs_pan (cneed_no 290) ?_ | (refine vs_cifp (cneed_if _ 290) ?_ ?_ <;> intro _ <;> (try (exfalso; omega))) | (refine vs_cif (cneed_if _ 290) ?_ ?_ <;> intro _))) | refine nzo ?_ | refine nc ?_ ?_ | (with_reducible intro _ <;> (try (exfalso; omega))) | refine nnil ?_ | (refine nd ?_ ?_ <;> intro hg <;> first | exact xo hg | rw [hg]))
    all_goals exact nx_subp []
  · have c1 := rd1 u (v :: t)
    have c2 := rd1 v t
    have hv8 := v.toNat_lt
    refine vm1_of Tryz.func107 rfl Tryz.ntmps107 Tryz.results107 fun B M => ?_
    repeat' (first | refine nz1 ?_ | refine nzo ?_ | refine nc ?_ ?_ | (with_reducible intro _ <;> (try (exfalso; omega))) | refine nnil ?_ | (refine nd ?_ ?_ <;> intro hg <;> first | exact xo hg | rw [hg]))
    refine vw_rounds 3 ?_
    repeat' (first | refine nz1 ?_ | (refine vid ?_; first | refine vs_vm [(1, none)] c1 ?_ | refine vs_vm [(1, none)] c2 ?_ | refine vs_vc (hc := vc_of Tryz.func38 rfl Tryz.ntmps38 Tryz.results38 fun _ => ?_) | refine vs_vc (hc := vc_of Tryz.func79 rfl Tryz.ntmps79 Tryz.results79 fun _ => ?_) | refine vs_eqpn ?_ | refine vs_nepnT ?_ | refine vs_nepnF ?_ | (refine vq_l (cneed_ok 110) ?_; first | refine vs_call (cneed_ok 110) ?_ | refine vs_pan (cneed_no 110) ?_ | (refine vs_cifp (cneed_if _ 110) ?_ ?_ <;> intro _ <;> (try (exfalso; omega))) | (refine vs_cif (cneed_if _ 110) ?_ ?_ <;> intro _)) | (refine vq_l (cneed_ok 290) ?_; first | refine vs_call (cneed_ok 290) ?_ | refine vs_pan (cneed_no 290) ?_ | (refine vs_cifp (cneed_if _ 290) ?_ ?_ <;> intro _ <;> (try (exfalso; omega))) | (refine vs_cif (cneed_if _ 290) ?_ ?_ <;> intro _))) | refine nzo ?_ | refine nc ?_ ?_ | (with_reducible intro _ <;> (try (exfalso; omega))) | refine nnil ?_ | (refine nd ?_ ?_ <;> intro hg <;> first | exact xo hg | rw [hg]))
    all_goals exact nx_subp []
  · exact ((stampR_m px i k x y x2 y2 z c w0 h0 tg u v t hu hv).mono fun r s n h => h.2 hn).sub1
end Go.Proofs.YtnjaohdadaifhaaGreat

namespace Go.Proofs.YtnjaohdadaifhaaGreat
set_option maxRecDepth 20000
open Go.RowKit
set_option maxRecDepth 10000
set_option maxHeartbeats 4000000
abbrev nilD : D := .lit (.slice none 0 0)
def rdK (b : List UInt8) (r : RC) (s : List E) (n : Nat) : Prop :=
  (∀ o t, rdOp b = .ok (o, t) → subK 2 (.ret (.d (.agg (oM o)))) [.c 0 0 (tkA (.ptr 1 0) nilP), .c 1 0 (rdV t)] 2 r s n) ∧ ∀ e, rdOp b = .error e → subK 2 (.panic (.d (errD e))) stBad 2 r s n
theorem rdK_no {b : List UInt8} {e : Int} {r : RC} {s : List E} {n : Nat} (h : rdOp b = .error e) (k : subK 2 (.panic (.d (errD e))) stBad 2 r s n) : rdK b r s n :=
  ⟨fun o t h' => (by rw [h] at h'; cases h'), fun e' h' => by rw [h] at h'; cases h'; exact k⟩
theorem rdK_ok {b t : List UInt8} {o : Opp} {r : RC} {s : List E} {n : Nat} (h : rdOp b = .ok (o, t)) (k : subK 2 (.ret (.d (.agg (oM o)))) [.c 0 0 (tkA (.ptr 1 0) nilP), .c 1 0 (rdV t)] 2 r s n) : rdK b r s n :=
  ⟨fun o' t' h' => by rw [h] at h'; cases h'; exact k, fun e' h' => (by rw [h] at h'; cases h')⟩
theorem rdOp_k {k : UInt8} {b b2 : List UInt8} {i : Idd} (hk : 1 ≤ k.toNat ∧ k.toNat ≤ 8) (hi : rdId b = some (i, b2)) : rdOp (k :: b) = match rdTail { Opp.zero with id := i, k := (k.toNat : Int) } b2 with
    | .error e => .error e
    | .ok (o, b) => if opB o then .ok (o, b) else .error 290 := by simp only [rdOp]; rw [if_pos hk, hi]; rfl
theorem opT_1 (b : List UInt8) (hb : b = [] ∨ (∃ k t, b = k :: t ∧ ¬ (1 ≤ k.toNat ∧ k.toNat ≤ 8)) ∨ ∃ k t, b = k :: t ∧ (1 ≤ k.toNat ∧ k.toNat ≤ 8) ∧ rdId t = none) : VM Tryz.prog 46 2 [.ptr 0 0] [.c 0 0 (tkA (.ptr 1 0) nilP), .c 1 0 (rdV b)] 2 (rdK b) := by
  rcases hb with rfl | ⟨k, t, rfl, hk⟩ | ⟨k, t, rfl, hk, hi⟩
  · have c1 := rd1n
    intro B
    refine vmb_of Tryz.func46 rfl Tryz.ntmps46 Tryz.results46 fun M => ?_
    repeat' (first | refine nz1 ?_ | (refine vid ?_; first | refine vs_vm [(1, none)] c1 ?_ | refine vs_vc (hc := vc_of Tryz.func38 rfl Tryz.ntmps38 Tryz.results38 fun _ => ?_) | refine vs_vc (hc := vc_of Tryz.func79 rfl Tryz.ntmps79 Tryz.results79 fun _ => ?_) | refine vs_eqpn ?_ | refine vs_nepnT ?_ | refine vs_nepnF ?_ | (refine vq_l (cneed_ok 110) ?_; first | refine vs_call (cneed_ok 110) ?_ | refine vs_pan (cneed_no 110) ?_ | (refine vs_cifp (cneed_if _ 110) ?_ ?_ <;> intro _ <;> (try (exfalso; omega))) | (refine vs_cif (cneed_if _ 110) ?_ ?_ <;> intro _)) | (refine vq_l (cneed_ok 290) ?_; first | refine vs_call (cneed_ok 290) ?_ | refine vs_pan (cneed_no 290) ?_ | (refine vs_cifp (cneed_if _ 290) ?_ ?_ <;> intro _ <;> (try (exfalso; omega))) | (refine vs_cif (cneed_if _ 290) ?_ ?_ <;> intro _))) | refine nzo ?_ | refine nc ?_ ?_ | (with_reducible intro _ <;> (try (exfalso; omega))) | refine nnil ?_ | (refine nd ?_ ?_ <;> intro hg <;> first | exact xo hg | rw [hg]))
    all_goals exact rdK_no rfl (nx_subp [])
  · have c1 := rd1 k t
    have hk8 := k.toNat_lt
    intro B
    refine vmb_of Tryz.func46 rfl Tryz.ntmps46 Tryz.results46 fun M => ?_
    repeat' (first | refine nz1 ?_ | (refine vid ?_; first | refine vs_vm [(1, none)] c1 ?_ | refine vs_vc (hc := vc_of Tryz.func38 rfl Tryz.ntmps38 Tryz.results38 fun _ => ?_) | refine vs_vc (hc := vc_of Tryz.func79 rfl Tryz.ntmps79 Tryz.results79 fun _ => ?_) | refine vs_eqpn ?_ | refine vs_nepnT ?_ | refine vs_nepnF ?_ | (refine vq_l (cneed_ok 110) ?_; first | refine vs_call (cneed_ok 110) ?_ | refine vs_pan (cneed_no 110) ?_ | (refine vs_cifp (cneed_if _ 110) ?_ ?_ <;> intro _ <;> (try (exfalso; omega))) | (refine vs_cif (cneed_if _ 110) ?_ ?_ <;> intro _)) | (refine vq_l (cneed_ok 290) ?_; first | refine vs_call (cneed_ok 290) ?_ | refine vs_pan (cneed_no 290) ?_ | (refine vs_cifp (cneed_if _ 290) ?_ ?_ <;> intro _ <;> (try (exfalso; omega))) | (refine vs_cif (cneed_if _ 290) ?_ ?_ <;> intro _))) | refine nzo ?_ | refine nc ?_ ?_ | (with_reducible intro _ <;> (try (exfalso; omega))) | refine nnil ?_ | (refine nd ?_ ?_ <;> intro hg <;> first | exact xo hg | rw [hg]))
    all_goals exact rdK_no (show rdOp (k :: t) = .error 290 by simp only [rdOp]; rw [if_neg hk]) (nx_subp [])
  · have c1 := rd1 k t
    have hk8 := k.toNat_lt
    have ci := idR2_no (px := nilD) (i := Idd.zero) (k := (k.toNat : Int)) (x := 0) (y := 0) (x2 := 0) (y2 := 0) (z := 0) (c := Col.zero) (w := 0) (h := 0) (tg := Idd.zero) t hi
    intro B
    refine vmb_of Tryz.func46 rfl Tryz.ntmps46 Tryz.results46 fun M => ?_
    repeat' (first | refine nz1 ?_ | (refine vid ?_; first | refine vs_vm [(1, none)] c1 ?_ | refine vs_vm [(0, none), (1, none)] ci ?_ | refine vs_vc (hc := vc_of Tryz.func38 rfl Tryz.ntmps38 Tryz.results38 fun _ => ?_) | refine vs_vc (hc := vc_of Tryz.func79 rfl Tryz.ntmps79 Tryz.results79 fun _ => ?_) | refine vs_eqpn ?_ | refine vs_nepnT ?_ | refine vs_nepnF ?_ | (refine vq_l (cneed_ok 110) ?_; first | refine vs_call (cneed_ok 110) ?_ | refine vs_pan (cneed_no 110) ?_ | (refine vs_cifp (cneed_if _ 110) ?_ ?_ <;> intro _ <;> (try (exfalso; omega))) | (refine vs_cif (cneed_if _ 110) ?_ ?_ <;> intro _)) | (refine vq_l (cneed_ok 290) ?_; first | refine vs_call (cneed_ok 290) ?_ | refine vs_pan (cneed_no 290) ?_ | (refine vs_cifp (cneed_if _ 290) ?_ ?_ <;> intro _ <;> (try (exfalso; omega))) | (refine vs_cif (cneed_if _ 290) ?_ ?_ <;> intro _))) | refine nzo ?_ | refine nc ?_ ?_ | (with_reducible intro _ <;> (try (exfalso; omega))) | refine nnil ?_ | (refine nd ?_ ?_ <;> intro hg <;> first | exact xo hg | rw [hg]))
    all_goals exact rdK_no (show rdOp (k :: t) = .error 110 by simp only [rdOp]; rw [if_pos hk, hi]) (nx_subp [])
theorem rdPx_len {n : Nat} {b t : List UInt8} {l : List Col} (h : rdPx n b = some (l, t)) : l.length = n := (by_px n h).2
theorem rdSt_len {b t : List UInt8} {w h : Nat} {l : List Col} (he : rdSt b = .ok ((w, h, l), t)) : l.length ≤ 64 := by
  simp only [rdSt] at he
  split at he
  · cases he
  · rename_i w' b1 h1
    split at he
    · cases he
    · rename_i h' b2 h2
      split at he
      · cases he
      · rename_i l' b3 h3
        simp only [Except.ok.injEq, Prod.mk.injEq] at he
        obtain ⟨⟨rfl, rfl, rfl⟩, rfl⟩ := he
        rw [rdPx_len h3]
        exact Nat.mul_le_mul (by_side h1).2.2 (by_side h2).2.2
end Go.Proofs.YtnjaohdadaifhaaGreat
