/- Walks by data and names, part 42: Layer 19, by V: stamps, read. Layer 19, by V: what is no stamp. Layer 19, by V: operations, read. -/
import Derived.Test.YtbgcjnfhadhjeaaGreatPk41
import Derived.Test.YtbgcjnfhadhjeaaGreatPk33
namespace Go.Proofs.YtbgcjnfhadhjeaaGreat
set_option maxRecDepth 20000
open Go.RowKit
set_option maxRecDepth 10000
set_option maxHeartbeats 4000000
abbrev Es : List D := [.lit (.int .u8 0), .lit (.int .u8 0), .lit (.int .u8 0), .lit (.int .u8 0)]
def MS (pre : List BL) (n : Nat) : List (List D) := pre.map CI ++ List.replicate (n - pre.length) Es
theorem Rz {pre : List BL} {n : Nat} (h : pre.length ≤ n) : (MS pre n).length = n := by simp [MS]; omega
theorem Xs {pre : List BL} {n : Nat} (h : pre.length < n) : (MS pre n)[pre.length]? = some Es := by
 rw [MS, List.getElem?_append_right (by simp), List.length_map, Nat.sub_self, List.getElem?_replicate, if_pos (by omega)]
theorem Xr {pre : List BL} {n : Nat} (h : pre.length < n) (c : BL) : (MS pre n).set pre.length (CI c) = MS (pre ++ [c]) n := by
 rw [MS, List.set_append_right _ _ (by simp), List.length_map, Nat.sub_self, show n - pre.length = (n - (pre ++ [c]).length) + 1 by simp; omega, List.replicate_succ, List.set_cons_zero, MS]
 simp
theorem Aby (l : List BL) : MS l l.length = l.map CI := by simp [MS]
abbrev bD (x : UInt8) : List D := AT (.lit (.int .u8 (x.toNat : Int)))
theorem FX {l : List (List D)} {n : Nat} (e : List D) (h : n < l.length) : (l.set n e)[n]? = some e := by rw [List.getElem?_set_self h]
abbrev OG : List E := [.c 0 0 (MF (.ptr 1 0) BW), .c 1 0 [.d .any, .d .any]]
theorem OF (px : D) (i : Bk) (k x y x2 y2 z : Int) (c : BL) (w0 h0 : Int) (tg : Bk) (u v : UInt8) (b : List UInt8) (hu : 1 ≤ u.toNat ∧ u.toNat ≤ 8) (hv : 1 ≤ v.toNat ∧ v.toNat ≤ 8) :
  VM Tryz.prog 253 2 [.ptr 0 0] [.c 0 0 (Ks (.ptr 1 0) BW (.d px) i k x y x2 y2 z c w0 h0 tg), .c 1 0 (EX (u :: v :: b))] 2
   fun r s n => (∀ l t, HX (u.toNat * v.toNat) b = some (l, t) → Gn 2 (.ret (.tup [])) [.c 0 0 (Ks (.ptr 1 0) BW (.d (.sl false true (l.map CI))) i k x y x2 y2 z c u.toNat v.toNat tg), .c 1 0 (EX t)] 2 r s n) ∧
    (HX (u.toNat * v.toNat) b = none → Gn 2 (.panic (.d (GB 110))) OG 2 r s n) := by
 have c1 := FY u (v :: b)
 have c2 := FY v b
 have hm : 0 ≤ (u.toNat : Int) * v.toNat ∧ (u.toNat : Int) * v.toNat ≤ 64 := ⟨Int.mul_nonneg (by omega) (by omega), by
  have := Int.mul_le_mul (show (u.toNat : Int) ≤ 8 by omega) (show (v.toNat : Int) ≤ 8 by omega) (by omega) (by omega : (0 : Int) ≤ 8); omega⟩
 intro B
 refine Cm fun M => ?_
 repeat' (first | refine Al ?_ | refine Ak ?_ | refine nc ?_ ?_ | (with_reducible intro _ <;> (try (exfalso; omega))) | refine Ad ?_ | (refine nd ?_ ?_ <;> intro hg <;> first | exact xo hg | rw [hg]))
 refine AF 3 ?_
 repeat' (first | refine Al ?_ | (refine Ay ?_; first | refine Aj [(1, none)] c1 ?_ | refine Aj [(1, none)] c2 ?_ | refine Ae 185 fun _ => ?_ | refine Ae 220 fun _ => ?_ | refine Aq ?_ | refine Aw ?_ | refine Ax ?_ | (refine AK (Aa 110) ?_; first | refine Ag (Aa 110) ?_ | refine An (Ai 110) ?_ | (refine Ah (Ab _ 110) ?_ ?_ <;> intro _ <;> (try (exfalso; omega))) | (refine Ao (Ab _ 110) ?_ ?_ <;> intro _)) | (refine AK (Aa 290) ?_; first | refine Ag (Aa 290) ?_ | refine An (Ai 290) ?_ | (refine Ah (Ab _ 290) ?_ ?_ <;> intro _ <;> (try (exfalso; omega))) | (refine Ao (Ab _ 290) ?_ ?_ <;> intro _))) | refine Ak ?_ | refine nc ?_ ?_ | (with_reducible intro _ <;> (try (exfalso; omega))) | refine Ad ?_ | (refine nd ?_ ?_ <;> intro hg <;> first | exact xo hg | rw [hg]))
 obtain ⟨N, hN⟩ : ∃ N, u.toNat * v.toNat = N := ⟨_, rfl⟩
 have hNI : ((u.toNat : Int) * v.toNat).toNat = N := by rw [← hN, ← Int.natCast_mul, Int.toNat_natCast]
 rw [hN, show List.replicate ((u.toNat : Int) * v.toNat).toNat (List.map D.lit [Value.int IntKind.u8 0, Value.int IntKind.u8 0, Value.int IntKind.u8 0, Value.int IntKind.u8 0]) = MS [] N by rw [hNI]; rfl]
 have hN64 : N ≤ 64 := by omega
 have hl0 := Rz (pre := []) (n := N) (by simp)
 refine BT (fun p : List BL × List UInt8 => ⟨[(74, I .i64 p.1.length), (73, I .i64 (MS [] N).length), (2, .ptr 0 14), (0, .ptr 0 0)],
  [.c 0 0 (Ks (.ptr 1 0) BW (.row 2 0) i k x y x2 y2 z c u.toNat v.toNat tg), .c 1 0 (EX p.2), .r true true 2 0 66 4 (MS p.1 N)], 3⟩)
  (fun p => p.1.length ≤ N ∧ HX N b = (HX (N - p.1.length) p.2).map fun z => (p.1 ++ z.1, z.2)) (fun p => N - p.1.length) ([], b) (CO [(2, _, _)]) ⟨Nat.zero_le _, by simp⟩ fun p hp => ?_
 obtain ⟨pre, b'⟩ := p
 obtain ⟨hp1, hp2⟩ := hp
 simp only at hp1 hp2
 have hpl := Rz hp1
 dsimp only
 rcases Nat.lt_or_ge pre.length N with h | h
 ·have hn : ((pre.length : Nat) : Int).toNat < (MS pre N).length := by omega
  have hg : (MS pre N)[((pre.length : Nat) : Int).toNat]? = some Es := Xs h
  rw [show N - pre.length = (N - pre.length - 1) + 1 by omega, HX] at hp2
  cases hc : Ew b' with
  | none =>
   rw [hc] at hp2
   simp only [Option.map_none] at hp2
   match b', hc with
   | [], _ =>
    have dn := HY
    repeat' (first | refine Al ?_ | (refine Ay ?_; first | refine Ae 272 fun _ => ?_ | refine Aq ?_ | refine Aw ?_ | refine Ax ?_) | refine Ak ?_ | refine nc ?_ ?_ | (with_reducible intro _ <;> (try (exfalso; omega))) | refine Ad ?_ | (refine nd ?_ ?_ <;> intro hg <;> first | exact xo hg | rw [hg]))
    refine AF 5 ?_
    repeat' (first | refine Al ?_ | (refine Ay ?_; first | refine Aj [(1, none)] dn ?_ | refine Ae 185 fun _ => ?_ | refine Ae 220 fun _ => ?_ | refine Aq ?_ | refine Aw ?_ | refine Ax ?_ | (refine AK (Aa 110) ?_; first | refine Ag (Aa 110) ?_ | refine An (Ai 110) ?_ | (refine Ah (Ab _ 110) ?_ ?_ <;> intro _ <;> (try (exfalso; omega))) | (refine Ao (Ab _ 110) ?_ ?_ <;> intro _))) | refine Ak ?_ | refine nc ?_ ?_ | (with_reducible intro _ <;> (try (exfalso; omega))) | refine Ad ?_ | (refine nd ?_ ?_ <;> intro hg <;> first | exact xo hg | rw [hg]))
    exact ⟨fun l t h => (by rw [hp2] at h; cases h), fun _ => Az []⟩
   | [r], _ =>
    have h1 := r.toNat_lt
    have d1 := FY r []
    have dn := HY
    repeat' (first | refine Al ?_ | (refine Ay ?_; first | refine Ae 272 fun _ => ?_ | refine Aq ?_ | refine Aw ?_ | refine Ax ?_) | refine Ak ?_ | refine nc ?_ ?_ | (with_reducible intro _ <;> (try (exfalso; omega))) | refine Ad ?_ | (refine nd ?_ ?_ <;> intro hg <;> first | exact xo hg | rw [hg]))
    refine AF 5 ?_
    repeat' (first | refine Al ?_ | (refine Ay ?_; first | refine Aj [(1, none)] d1 ?_ | refine Aj [(1, none)] dn ?_ | refine Ae 185 fun _ => ?_ | refine Ae 220 fun _ => ?_ | refine Aq ?_ | refine Aw ?_ | refine Ax ?_ | (refine AK (Aa 110) ?_; first | refine Ag (Aa 110) ?_ | refine An (Ai 110) ?_ | (refine Ah (Ab _ 110) ?_ ?_ <;> intro _ <;> (try (exfalso; omega))) | (refine Ao (Ab _ 110) ?_ ?_ <;> intro _))) | refine Ak ?_ | refine nc ?_ ?_ | (with_reducible intro _ <;> (try (exfalso; omega))) | refine Ad ?_ | (refine nd ?_ ?_ <;> intro hg <;> first | exact xo hg | rw [hg]))
    exact ⟨fun l t h => (by rw [hp2] at h; cases h), fun _ => Az []⟩
   | [r, g], _ =>
    have h1 := r.toNat_lt
    have d1 := FY r [g]
    have h2 := g.toNat_lt
    have d2 := FY g []
    have g1 := FX (DD Es 0 (bD r)) hn
    have dn := HY
    repeat' (first | refine Al ?_ | (refine Ay ?_; first | refine Ae 272 fun _ => ?_ | refine Aq ?_ | refine Aw ?_ | refine Ax ?_) | refine Ak ?_ | refine nc ?_ ?_ | (with_reducible intro _ <;> (try (exfalso; omega))) | refine Ad ?_ | (refine nd ?_ ?_ <;> intro hg <;> first | exact xo hg | rw [hg]))
    refine AF 5 ?_
    repeat' (first | refine Al ?_ | (refine Ay ?_; first | refine Aj [(1, none)] d1 ?_ | refine Aj [(1, none)] d2 ?_ | refine Aj [(1, none)] dn ?_ | refine Ae 185 fun _ => ?_ | refine Ae 220 fun _ => ?_ | refine Aq ?_ | refine Aw ?_ | refine Ax ?_ | (refine AK (Aa 110) ?_; first | refine Ag (Aa 110) ?_ | refine An (Ai 110) ?_ | (refine Ah (Ab _ 110) ?_ ?_ <;> intro _ <;> (try (exfalso; omega))) | (refine Ao (Ab _ 110) ?_ ?_ <;> intro _))) | refine Ak ?_ | refine nc ?_ ?_ | (with_reducible intro _ <;> (try (exfalso; omega))) | refine Ad ?_ | (refine nd ?_ ?_ <;> intro hg <;> first | exact xo hg | rw [hg]))
    exact ⟨fun l t h => (by rw [hp2] at h; cases h), fun _ => Az []⟩
   | [r, g, bl], _ =>
    have h1 := r.toNat_lt
    have d1 := FY r [g, bl]
    have h2 := g.toNat_lt
    have d2 := FY g [bl]
    have h3 := bl.toNat_lt
    have d3 := FY bl []
    have g1 := FX (DD Es 0 (bD r)) hn
    have g2 := FX (l := (MS pre N).set ((pre.length : Nat) : Int).toNat (DD Es 0 (bD r))) (DD (DD Es 0 (bD r)) 1 (bD g)) (by rw [List.length_set]; exact hn)
    have dn := HY
    repeat' (first | refine Al ?_ | (refine Ay ?_; first | refine Ae 272 fun _ => ?_ | refine Aq ?_ | refine Aw ?_ | refine Ax ?_) | refine Ak ?_ | refine nc ?_ ?_ | (with_reducible intro _ <;> (try (exfalso; omega))) | refine Ad ?_ | (refine nd ?_ ?_ <;> intro hg <;> first | exact xo hg | rw [hg]))
    refine AF 5 ?_
    repeat' (first | refine Al ?_ | (refine Ay ?_; first | refine Aj [(1, none)] d1 ?_ | refine Aj [(1, none)] d2 ?_ | refine Aj [(1, none)] d3 ?_ | refine Aj [(1, none)] dn ?_ | refine Ae 185 fun _ => ?_ | refine Ae 220 fun _ => ?_ | refine Aq ?_ | refine Aw ?_ | refine Ax ?_ | (refine AK (Aa 110) ?_; first | refine Ag (Aa 110) ?_ | refine An (Ai 110) ?_ | (refine Ah (Ab _ 110) ?_ ?_ <;> intro _ <;> (try (exfalso; omega))) | (refine Ao (Ab _ 110) ?_ ?_ <;> intro _))) | refine Ak ?_ | refine nc ?_ ?_ | (with_reducible intro _ <;> (try (exfalso; omega))) | refine Ad ?_ | (refine nd ?_ ?_ <;> intro hg <;> first | exact xo hg | rw [hg]))
    exact ⟨fun l t h => (by rw [hp2] at h; cases h), fun _ => Az []⟩
  | some q =>
   obtain ⟨c', t'⟩ := q
   rw [hc] at hp2
   match b', hc with
   | r :: g :: bl :: a :: t, hc =>
    simp only [Ew, Option.some.injEq, Prod.mk.injEq] at hc
    obtain ⟨rfl, rfl⟩ := hc
    have h1 := r.toNat_lt
    have h2 := g.toNat_lt
    have h3 := bl.toNat_lt
    have h4 := a.toNat_lt
    have d1 := FY r (g :: bl :: a :: t)
    have d2 := FY g (bl :: a :: t)
    have d3 := FY bl (a :: t)
    have d4 := FY a t
    have g1 := FX (DD Es 0 (bD r)) hn
    have g2 := FX (l := (MS pre N).set ((pre.length : Nat) : Int).toNat (DD Es 0 (bD r))) (DD (DD Es 0 (bD r)) 1 (bD g)) (by rw [List.length_set]; exact hn)
    have g3 := FX (l := ((MS pre N).set ((pre.length : Nat) : Int).toNat (DD Es 0 (bD r))).set ((pre.length : Nat) : Int).toNat (DD (DD Es 0 (bD r)) 1 (bD g))) (DD (DD (DD Es 0 (bD r)) 1 (bD g)) 2 (bD bl)) (by rw [List.length_set, List.length_set]; exact hn)
    repeat' (first | refine Al ?_ | (refine Ay ?_; first | refine Ae 272 fun _ => ?_ | refine Aq ?_ | refine Aw ?_ | refine Ax ?_) | refine Ak ?_ | refine nc ?_ ?_ | (with_reducible intro _ <;> (try (exfalso; omega))) | refine Ad ?_ | (refine nd ?_ ?_ <;> intro hg <;> first | exact xo hg | rw [hg]))
    refine AF 5 ?_
    repeat' (first | refine Al ?_ | (refine Ay ?_; first | refine Aj [(1, none)] d1 ?_ | refine Aj [(1, none)] d2 ?_ | refine Aj [(1, none)] d3 ?_ | refine Aj [(1, none)] d4 ?_ | refine Ae 185 fun _ => ?_ | refine Ae 220 fun _ => ?_ | refine Aq ?_ | refine Aw ?_ | refine Ax ?_ | (refine AK (Aa 110) ?_; first | refine Ag (Aa 110) ?_ | refine An (Ai 110) ?_ | (refine Ah (Ab _ 110) ?_ ?_ <;> intro _ <;> (try (exfalso; omega))) | (refine Ao (Ab _ 110) ?_ ?_ <;> intro _))) | refine Ak ?_ | refine nc ?_ ?_ | (with_reducible intro _ <;> (try (exfalso; omega))) | refine Ad ?_ | (refine nd ?_ ?_ <;> intro hg <;> first | exact xo hg | rw [hg]))
    have hfin : ((((MS pre N).set ((pre.length : Nat) : Int).toNat (DD Es (0 + 0) (AT (.lit (.int .u8 (r.toNat : Int)))))).set ((pre.length : Nat) : Int).toNat (DD (DD Es 0 (bD r)) (0 + 1) (AT (.lit (.int .u8 (g.toNat : Int)))))).set ((pre.length : Nat) : Int).toNat (DD (DD (DD Es 0 (bD r)) 1 (bD g)) (0 + 2) (AT (.lit (.int .u8 (bl.toNat : Int)))))).set ((pre.length : Nat) : Int).toNat (DD (DD (DD (DD Es 0 (bD r)) 1 (bD g)) 2 (bD bl)) (0 + 3) (AT (.lit (.int .u8 (a.toNat : Int))))) = MS (pre ++ [⟨r, g, bl, a⟩]) N := by
     rw [List.set_set, List.set_set, List.set_set]; exact Xr h ⟨r, g, bl, a⟩
    refine AU (pre ++ [⟨r, g, bl, a⟩], t) ⟨by simp; omega, ?_⟩ (by simp; omega) ?_
    ·rw [hp2]
     simp only [List.length_append, List.length_cons, List.length_nil, Option.map_map]
     rw [show N - pre.length - 1 = N - (pre.length + (0 + 1)) by omega]
     congr 1
     funext z
     simp
    ·dsimp only
     rw [hfin, show (((pre ++ [(⟨r, g, bl, a⟩ : BL)]).length : Nat) : Int) = (pre.length : Int) + 1 by simp]
     exact (CO [(2, _, _)])
 ·have hN2 : N = pre.length := by omega
  rw [show N - pre.length = 0 by omega, HX] at hp2
  repeat' (first | refine Al ?_ | refine Ak ?_ | refine nc ?_ ?_ | (with_reducible intro _ <;> (try (exfalso; omega))) | refine Ad ?_ | (refine nd ?_ ?_ <;> intro hg <;> first | exact xo hg | rw [hg]))
  refine ⟨fun l t hh => ?_, fun hh => (by rw [hp2] at hh; cases hh)⟩
  rw [hp2] at hh
  simp only [Option.map_some, List.append_nil, Option.some.injEq, Prod.mk.injEq] at hh
  obtain ⟨rfl, rfl⟩ := hh
  rw [hN2, Aby]
  refine NP 2 rfl ?_
  exact Gt []
theorem TU {px : D} {i : Bk} {k x y x2 y2 z : Int} {c : BL} {w0 h0 : Int} {tg : Bk} (b t : List UInt8) (w h : Nat) (l : List BL) (hb : Gq b = .ok ((w, h, l), t)) : C6 Tryz.prog 253 2 [.ptr 0 0] [.c 0 0 (Ks (.ptr 1 0) BW (.d px) i k x y x2 y2 z c w0 h0 tg), .c 1 0 (EX b)] 2 (.ret (.tup [])) [.c 0 0 (Ks (.ptr 1 0) BW (.d (.sl false true (l.map CI))) i k x y x2 y2 z c w h tg), .c 1 0 (EX t)] 2 := by
 simp only [Gq] at hb
 split at hb
 ·cases hb
 ·rename_i w' b1 e1
  split at hb
  ·cases hb
  ·rename_i h' b2 e2
   split at hb
   ·cases hb
   ·rename_i l' b3 e3
    simp only [Except.ok.injEq, Prod.mk.injEq] at hb
    obtain ⟨⟨rfl, rfl, rfl⟩, rfl⟩ := hb
    match b, e1 with
    | u :: b, e1 =>
     simp only [Dc] at e1
     split at e1
     ·rename_i hu
      simp only [Except.ok.injEq, Prod.mk.injEq] at e1
      obtain ⟨rfl, rfl⟩ := e1
      match b, e2 with
      | v :: b, e2 =>
       simp only [Dc] at e2
       split at e2
       ·rename_i hv
        simp only [Except.ok.injEq, Prod.mk.injEq] at e2
        obtain ⟨rfl, rfl⟩ := e2
        exact ((OF px i k x y x2 y2 z c w0 h0 tg u v b hu hv).mono fun r s n h => h.1 _ _ e3).sub1
       ·cases e2
     ·cases e1

set_option maxRecDepth 20000
set_option maxRecDepth 10000
theorem Xg {b : List UInt8} {e : Int} (hb : Gq b = .error e) : (b = [] ∧ e = 110) ∨ (∃ u t, b = u :: t ∧ ¬ (1 ≤ u.toNat ∧ u.toNat ≤ 8) ∧ e = 290) ∨ (∃ u, b = [u] ∧ (1 ≤ u.toNat ∧ u.toNat ≤ 8) ∧ e = 110) ∨
  (∃ u v t, b = u :: v :: t ∧ (1 ≤ u.toNat ∧ u.toNat ≤ 8) ∧ ¬ (1 ≤ v.toNat ∧ v.toNat ≤ 8) ∧ e = 290) ∨ ∃ u v t, b = u :: v :: t ∧ (1 ≤ u.toNat ∧ u.toNat ≤ 8) ∧ (1 ≤ v.toNat ∧ v.toNat ≤ 8) ∧ HX (u.toNat * v.toNat) t = none ∧ e = 110 := by
 match b, hb with
 | [], hb => left; simp [Gq, Dc] at hb; exact ⟨rfl, hb.symm⟩
 | u :: t, hb =>
  by_cases hu : 1 ≤ u.toNat ∧ u.toNat ≤ 8
  ·match t, hb with
   | [], hb => right; right; left; simp [Gq, Dc, hu] at hb; exact ⟨u, rfl, hu, hb.symm⟩
   | v :: t, hb =>
    by_cases hv : 1 ≤ v.toNat ∧ v.toNat ≤ 8
    ·right; right; right; right
     refine ⟨u, v, t, rfl, hu, hv, ?_⟩
     simp only [Gq, Dc] at hb
     rw [if_pos hu] at hb
     simp only at hb
     rw [if_pos hv] at hb
     simp only at hb
     split at hb
     ·rename_i hn; cases hb; exact ⟨hn, rfl⟩
     ·cases hb
    ·right; right; right; left
     refine ⟨u, v, t, rfl, hu, hv, ?_⟩
     simp only [Gq, Dc] at hb
     rw [if_pos hu] at hb
     simp only at hb
     rw [if_neg hv] at hb
     cases hb; rfl
  ·right; left
   refine ⟨u, t, rfl, hu, ?_⟩
   simp only [Gq, Dc] at hb
   rw [if_neg hu] at hb
   cases hb; rfl
theorem Sr {px : D} {i : Bk} {k x y x2 y2 z : Int} {c : BL} {w0 h0 : Int} {tg : Bk} (b : List UInt8) (e : Int) (hb : Gq b = .error e) : C6 Tryz.prog 253 2 [.ptr 0 0] [.c 0 0 (Ks (.ptr 1 0) BW (.d px) i k x y x2 y2 z c w0 h0 tg), .c 1 0 (EX b)] 2 (.panic (.d (GB e))) OG 2 := by
 rcases Xg hb with ⟨rfl, rfl⟩ | ⟨u, t, rfl, hu, rfl⟩ | ⟨u, rfl, hu, rfl⟩ | ⟨u, v, t, rfl, hu, hv, rfl⟩ | ⟨u, v, t, rfl, hu, hv, hn, rfl⟩
 ·have c1 := HY
  refine AJ fun B M => ?_
  repeat' (first | refine Al ?_ | refine Ak ?_ | refine nc ?_ ?_ | (with_reducible intro _ <;> (try (exfalso; omega))) | refine Ad ?_ | (refine nd ?_ ?_ <;> intro hg <;> first | exact xo hg | rw [hg]))
  refine AF 3 ?_
  repeat' (first | refine Al ?_ | (refine Ay ?_; first | refine Aj [(1, none)] c1 ?_ | refine Ae 185 fun _ => ?_ | refine Ae 220 fun _ => ?_ | refine Aq ?_ | refine Aw ?_ | refine Ax ?_ | (refine AK (Aa 110) ?_; first | refine Ag (Aa 110) ?_ | refine An (Ai 110) ?_ | (refine Ah (Ab _ 110) ?_ ?_ <;> intro _ <;> (try (exfalso; omega))) | (refine Ao (Ab _ 110) ?_ ?_ <;> intro _)) | (refine AK (Aa 290) ?_; first | refine Ag (Aa 290) ?_ | refine An (Ai 290) ?_ | (refine Ah (Ab _ 290) ?_ ?_ <;> intro _ <;> (try (exfalso; omega))) | (refine Ao (Ab _ 290) ?_ ?_ <;> intro _))) | refine Ak ?_ | refine nc ?_ ?_ | (with_reducible intro _ <;> (try (exfalso; omega))) | refine Ad ?_ | (refine nd ?_ ?_ <;> intro hg <;> first | exact xo hg | rw [hg]))
  all_goals exact Az []
 ·have c1 := FY u t
  have hu8 := u.toNat_lt
  refine AJ fun B M => ?_
  repeat' (first | refine Al ?_ | refine Ak ?_ | refine nc ?_ ?_ | (with_reducible intro _ <;> (try (exfalso; omega))) | refine Ad ?_ | (refine nd ?_ ?_ <;> intro hg <;> first | exact xo hg | rw [hg]))
  refine AF 3 ?_
  repeat' (first | refine Al ?_ | (refine Ay ?_; first | refine Aj [(1, none)] c1 ?_ | refine Ae 185 fun _ => ?_ | refine Ae 220 fun _ => ?_ | refine Aq ?_ | refine Aw ?_ | refine Ax ?_ | (refine AK (Aa 110) ?_; first | refine Ag (Aa 110) ?_ | refine An (Ai 110) ?_ | (refine Ah (Ab _ 110) ?_ ?_ <;> intro _ <;> (try (exfalso; omega))) | (refine Ao (Ab _ 110) ?_ ?_ <;> intro _)) | (refine AK (Aa 290) ?_; first | refine Ag (Aa 290) ?_ | refine An (Ai 290) ?_ | (refine Ah (Ab _ 290) ?_ ?_ <;> intro _ <;> (try (exfalso; omega))) | (refine Ao (Ab _ 290) ?_ ?_ <;> intro _))) | refine Ak ?_ | refine nc ?_ ?_ | (with_reducible intro _ <;> (try (exfalso; omega))) | refine Ad ?_ | (refine nd ?_ ?_ <;> intro hg <;> first | exact xo hg | rw [hg]))
  all_goals exact Az []
 ·have c1 := FY u []
  have c2 := HY
  refine AJ fun B M => ?_
  repeat' (first | refine Al ?_ | refine Ak ?_ | refine nc ?_ ?_ | (with_reducible intro _ <;> (try (exfalso; omega))) | refine Ad ?_ | (refine nd ?_ ?_ <;> intro hg <;> first | exact xo hg | rw [hg]))
  refine AF 3 ?_
  repeat' (first | refine Al ?_ | (refine Ay ?_; first | refine Aj [(1, none)] c1 ?_ | refine Aj [(1, none)] c2 ?_ | refine Ae 185 fun _ => ?_ | refine Ae 220 fun _ => ?_ | refine Aq ?_ | refine Aw ?_ | refine Ax ?_ | (refine AK (Aa 110) ?_; first | refine Ag (Aa 110) ?_ | refine An (Ai 110) ?_ | (refine Ah (Ab _ 110) ?_ ?_ <;> intro _ <;> (try (exfalso; omega))) | (refine Ao (Ab _ 110) ?_ ?_ <;> intro _)) | (refine AK (Aa 290) ?_; first | refine Ag (Aa 290) ?_ | refine An (Ai 290) ?_ | (refine Ah (Ab _ 290) ?_ ?_ <;> intro _ <;> (try (exfalso; omega))) | (refine Ao (Ab _ 290) ?_ ?_ <;> intro _))) | refine Ak ?_ | refine nc ?_ ?_ | (with_reducible intro _ <;> (try (exfalso; omega))) | refine Ad ?_ | (refine nd ?_ ?_ <;> intro hg <;> first | exact xo hg | rw [hg]))
  all_goals exact Az []
 ·have c1 := FY u (v :: t)
  have c2 := FY v t
  have hv8 := v.toNat_lt
  refine AJ fun B M => ?_
  repeat' (first | refine Al ?_ | refine Ak ?_ | refine nc ?_ ?_ | (with_reducible intro _ <;> (try (exfalso; omega))) | refine Ad ?_ | (refine nd ?_ ?_ <;> intro hg <;> first | exact xo hg | rw [hg]))
  refine AF 3 ?_
  repeat' (first | refine Al ?_ | (refine Ay ?_; first | refine Aj [(1, none)] c1 ?_ | refine Aj [(1, none)] c2 ?_ | refine Ae 185 fun _ => ?_ | refine Ae 220 fun _ => ?_ | refine Aq ?_ | refine Aw ?_ | refine Ax ?_ | (refine AK (Aa 110) ?_; first | refine Ag (Aa 110) ?_ | refine An (Ai 110) ?_ | (refine Ah (Ab _ 110) ?_ ?_ <;> intro _ <;> (try (exfalso; omega))) | (refine Ao (Ab _ 110) ?_ ?_ <;> intro _)) | (refine AK (Aa 290) ?_; first | refine Ag (Aa 290) ?_ | refine An (Ai 290) ?_ | (refine Ah (Ab _ 290) ?_ ?_ <;> intro _ <;> (try (exfalso; omega))) | (refine Ao (Ab _ 290) ?_ ?_ <;> intro _))) | refine Ak ?_ | refine nc ?_ ?_ | (with_reducible intro _ <;> (try (exfalso; omega))) | refine Ad ?_ | (refine nd ?_ ?_ <;> intro hg <;> first | exact xo hg | rw [hg]))
  all_goals exact Az []
 ·exact ((OF px i k x y x2 y2 z c w0 h0 tg u v t hu hv).mono fun r s n h => h.2 hn).sub1

set_option maxRecDepth 20000
set_option maxRecDepth 10000
abbrev BF : D := .lit (.slice none 0 0)
def Xj (b : List UInt8) (r : RC) (s : List E) (n : Nat) : Prop :=
 (∀ o t, Ev b = .ok (o, t) → Gn 2 (.ret (.d (.agg (oM o)))) [.c 0 0 (MF (.ptr 1 0) BW), .c 1 0 (EX t)] 2 r s n) ∧ ∀ e, Ev b = .error e → Gn 2 (.panic (.d (GB e))) OG 2 r s n
theorem Cd {b : List UInt8} {e : Int} {r : RC} {s : List E} {n : Nat} (h : Ev b = .error e) (k : Gn 2 (.panic (.d (GB e))) OG 2 r s n) : Xj b r s n :=
 ⟨fun o t h' => (by rw [h] at h'; cases h'), fun e' h' => by rw [h] at h'; cases h'; exact k⟩
theorem K9 {b t : List UInt8} {o : Bb} {r : RC} {s : List E} {n : Nat} (h : Ev b = .ok (o, t)) (k : Gn 2 (.ret (.d (.agg (oM o)))) [.c 0 0 (MF (.ptr 1 0) BW), .c 1 0 (EX t)] 2 r s n) : Xj b r s n :=
 ⟨fun o' t' h' => by rw [h] at h'; cases h'; exact k, fun e' h' => (by rw [h] at h'; cases h')⟩
theorem K8 {k : UInt8} {b b2 : List UInt8} {i : Bk} (hk : 1 ≤ k.toNat ∧ k.toNat ≤ 8) (hi : EY b = some (i, b2)) : Ev (k :: b) = match Eg { Bb.zero with id := i, k := (k.toNat : Int) } b2 with
  | .error e => .error e
  | .ok (o, b) => if Da o then .ok (o, b) else .error 290 := by simp only [Ev]; rw [if_pos hk, hi]; rfl
theorem Vb (b : List UInt8) (hb : b = [] ∨ (∃ k t, b = k :: t ∧ ¬ (1 ≤ k.toNat ∧ k.toNat ≤ 8)) ∨ ∃ k t, b = k :: t ∧ (1 ≤ k.toNat ∧ k.toNat ≤ 8) ∧ EY t = none) : VM Tryz.prog 223 2 [.ptr 0 0] [.c 0 0 (MF (.ptr 1 0) BW), .c 1 0 (EX b)] 2 (Xj b) := by
 rcases hb with rfl | ⟨k, t, rfl, hk⟩ | ⟨k, t, rfl, hk, hi⟩
 ·have c1 := HY
  intro B
  refine Cm fun M => ?_
  repeat' (first | refine Al ?_ | (refine Ay ?_; first | refine Aj [(1, none)] c1 ?_ | refine Ae 185 fun _ => ?_ | refine Ae 220 fun _ => ?_ | refine Aq ?_ | refine Aw ?_ | refine Ax ?_ | (refine AK (Aa 110) ?_; first | refine Ag (Aa 110) ?_ | refine An (Ai 110) ?_ | (refine Ah (Ab _ 110) ?_ ?_ <;> intro _ <;> (try (exfalso; omega))) | (refine Ao (Ab _ 110) ?_ ?_ <;> intro _)) | (refine AK (Aa 290) ?_; first | refine Ag (Aa 290) ?_ | refine An (Ai 290) ?_ | (refine Ah (Ab _ 290) ?_ ?_ <;> intro _ <;> (try (exfalso; omega))) | (refine Ao (Ab _ 290) ?_ ?_ <;> intro _))) | refine Ak ?_ | refine nc ?_ ?_ | (with_reducible intro _ <;> (try (exfalso; omega))) | refine Ad ?_ | (refine nd ?_ ?_ <;> intro hg <;> first | exact xo hg | rw [hg]))
  all_goals exact Cd rfl (Az [])
 ·have c1 := FY k t
  have hk8 := k.toNat_lt
  intro B
  refine Cm fun M => ?_
  repeat' (first | refine Al ?_ | (refine Ay ?_; first | refine Aj [(1, none)] c1 ?_ | refine Ae 185 fun _ => ?_ | refine Ae 220 fun _ => ?_ | refine Aq ?_ | refine Aw ?_ | refine Ax ?_ | (refine AK (Aa 110) ?_; first | refine Ag (Aa 110) ?_ | refine An (Ai 110) ?_ | (refine Ah (Ab _ 110) ?_ ?_ <;> intro _ <;> (try (exfalso; omega))) | (refine Ao (Ab _ 110) ?_ ?_ <;> intro _)) | (refine AK (Aa 290) ?_; first | refine Ag (Aa 290) ?_ | refine An (Ai 290) ?_ | (refine Ah (Ab _ 290) ?_ ?_ <;> intro _ <;> (try (exfalso; omega))) | (refine Ao (Ab _ 290) ?_ ?_ <;> intro _))) | refine Ak ?_ | refine nc ?_ ?_ | (with_reducible intro _ <;> (try (exfalso; omega))) | refine Ad ?_ | (refine nd ?_ ?_ <;> intro hg <;> first | exact xo hg | rw [hg]))
  all_goals exact Cd (show Ev (k :: t) = .error 290 by simp only [Ev]; rw [if_neg hk]) (Az [])
 ·have c1 := FY k t
  have hk8 := k.toNat_lt
  have ci := XY (px := BF) (i := Bk.zero) (k := (k.toNat : Int)) (x := 0) (y := 0) (x2 := 0) (y2 := 0) (z := 0) (c := BL.zero) (w := 0) (h := 0) (tg := Bk.zero) t hi
  intro B
  refine Cm fun M => ?_
  repeat' (first | refine Al ?_ | (refine Ay ?_; first | refine Aj [(1, none)] c1 ?_ | refine Aj [(0, none), (1, none)] ci ?_ | refine Ae 185 fun _ => ?_ | refine Ae 220 fun _ => ?_ | refine Aq ?_ | refine Aw ?_ | refine Ax ?_ | (refine AK (Aa 110) ?_; first | refine Ag (Aa 110) ?_ | refine An (Ai 110) ?_ | (refine Ah (Ab _ 110) ?_ ?_ <;> intro _ <;> (try (exfalso; omega))) | (refine Ao (Ab _ 110) ?_ ?_ <;> intro _)) | (refine AK (Aa 290) ?_; first | refine Ag (Aa 290) ?_ | refine An (Ai 290) ?_ | (refine Ah (Ab _ 290) ?_ ?_ <;> intro _ <;> (try (exfalso; omega))) | (refine Ao (Ab _ 290) ?_ ?_ <;> intro _))) | refine Ak ?_ | refine nc ?_ ?_ | (with_reducible intro _ <;> (try (exfalso; omega))) | refine Ad ?_ | (refine nd ?_ ?_ <;> intro hg <;> first | exact xo hg | rw [hg]))
  all_goals exact Cd (show Ev (k :: t) = .error 110 by simp only [Ev]; rw [if_pos hk, hi]) (Az [])
theorem Uv {n : Nat} {b t : List UInt8} {l : List BL} (h : HX n b = some (l, t)) : l.length = n := (We n h).2
theorem Ut {b t : List UInt8} {w h : Nat} {l : List BL} (he : Gq b = .ok ((w, h, l), t)) : l.length ≤ 64 := by
 simp only [Gq] at he
 split at he
 ·cases he
 ·rename_i w' b1 h1
  split at he
  ·cases he
  ·rename_i h' b2 h2
   split at he
   ·cases he
   ·rename_i l' b3 h3
    simp only [Except.ok.injEq, Prod.mk.injEq] at he
    obtain ⟨⟨rfl, rfl, rfl⟩, rfl⟩ := he
    rw [Uv h3]
    exact Nat.mul_le_mul (KF h1).2.2 (KF h2).2.2

end Go.Proofs.YtbgcjnfhadhjeaaGreat