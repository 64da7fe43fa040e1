/- Walks by data and names, part 34: Layer 19, by V: what is no stamp. Layer 19, by V: operations, read. Layer 19, by V: operations, read: brushes, rectangles. -/
import Derived.Test.YtbgcjnfhadhjeaaGreatQk33
import Derived.Test.YtbgcjnfhadhjeaaGreatQk30
namespace Go.Proofs.YtbgcjnfhadhjeaaGreat
set_option maxRecDepth 20000
open Go.RowKit
set_option maxRecDepth 10000
set_option maxHeartbeats 4000000
theorem Xc {b : List UInt8} {e : Int} (hb : Er b = .error e) : (b = [] ∧ e = 110) ∨ (∃ u t, b = u :: t ∧ ¬ (1 ≤ u.toNat ∧ u.toNat ≤ 8) ∧ e = 290) ∨ (∃ u, b = [u] ∧ (1 ≤ u.toNat ∧ u.toNat ≤ 8) ∧ e = 110) ∨
  (∃ u v t, b = u :: v :: t ∧ (1 ≤ u.toNat ∧ u.toNat ≤ 8) ∧ ¬ (1 ≤ v.toNat ∧ v.toNat ≤ 8) ∧ e = 290) ∨ ∃ u v t, b = u :: v :: t ∧ (1 ≤ u.toNat ∧ u.toNat ≤ 8) ∧ (1 ≤ v.toNat ∧ v.toNat ≤ 8) ∧ EX (u.toNat * v.toNat) t = none ∧ e = 110 := by
 match b, hb with
 | [], hb => left; simp [Er, CS] at hb; exact ⟨rfl, hb.symm⟩
 | u :: t, hb =>
  by_cases hu : 1 ≤ u.toNat ∧ u.toNat ≤ 8
  ·match t, hb with
   | [], hb => right; right; left; simp [Er, CS, hu] at hb; exact ⟨u, rfl, hu, hb.symm⟩
   | v :: t, hb =>
    by_cases hv : 1 ≤ v.toNat ∧ v.toNat ≤ 8
    ·right; right; right; right
     refine ⟨u, v, t, rfl, hu, hv, ?_⟩
     simp only [Er, CS] at hb
     rw [if_pos hu] at hb
     simp only at hb
     rw [if_pos hv] at hb
     simp only at hb
     split at hb
     ·rename_i hn; cases hb; exact ⟨hn, rfl⟩
     ·cases hb
    ·right; right; right; left
     refine ⟨u, v, t, rfl, hu, hv, ?_⟩
     simp only [Er, CS] at hb
     rw [if_pos hu] at hb
     simp only at hb
     rw [if_neg hv] at hb
     cases hb; rfl
  ·right; left
   refine ⟨u, t, rfl, hu, ?_⟩
   simp only [Er, CS] at hb
   rw [if_neg hu] at hb
   cases hb; rfl
theorem Sd {px : D} {i : Ba} {k x y x2 y2 z : Int} {c : BO} {w0 h0 : Int} {tg : Ba} (b : List UInt8) (e : Int) (hb : Er b = .error e) : Dk Tryz.prog 253 2 [.ptr 0 0] [.c 0 0 (Ko (.ptr 1 0) Cp (.d px) i k x y x2 y2 z c w0 h0 tg), .c 1 0 (E5 b)] 2 (.panic (.d (GM e))) Ow 2 := by
 rcases Xc hb with ⟨rfl, rfl⟩ | ⟨u, t, rfl, hu, rfl⟩ | ⟨u, rfl, hu, rfl⟩ | ⟨u, v, t, rfl, hu, hv, rfl⟩ | ⟨u, v, t, rfl, hu, hv, hn, rfl⟩
 ·have c1 := H9
  refine AH fun B M => ?_
  repeat' (first | refine Ai ?_ | refine Ah ?_ | refine nc ?_ ?_ | (with_reducible intro _ <;> (try (exfalso; omega))) | refine Aa ?_ | (refine nd ?_ ?_ <;> intro hg <;> first | exact xo hg | rw [hg]))
  refine AB 3 ?_
  repeat' (first | refine Ai ?_ | (refine As ?_; first | refine Am [(1, none)] c1 ?_ | refine Ae 185 fun _ => ?_ | refine Ae 220 fun _ => ?_ | refine Ar ?_ | refine Aw ?_ | refine Ax ?_ | (refine AJ (Ab 110) ?_; first | refine Ag (Ab 110) ?_ | refine Ao (Ak 110) ?_ | (refine Aj (Ad _ 110) ?_ ?_ <;> intro _ <;> (try (exfalso; omega))) | (refine Ap (Ad _ 110) ?_ ?_ <;> intro _)) | (refine AJ (Ab 290) ?_; first | refine Ag (Ab 290) ?_ | refine Ao (Ak 290) ?_ | (refine Aj (Ad _ 290) ?_ ?_ <;> intro _ <;> (try (exfalso; omega))) | (refine Ap (Ad _ 290) ?_ ?_ <;> intro _))) | refine Ah ?_ | refine nc ?_ ?_ | (with_reducible intro _ <;> (try (exfalso; omega))) | refine Aa ?_ | (refine nd ?_ ?_ <;> intro hg <;> first | exact xo hg | rw [hg]))
  all_goals exact Ay []
 ·have c1 := F7 u t
  have hu8 := u.toNat_lt
  refine AH fun B M => ?_
  repeat' (first | refine Ai ?_ | refine Ah ?_ | refine nc ?_ ?_ | (with_reducible intro _ <;> (try (exfalso; omega))) | refine Aa ?_ | (refine nd ?_ ?_ <;> intro hg <;> first | exact xo hg | rw [hg]))
  refine AB 3 ?_
  repeat' (first | refine Ai ?_ | (refine As ?_; first | refine Am [(1, none)] c1 ?_ | refine Ae 185 fun _ => ?_ | refine Ae 220 fun _ => ?_ | refine Ar ?_ | refine Aw ?_ | refine Ax ?_ | (refine AJ (Ab 110) ?_; first | refine Ag (Ab 110) ?_ | refine Ao (Ak 110) ?_ | (refine Aj (Ad _ 110) ?_ ?_ <;> intro _ <;> (try (exfalso; omega))) | (refine Ap (Ad _ 110) ?_ ?_ <;> intro _)) | (refine AJ (Ab 290) ?_; first | refine Ag (Ab 290) ?_ | refine Ao (Ak 290) ?_ | (refine Aj (Ad _ 290) ?_ ?_ <;> intro _ <;> (try (exfalso; omega))) | (refine Ap (Ad _ 290) ?_ ?_ <;> intro _))) | refine Ah ?_ | refine nc ?_ ?_ | (with_reducible intro _ <;> (try (exfalso; omega))) | refine Aa ?_ | (refine nd ?_ ?_ <;> intro hg <;> first | exact xo hg | rw [hg]))
  all_goals exact Ay []
 ·have c1 := F7 u []
  have c2 := H9
  refine AH fun B M => ?_
  repeat' (first | refine Ai ?_ | refine Ah ?_ | refine nc ?_ ?_ | (with_reducible intro _ <;> (try (exfalso; omega))) | refine Aa ?_ | (refine nd ?_ ?_ <;> intro hg <;> first | exact xo hg | rw [hg]))
  refine AB 3 ?_
  repeat' (first | refine Ai ?_ | (refine As ?_; first | refine Am [(1, none)] c1 ?_ | refine Am [(1, none)] c2 ?_ | refine Ae 185 fun _ => ?_ | refine Ae 220 fun _ => ?_ | refine Ar ?_ | refine Aw ?_ | refine Ax ?_ | (refine AJ (Ab 110) ?_; first | refine Ag (Ab 110) ?_ | refine Ao (Ak 110) ?_ | (refine Aj (Ad _ 110) ?_ ?_ <;> intro _ <;> (try (exfalso; omega))) | (refine Ap (Ad _ 110) ?_ ?_ <;> intro _)) | (refine AJ (Ab 290) ?_; first | refine Ag (Ab 290) ?_ | refine Ao (Ak 290) ?_ | (refine Aj (Ad _ 290) ?_ ?_ <;> intro _ <;> (try (exfalso; omega))) | (refine Ap (Ad _ 290) ?_ ?_ <;> intro _))) | refine Ah ?_ | refine nc ?_ ?_ | (with_reducible intro _ <;> (try (exfalso; omega))) | refine Aa ?_ | (refine nd ?_ ?_ <;> intro hg <;> first | exact xo hg | rw [hg]))
  all_goals exact Ay []
 ·have c1 := F7 u (v :: t)
  have c2 := F7 v t
  have hv8 := v.toNat_lt
  refine AH fun B M => ?_
  repeat' (first | refine Ai ?_ | refine Ah ?_ | refine nc ?_ ?_ | (with_reducible intro _ <;> (try (exfalso; omega))) | refine Aa ?_ | (refine nd ?_ ?_ <;> intro hg <;> first | exact xo hg | rw [hg]))
  refine AB 3 ?_
  repeat' (first | refine Ai ?_ | (refine As ?_; first | refine Am [(1, none)] c1 ?_ | refine Am [(1, none)] c2 ?_ | refine Ae 185 fun _ => ?_ | refine Ae 220 fun _ => ?_ | refine Ar ?_ | refine Aw ?_ | refine Ax ?_ | (refine AJ (Ab 110) ?_; first | refine Ag (Ab 110) ?_ | refine Ao (Ak 110) ?_ | (refine Aj (Ad _ 110) ?_ ?_ <;> intro _ <;> (try (exfalso; omega))) | (refine Ap (Ad _ 110) ?_ ?_ <;> intro _)) | (refine AJ (Ab 290) ?_; first | refine Ag (Ab 290) ?_ | refine Ao (Ak 290) ?_ | (refine Aj (Ad _ 290) ?_ ?_ <;> intro _ <;> (try (exfalso; omega))) | (refine Ap (Ad _ 290) ?_ ?_ <;> intro _))) | refine Ah ?_ | refine nc ?_ ?_ | (with_reducible intro _ <;> (try (exfalso; omega))) | refine Aa ?_ | (refine nd ?_ ?_ <;> intro hg <;> first | exact xo hg | rw [hg]))
  all_goals exact Ay []
 ·exact ((Ov px i k x y x2 y2 z c w0 h0 tg u v t hu hv).mono fun r s n h => h.2 hn).sub1

set_option maxRecDepth 20000
set_option maxRecDepth 10000
abbrev BY : D := .lit (.slice none 0 0)
def Xf (b : List UInt8) (r : RC) (s : List E) (n : Nat) : Prop :=
 (∀ o t, Da b = .ok (o, t) → Gy 2 (.ret (.d (.agg (oM o)))) [.c 0 0 (Mw (.ptr 1 0) Cp), .c 1 0 (E5 t)] 2 r s n) ∧ ∀ e, Da b = .error e → Gy 2 (.panic (.d (GM e))) Ow 2 r s n
theorem CA {b : List UInt8} {e : Int} {r : RC} {s : List E} {n : Nat} (h : Da b = .error e) (k : Gy 2 (.panic (.d (GM e))) Ow 2 r s n) : Xf b r s n :=
 ⟨fun o t h' => (by rw [h] at h'; cases h'), fun e' h' => by rw [h] at h'; cases h'; exact k⟩
theorem K9 {b t : List UInt8} {o : A5} {r : RC} {s : List E} {n : Nat} (h : Da b = .ok (o, t)) (k : Gy 2 (.ret (.d (.agg (oM o)))) [.c 0 0 (Mw (.ptr 1 0) Cp), .c 1 0 (E5 t)] 2 r s n) : Xf b r s n :=
 ⟨fun o' t' h' => by rw [h] at h'; cases h'; exact k, fun e' h' => (by rw [h] at h'; cases h')⟩
theorem K8 {k : UInt8} {b b2 : List UInt8} {i : Ba} (hk : 1 ≤ k.toNat ∧ k.toNat ≤ 8) (hi : D6 b = some (i, b2)) : Da (k :: b) = match AR { A5.zero with id := i, k := (k.toNat : Int) } b2 with
  | .error e => .error e
  | .ok (o, b) => if Dr o then .ok (o, b) else .error 290 := by simp only [Da]; rw [if_pos hk, hi]; rfl
theorem U3 (b : List UInt8) (hb : b = [] ∨ (∃ k t, b = k :: t ∧ ¬ (1 ≤ k.toNat ∧ k.toNat ≤ 8)) ∨ ∃ k t, b = k :: t ∧ (1 ≤ k.toNat ∧ k.toNat ≤ 8) ∧ D6 t = none) : VM Tryz.prog 223 2 [.ptr 0 0] [.c 0 0 (Mw (.ptr 1 0) Cp), .c 1 0 (E5 b)] 2 (Xf b) := by
 rcases hb with rfl | ⟨k, t, rfl, hk⟩ | ⟨k, t, rfl, hk, hi⟩
 ·have c1 := H9
  intro B
  refine CI fun M => ?_
  repeat' (first | refine Ai ?_ | (refine As ?_; first | refine Am [(1, none)] c1 ?_ | refine Ae 185 fun _ => ?_ | refine Ae 220 fun _ => ?_ | refine Ar ?_ | refine Aw ?_ | refine Ax ?_ | (refine AJ (Ab 110) ?_; first | refine Ag (Ab 110) ?_ | refine Ao (Ak 110) ?_ | (refine Aj (Ad _ 110) ?_ ?_ <;> intro _ <;> (try (exfalso; omega))) | (refine Ap (Ad _ 110) ?_ ?_ <;> intro _)) | (refine AJ (Ab 290) ?_; first | refine Ag (Ab 290) ?_ | refine Ao (Ak 290) ?_ | (refine Aj (Ad _ 290) ?_ ?_ <;> intro _ <;> (try (exfalso; omega))) | (refine Ap (Ad _ 290) ?_ ?_ <;> intro _))) | refine Ah ?_ | refine nc ?_ ?_ | (with_reducible intro _ <;> (try (exfalso; omega))) | refine Aa ?_ | (refine nd ?_ ?_ <;> intro hg <;> first | exact xo hg | rw [hg]))
  all_goals exact CA rfl (Ay [])
 ·have c1 := F7 k t
  have hk8 := k.toNat_lt
  intro B
  refine CI fun M => ?_
  repeat' (first | refine Ai ?_ | (refine As ?_; first | refine Am [(1, none)] c1 ?_ | refine Ae 185 fun _ => ?_ | refine Ae 220 fun _ => ?_ | refine Ar ?_ | refine Aw ?_ | refine Ax ?_ | (refine AJ (Ab 110) ?_; first | refine Ag (Ab 110) ?_ | refine Ao (Ak 110) ?_ | (refine Aj (Ad _ 110) ?_ ?_ <;> intro _ <;> (try (exfalso; omega))) | (refine Ap (Ad _ 110) ?_ ?_ <;> intro _)) | (refine AJ (Ab 290) ?_; first | refine Ag (Ab 290) ?_ | refine Ao (Ak 290) ?_ | (refine Aj (Ad _ 290) ?_ ?_ <;> intro _ <;> (try (exfalso; omega))) | (refine Ap (Ad _ 290) ?_ ?_ <;> intro _))) | refine Ah ?_ | refine nc ?_ ?_ | (with_reducible intro _ <;> (try (exfalso; omega))) | refine Aa ?_ | (refine nd ?_ ?_ <;> intro hg <;> first | exact xo hg | rw [hg]))
  all_goals exact CA (show Da (k :: t) = .error 290 by simp only [Da]; rw [if_neg hk]) (Ay [])
 ·have c1 := F7 k t
  have hk8 := k.toNat_lt
  have ci := X2 (px := BY) (i := Ba.zero) (k := (k.toNat : Int)) (x := 0) (y := 0) (x2 := 0) (y2 := 0) (z := 0) (c := BO.zero) (w := 0) (h := 0) (tg := Ba.zero) t hi
  intro B
  refine CI fun M => ?_
  repeat' (first | refine Ai ?_ | (refine As ?_; first | refine Am [(1, none)] c1 ?_ | refine Am [(0, none), (1, none)] ci ?_ | refine Ae 185 fun _ => ?_ | refine Ae 220 fun _ => ?_ | refine Ar ?_ | refine Aw ?_ | refine Ax ?_ | (refine AJ (Ab 110) ?_; first | refine Ag (Ab 110) ?_ | refine Ao (Ak 110) ?_ | (refine Aj (Ad _ 110) ?_ ?_ <;> intro _ <;> (try (exfalso; omega))) | (refine Ap (Ad _ 110) ?_ ?_ <;> intro _)) | (refine AJ (Ab 290) ?_; first | refine Ag (Ab 290) ?_ | refine Ao (Ak 290) ?_ | (refine Aj (Ad _ 290) ?_ ?_ <;> intro _ <;> (try (exfalso; omega))) | (refine Ap (Ad _ 290) ?_ ?_ <;> intro _))) | refine Ah ?_ | refine nc ?_ ?_ | (with_reducible intro _ <;> (try (exfalso; omega))) | refine Aa ?_ | (refine nd ?_ ?_ <;> intro hg <;> first | exact xo hg | rw [hg]))
  all_goals exact CA (show Da (k :: t) = .error 110 by simp only [Da]; rw [if_pos hk, hi]) (Ay [])
theorem Uo {n : Nat} {b t : List UInt8} {l : List BO} (h : EX n b = some (l, t)) : l.length = n := (V3 n h).2
theorem OL {b t : List UInt8} {w h : Nat} {l : List BO} (he : Er b = .ok ((w, h, l), t)) : l.length ≤ 64 := by
 simp only [Er] at he
 split at he
 ·cases he
 ·rename_i w' b1 h1
  split at he
  ·cases he
  ·rename_i h' b2 h2
   split at he
   ·cases he
   ·rename_i l' b3 h3
    simp only [Except.ok.injEq, Prod.mk.injEq] at he
    obtain ⟨⟨rfl, rfl, rfl⟩, rfl⟩ := he
    rw [Uo h3]
    exact Nat.mul_le_mul (KD h1).2.2 (KD h2).2.2

set_option maxRecDepth 20000
set_option maxRecDepth 10000
theorem Ab0 (k : UInt8) (t b : List UInt8) (i : Ba) (hk : k.toNat = 1 ∨ k.toNat = 2) (hi : D6 t = some (i, b)) : VM Tryz.prog 223 2 [.ptr 0 0] [.c 0 0 (Mw (.ptr 1 0) Cp), .c 1 0 (E5 (k :: t))] 2 (Xf (k :: t)) := by
 have hk8 := k.toNat_lt
 have hidx : (Hx.map V.d)[((k.toNat : Nat) : Int).toNat * 1]? = some (.d (.sl false true SC)) := by rcases hk with hk | hk <;> (rw [hk]; rfl)
 have hln : SC.length = 4 := rfl
 have hr := K8 (k := k) (by omega) hi
 simp only [AR] at hr
 have cf := Gf
 have c1 := F7 k t
 have ci := Lv (px := BY) (i := Ba.zero) (k := (k.toNat : Int)) (x := 0) (y := 0) (x2 := 0) (y2 := 0) (z := 0) (c := BO.zero) (w := 0) (h := 0) (tg := Ba.zero) t b i hi
 rw [if_pos (show (k.toNat : Int) ≤ 6 by omega)] at hr
 intro B
 refine CI fun M => ?_
 repeat' (first | refine Ai ?_ | (refine As ?_; first | refine Am [(1, none)] c1 ?_ | refine Am [(0, none), (1, none)] ci ?_ | refine cz (cf) ?_ | refine Ae 185 fun _ => ?_ | refine Ae 220 fun _ => ?_ | refine Ar ?_ | refine Aw ?_ | refine Ax ?_ | (refine AJ (Ab 110) ?_; first | refine Ag (Ab 110) ?_ | refine Ao (Ak 110) ?_ | (refine Aj (Ad _ 110) ?_ ?_ <;> intro _ <;> (try (exfalso; omega))) | (refine Ap (Ad _ 110) ?_ ?_ <;> intro _)) | (refine AJ (Ab 290) ?_; first | refine Ag (Ab 290) ?_ | refine Ao (Ak 290) ?_ | (refine Aj (Ad _ 290) ?_ ?_ <;> intro _ <;> (try (exfalso; omega))) | (refine Ap (Ad _ 290) ?_ ?_ <;> intro _))) | refine Ah ?_ | refine nc ?_ ?_ | (with_reducible intro _ <;> (try (exfalso; omega))) | refine Aa ?_ | (refine nd ?_ ?_ <;> intro hg <;> first | exact xo hg | rw [hg]))
 refine AB 5 ?_
 repeat' (first | refine Ai ?_ | refine Ah ?_ | refine nc ?_ ?_ | (with_reducible intro _ <;> (try (exfalso; omega))) | refine Aa ?_ | (refine nd ?_ ?_ <;> intro hg <;> first | exact xo hg | rw [hg]))
 cases e1 : Ck b with
 | none =>
  rw [e1] at hr
  refine Am [(0, none), (1, none)] (I9 (px := BY) (i := i) (k := (k.toNat : Int)) (x := 0) (y := 0) (x2 := 0) (y2 := 0) (z := 0) (c := BO.zero) (w := 0) (h := 0) (tg := Ba.zero) b e1) ?_
  repeat' (first | refine Ai ?_ | refine Ah ?_ | refine nc ?_ ?_ | (with_reducible intro _ <;> (try (exfalso; omega))) | refine Aa ?_ | (refine nd ?_ ?_ <;> intro hg <;> first | exact xo hg | rw [hg]))
  all_goals exact CA hr (Ay [])
 | some q =>
 match b, e1 with
 | u1 :: v1 :: b1, e1 =>
 have hu1 := u1.toNat_lt
 have hv1 := v1.toNat_lt
 rw [show Ck (u1 :: v1 :: b1) = some (((u1.toNat : Int) + -64, (v1.toNat : Int) + -64), b1) from rfl] at hr
 simp only at hr
 refine Am [(0, none), (1, none)] (KB (px := BY) (i := i) (k := (k.toNat : Int)) (x := 0) (y := 0) (x2 := 0) (y2 := 0) (z := 0) (c := BO.zero) (w := 0) (h := 0) (tg := Ba.zero) u1 v1 b1) ?_
 clear e1
 repeat' (first | refine Ai ?_ | refine Ah ?_ | refine nc ?_ ?_ | (with_reducible intro _ <;> (try (exfalso; omega))) | refine Aa ?_ | (refine nd ?_ ?_ <;> intro hg <;> first | exact xo hg | rw [hg]))
 rw [if_pos (show (k.toNat : Int) ≤ 4 by omega)] at hr
 cases e2 : Ck b1 with
 | none =>
  rw [e2] at hr
  refine Am [(0, none), (1, none)] (TC (px := BY) (i := i) (k := (k.toNat : Int)) (x := ((u1.toNat : Int) + -64)) (y := ((v1.toNat : Int) + -64)) (x2 := 0) (y2 := 0) (z := 0) (c := BO.zero) (w := 0) (h := 0) (tg := Ba.zero) b1 e2) ?_
  repeat' (first | refine Ai ?_ | refine Ah ?_ | refine nc ?_ ?_ | (with_reducible intro _ <;> (try (exfalso; omega))) | refine Aa ?_ | (refine nd ?_ ?_ <;> intro hg <;> first | exact xo hg | rw [hg]))
  all_goals exact CA hr (Ay [])
 | some q =>
 match b1, e2 with
 | u2 :: v2 :: b2, e2 =>
 have hu2 := u2.toNat_lt
 have hv2 := v2.toNat_lt
 rw [show Ck (u2 :: v2 :: b2) = some (((u2.toNat : Int) + -64, (v2.toNat : Int) + -64), b2) from rfl] at hr
 simp only at hr
 refine Am [(0, none), (1, none)] (Yu (px := BY) (i := i) (k := (k.toNat : Int)) (x := ((u1.toNat : Int) + -64)) (y := ((v1.toNat : Int) + -64)) (x2 := 0) (y2 := 0) (z := 0) (c := BO.zero) (w := 0) (h := 0) (tg := Ba.zero) u2 v2 b2) ?_
 clear e2
 repeat' (first | refine Ai ?_ | refine Ah ?_ | refine nc ?_ ?_ | (with_reducible intro _ <;> (try (exfalso; omega))) | refine Aa ?_ | (refine nd ?_ ?_ <;> intro hg <;> first | exact xo hg | rw [hg]))
 rw [if_pos (show (k.toNat : Int) ≤ 2 by omega)] at hr
 cases e3 : Dh b2 with
 | none =>
  rw [e3] at hr
  refine Am [(0, none), (1, none)] (Oy (px := BY) (i := i) (k := (k.toNat : Int)) (x := ((u1.toNat : Int) + -64)) (y := ((v1.toNat : Int) + -64)) (x2 := ((u2.toNat : Int) + -64)) (y2 := ((v2.toNat : Int) + -64)) (z := 0) (c := BO.zero) (w := 0) (h := 0) (tg := Ba.zero) b2 e3) ?_
  repeat' (first | refine Ai ?_ | refine Ah ?_ | refine nc ?_ ?_ | (with_reducible intro _ <;> (try (exfalso; omega))) | refine Aa ?_ | (refine nd ?_ ?_ <;> intro hg <;> first | exact xo hg | rw [hg]))
  all_goals exact CA hr (Ay [])
 | some q =>
 match b2, e3 with
 | u3 :: v3 :: b3, e3 =>
 rw [show Dh (u3 :: v3 :: b3) = some (256 * u3.toNat + v3.toNat, b3) from rfl] at hr
 simp only at hr
 refine Am [(0, none), (1, none)] (QV (px := BY) (i := i) (k := (k.toNat : Int)) (x := ((u1.toNat : Int) + -64)) (y := ((v1.toNat : Int) + -64)) (x2 := ((u2.toNat : Int) + -64)) (y2 := ((v2.toNat : Int) + -64)) (z := 0) (c := BO.zero) (w := 0) (h := 0) (tg := Ba.zero) u3 v3 b3) ?_
 clear e3
 repeat' (first | refine Ai ?_ | refine Ah ?_ | refine nc ?_ ?_ | (with_reducible intro _ <;> (try (exfalso; omega))) | refine Aa ?_ | (refine nd ?_ ?_ <;> intro hg <;> first | exact xo hg | rw [hg]))
 cases e4 : Bs b3 with
 | none =>
  rw [e4] at hr
  refine Am [(0, none), (1, none)] (JP (px := BY) (i := i) (k := (k.toNat : Int)) (x := ((u1.toNat : Int) + -64)) (y := ((v1.toNat : Int) + -64)) (x2 := ((u2.toNat : Int) + -64)) (y2 := ((v2.toNat : Int) + -64)) (z := ((256 * u3.toNat + v3.toNat : Nat) : Int)) (c := BO.zero) (w := 0) (h := 0) (tg := Ba.zero) b3 e4) ?_
  repeat' (first | refine Ai ?_ | refine Ah ?_ | refine nc ?_ ?_ | (with_reducible intro _ <;> (try (exfalso; omega))) | refine Aa ?_ | (refine nd ?_ ?_ <;> intro hg <;> first | exact xo hg | rw [hg]))
  all_goals exact CA hr (Ay [])
 | some q =>
 match b3, e4 with
 | r :: gg :: bl :: a :: b4, e4 =>
 rw [show Bs (r :: gg :: bl :: a :: b4) = some (⟨r, gg, bl, a⟩, b4) from rfl] at hr
 simp only at hr
 refine Am [(0, none), (1, none)] (LI (px := BY) (i := i) (k := (k.toNat : Int)) (x := ((u1.toNat : Int) + -64)) (y := ((v1.toNat : Int) + -64)) (x2 := ((u2.toNat : Int) + -64)) (y2 := ((v2.toNat : Int) + -64)) (z := ((256 * u3.toNat + v3.toNat : Nat) : Int)) (c := BO.zero) (w := 0) (h := 0) (tg := Ba.zero) r gg bl a b4) ?_
 clear e4
 obtain ⟨o, ho⟩ : ∃ o : A5, o = ⟨i, (k.toNat : Int), ((u1.toNat : Int) + -64), ((v1.toNat : Int) + -64), ((u2.toNat : Int) + -64), ((v2.toNat : Int) + -64), ((256 * u3.toNat + v3.toNat : Nat) : Int), ⟨r, gg, bl, a⟩, 0, 0, [], Ba.zero⟩ := ⟨_, rfl⟩
 have co := EG o (by rw [ho]; simp)
 have hr2 : Da (k :: t) = if Dr o then .ok (o, b4) else .error 290 := by rw [hr, ho]; rfl
 clear hr
 cases hB : Dr o with
 | false =>
  rw [hB] at co hr2
  simp only [Bool.false_eq_true, if_false] at co hr2
  rw [ho] at co
  simp only [oD, C6, List.map_nil] at co
  repeat' (first | refine Ai ?_ | (refine As ?_; first | refine cz (co) ?_ | (refine AJ (Ab 290) ?_; first | refine Ag (Ab 290) ?_ | refine Ao (Ak 290) ?_ | (refine Aj (Ad _ 290) ?_ ?_ <;> intro _ <;> (try (exfalso; omega))) | (refine Ap (Ad _ 290) ?_ ?_ <;> intro _))) | refine Ah ?_ | refine nc ?_ ?_ | (with_reducible intro _ <;> (try (exfalso; omega))) | refine Aa ?_ | (refine nd ?_ ?_ <;> intro hg <;> first | exact xo hg | rw [hg]))
  all_goals exact CA hr2 (Ay [])
 | true =>
  rw [hB] at co hr2
  simp only [if_true] at co hr2
  rw [ho] at co hr2
  simp only [oD, C6, List.map_nil] at co
  repeat' (first | refine Ai ?_ | (refine As ?_; first | refine cz (co) ?_ | (refine AJ (Ab 290) ?_; first | refine Ag (Ab 290) ?_ | refine Ao (Ak 290) ?_ | (refine Aj (Ad _ 290) ?_ ?_ <;> intro _ <;> (try (exfalso; omega))) | (refine Ap (Ad _ 290) ?_ ?_ <;> intro _))) | refine Ah ?_ | refine nc ?_ ?_ | (with_reducible intro _ <;> (try (exfalso; omega))) | refine Aa ?_ | (refine nd ?_ ?_ <;> intro hg <;> first | exact xo hg | rw [hg]))
  all_goals (refine K9 hr2 ?_; simp only [oM, C6, List.map_nil]; exact GE [])
theorem AbZ (k : UInt8) (t b : List UInt8) (i : Ba) (hk : k.toNat = 3 ∨ k.toNat = 4) (hi : D6 t = some (i, b)) : VM Tryz.prog 223 2 [.ptr 0 0] [.c 0 0 (Mw (.ptr 1 0) Cp), .c 1 0 (E5 (k :: t))] 2 (Xf (k :: t)) := by
 have hk8 := k.toNat_lt
 have hidx : (Hx.map V.d)[((k.toNat : Nat) : Int).toNat * 1]? = some (.d (.sl false true SB)) := by rcases hk with hk | hk <;> (rw [hk]; rfl)
 have hln : SB.length = 3 := rfl
 have hr := K8 (k := k) (by omega) hi
 simp only [AR] at hr
 have cf := Gf
 have c1 := F7 k t
 have ci := Lv (px := BY) (i := Ba.zero) (k := (k.toNat : Int)) (x := 0) (y := 0) (x2 := 0) (y2 := 0) (z := 0) (c := BO.zero) (w := 0) (h := 0) (tg := Ba.zero) t b i hi
 rw [if_pos (show (k.toNat : Int) ≤ 6 by omega)] at hr
 intro B
 refine CI fun M => ?_
 repeat' (first | refine Ai ?_ | (refine As ?_; first | refine Am [(1, none)] c1 ?_ | refine Am [(0, none), (1, none)] ci ?_ | refine cz (cf) ?_ | refine Ae 185 fun _ => ?_ | refine Ae 220 fun _ => ?_ | refine Ar ?_ | refine Aw ?_ | refine Ax ?_ | (refine AJ (Ab 110) ?_; first | refine Ag (Ab 110) ?_ | refine Ao (Ak 110) ?_ | (refine Aj (Ad _ 110) ?_ ?_ <;> intro _ <;> (try (exfalso; omega))) | (refine Ap (Ad _ 110) ?_ ?_ <;> intro _)) | (refine AJ (Ab 290) ?_; first | refine Ag (Ab 290) ?_ | refine Ao (Ak 290) ?_ | (refine Aj (Ad _ 290) ?_ ?_ <;> intro _ <;> (try (exfalso; omega))) | (refine Ap (Ad _ 290) ?_ ?_ <;> intro _))) | refine Ah ?_ | refine nc ?_ ?_ | (with_reducible intro _ <;> (try (exfalso; omega))) | refine Aa ?_ | (refine nd ?_ ?_ <;> intro hg <;> first | exact xo hg | rw [hg]))
 refine AB 4 ?_
 repeat' (first | refine Ai ?_ | refine Ah ?_ | refine nc ?_ ?_ | (with_reducible intro _ <;> (try (exfalso; omega))) | refine Aa ?_ | (refine nd ?_ ?_ <;> intro hg <;> first | exact xo hg | rw [hg]))
 cases e1 : Ck b with
 | none =>
  rw [e1] at hr
  refine Am [(0, none), (1, none)] (I9 (px := BY) (i := i) (k := (k.toNat : Int)) (x := 0) (y := 0) (x2 := 0) (y2 := 0) (z := 0) (c := BO.zero) (w := 0) (h := 0) (tg := Ba.zero) b e1) ?_
  repeat' (first | refine Ai ?_ | refine Ah ?_ | refine nc ?_ ?_ | (with_reducible intro _ <;> (try (exfalso; omega))) | refine Aa ?_ | (refine nd ?_ ?_ <;> intro hg <;> first | exact xo hg | rw [hg]))
  all_goals exact CA hr (Ay [])
 | some q =>
 match b, e1 with
 | u1 :: v1 :: b1, e1 =>
 have hu1 := u1.toNat_lt
 have hv1 := v1.toNat_lt
 rw [show Ck (u1 :: v1 :: b1) = some (((u1.toNat : Int) + -64, (v1.toNat : Int) + -64), b1) from rfl] at hr
 simp only at hr
 refine Am [(0, none), (1, none)] (KB (px := BY) (i := i) (k := (k.toNat : Int)) (x := 0) (y := 0) (x2 := 0) (y2 := 0) (z := 0) (c := BO.zero) (w := 0) (h := 0) (tg := Ba.zero) u1 v1 b1) ?_
 clear e1
 repeat' (first | refine Ai ?_ | refine Ah ?_ | refine nc ?_ ?_ | (with_reducible intro _ <;> (try (exfalso; omega))) | refine Aa ?_ | (refine nd ?_ ?_ <;> intro hg <;> first | exact xo hg | rw [hg]))
 rw [if_pos (show (k.toNat : Int) ≤ 4 by omega)] at hr
 cases e2 : Ck b1 with
 | none =>
  rw [e2] at hr
  refine Am [(0, none), (1, none)] (TC (px := BY) (i := i) (k := (k.toNat : Int)) (x := ((u1.toNat : Int) + -64)) (y := ((v1.toNat : Int) + -64)) (x2 := 0) (y2 := 0) (z := 0) (c := BO.zero) (w := 0) (h := 0) (tg := Ba.zero) b1 e2) ?_
  repeat' (first | refine Ai ?_ | refine Ah ?_ | refine nc ?_ ?_ | (with_reducible intro _ <;> (try (exfalso; omega))) | refine Aa ?_ | (refine nd ?_ ?_ <;> intro hg <;> first | exact xo hg | rw [hg]))
  all_goals exact CA hr (Ay [])
 | some q =>
 match b1, e2 with
 | u2 :: v2 :: b2, e2 =>
 have hu2 := u2.toNat_lt
 have hv2 := v2.toNat_lt
 rw [show Ck (u2 :: v2 :: b2) = some (((u2.toNat : Int) + -64, (v2.toNat : Int) + -64), b2) from rfl] at hr
 simp only at hr
 refine Am [(0, none), (1, none)] (Yu (px := BY) (i := i) (k := (k.toNat : Int)) (x := ((u1.toNat : Int) + -64)) (y := ((v1.toNat : Int) + -64)) (x2 := 0) (y2 := 0) (z := 0) (c := BO.zero) (w := 0) (h := 0) (tg := Ba.zero) u2 v2 b2) ?_
 clear e2
 repeat' (first | refine Ai ?_ | refine Ah ?_ | refine nc ?_ ?_ | (with_reducible intro _ <;> (try (exfalso; omega))) | refine Aa ?_ | (refine nd ?_ ?_ <;> intro hg <;> first | exact xo hg | rw [hg]))
 rw [if_neg (show ¬ (k.toNat : Int) ≤ 2 by omega)] at hr
 cases e3 : Bs b2 with
 | none =>
  rw [e3] at hr
  refine Am [(0, none), (1, none)] (JP (px := BY) (i := i) (k := (k.toNat : Int)) (x := ((u1.toNat : Int) + -64)) (y := ((v1.toNat : Int) + -64)) (x2 := ((u2.toNat : Int) + -64)) (y2 := ((v2.toNat : Int) + -64)) (z := 0) (c := BO.zero) (w := 0) (h := 0) (tg := Ba.zero) b2 e3) ?_
  repeat' (first | refine Ai ?_ | refine Ah ?_ | refine nc ?_ ?_ | (with_reducible intro _ <;> (try (exfalso; omega))) | refine Aa ?_ | (refine nd ?_ ?_ <;> intro hg <;> first | exact xo hg | rw [hg]))
  all_goals exact CA hr (Ay [])
 | some q =>
 match b2, e3 with
 | r :: gg :: bl :: a :: b3, e3 =>
 rw [show Bs (r :: gg :: bl :: a :: b3) = some (⟨r, gg, bl, a⟩, b3) from rfl] at hr
 simp only at hr
 refine Am [(0, none), (1, none)] (LI (px := BY) (i := i) (k := (k.toNat : Int)) (x := ((u1.toNat : Int) + -64)) (y := ((v1.toNat : Int) + -64)) (x2 := ((u2.toNat : Int) + -64)) (y2 := ((v2.toNat : Int) + -64)) (z := 0) (c := BO.zero) (w := 0) (h := 0) (tg := Ba.zero) r gg bl a b3) ?_
 clear e3
 obtain ⟨o, ho⟩ : ∃ o : A5, o = ⟨i, (k.toNat : Int), ((u1.toNat : Int) + -64), ((v1.toNat : Int) + -64), ((u2.toNat : Int) + -64), ((v2.toNat : Int) + -64), 0, ⟨r, gg, bl, a⟩, 0, 0, [], Ba.zero⟩ := ⟨_, rfl⟩
 have co := EG o (by rw [ho]; simp)
 have hr2 : Da (k :: t) = if Dr o then .ok (o, b3) else .error 290 := by rw [hr, ho]; rfl
 clear hr
 cases hB : Dr o with
 | false =>
  rw [hB] at co hr2
  simp only [Bool.false_eq_true, if_false] at co hr2
  rw [ho] at co
  simp only [oD, C6, List.map_nil] at co
  repeat' (first | refine Ai ?_ | (refine As ?_; first | refine cz (co) ?_ | (refine AJ (Ab 290) ?_; first | refine Ag (Ab 290) ?_ | refine Ao (Ak 290) ?_ | (refine Aj (Ad _ 290) ?_ ?_ <;> intro _ <;> (try (exfalso; omega))) | (refine Ap (Ad _ 290) ?_ ?_ <;> intro _))) | refine Ah ?_ | refine nc ?_ ?_ | (with_reducible intro _ <;> (try (exfalso; omega))) | refine Aa ?_ | (refine nd ?_ ?_ <;> intro hg <;> first | exact xo hg | rw [hg]))
  all_goals exact CA hr2 (Ay [])
 | true =>
  rw [hB] at co hr2
  simp only [if_true] at co hr2
  rw [ho] at co hr2
  simp only [oD, C6, List.map_nil] at co
  repeat' (first | refine Ai ?_ | (refine As ?_; first | refine cz (co) ?_ | (refine AJ (Ab 290) ?_; first | refine Ag (Ab 290) ?_ | refine Ao (Ak 290) ?_ | (refine Aj (Ad _ 290) ?_ ?_ <;> intro _ <;> (try (exfalso; omega))) | (refine Ap (Ad _ 290) ?_ ?_ <;> intro _))) | refine Ah ?_ | refine nc ?_ ?_ | (with_reducible intro _ <;> (try (exfalso; omega))) | refine Aa ?_ | (refine nd ?_ ?_ <;> intro hg <;> first | exact xo hg | rw [hg]))
  all_goals (refine K9 hr2 ?_; simp only [oM, C6, List.map_nil]; exact GE [])

end Go.Proofs.YtbgcjnfhadhjeaaGreat