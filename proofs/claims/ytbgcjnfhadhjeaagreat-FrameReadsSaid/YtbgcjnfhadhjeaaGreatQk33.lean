/- Walks by data and names, part 33: Layer 19, by V: colours and ids, read. Layer 19, by V: stamps, read. -/
import Derived.Test.YtbgcjnfhadhjeaaGreatQk32
namespace Go.Proofs.YtbgcjnfhadhjeaaGreat
set_option maxRecDepth 20000
open Go.RowKit
set_option maxRecDepth 10000
set_option maxHeartbeats 4000000
theorem LI {px : D} {i : Ba} {k x y x2 y2 z : Int} {c : BO} {w h : Int} {tg : Ba} (r g b a : UInt8) (t : List UInt8) : Dk Tryz.prog 251 2 [.ptr 0 0] [.c 0 0 (Ko (.ptr 1 0) Cp (.d px) i k x y x2 y2 z c w h tg), .c 1 0 (E5 (r :: g :: b :: a :: t))] 2 (.ret (.tup [])) [.c 0 0 (Ko (.ptr 1 0) Cp (.d px) i k x y x2 y2 z ⟨r, g, b, a⟩ w h tg), .c 1 0 (E5 t)] 2 := by
 have h1 := r.toNat_lt
 have h2 := g.toNat_lt
 have h3 := b.toNat_lt
 have h4 := a.toNat_lt
 have c1 := F7 r (g :: b :: a :: t)
 have c2 := F7 g (b :: a :: t)
 have c3 := F7 b (a :: t)
 have c4 := F7 a t
 refine AH fun B M => ?_
 repeat' (first | refine Ai ?_ | (refine As ?_; first | refine Ae 272 fun _ => ?_ | refine Ar ?_ | refine Aw ?_ | refine Ax ?_) | refine Ah ?_ | refine nc ?_ ?_ | (with_reducible intro _ <;> (try (exfalso; omega))) | refine Aa ?_ | (refine nd ?_ ?_ <;> intro hg <;> first | exact xo hg | rw [hg]))
 refine AB 5 ?_
 repeat' (first | refine Ai ?_ | (refine As ?_; first | refine Am [(1, none)] c1 ?_ | refine Am [(1, none)] c2 ?_ | refine Am [(1, none)] c3 ?_ | refine Am [(1, none)] c4 ?_ | refine Ae 185 fun _ => ?_ | refine Ae 220 fun _ => ?_ | refine Ar ?_ | refine Aw ?_ | refine Ax ?_ | (refine AJ (Ab 110) ?_; first | refine Ag (Ab 110) ?_ | refine Ao (Ak 110) ?_ | (refine Aj (Ad _ 110) ?_ ?_ <;> intro _ <;> (try (exfalso; omega))) | (refine Ap (Ad _ 110) ?_ ?_ <;> intro _))) | refine Ah ?_ | refine nc ?_ ?_ | (with_reducible intro _ <;> (try (exfalso; omega))) | refine Aa ?_ | (refine nd ?_ ?_ <;> intro hg <;> first | exact xo hg | rw [hg]))
 exact A8 []
theorem JP {px : D} {i : Ba} {k x y x2 y2 z : Int} {c : BO} {w h : Int} {tg : Ba} (b : List UInt8) (hb : Bs b = none) : Dk Tryz.prog 251 2 [.ptr 0 0] [.c 0 0 (Ko (.ptr 1 0) Cp (.d px) i k x y x2 y2 z c w h tg), .c 1 0 (E5 b)] 2 (.panic (.d (GM 110))) [.c 0 0 (Mw (.ptr 1 0) Cp), .c 1 0 [.d .any, .d .any]] 2 := by
 match b, hb with
 | [], _ =>
  have cn := H9
  refine AH fun B M => ?_
  repeat' (first | refine Ai ?_ | (refine As ?_; first | refine Ae 272 fun _ => ?_ | refine Ar ?_ | refine Aw ?_ | refine Ax ?_) | refine Ah ?_ | refine nc ?_ ?_ | (with_reducible intro _ <;> (try (exfalso; omega))) | refine Aa ?_ | (refine nd ?_ ?_ <;> intro hg <;> first | exact xo hg | rw [hg]))
  refine AB 5 ?_
  repeat' (first | refine Ai ?_ | (refine As ?_; first | refine Am [(1, none)] cn ?_ | refine Ae 185 fun _ => ?_ | refine Ae 220 fun _ => ?_ | refine Ar ?_ | refine Aw ?_ | refine Ax ?_ | (refine AJ (Ab 110) ?_; first | refine Ag (Ab 110) ?_ | refine Ao (Ak 110) ?_ | (refine Aj (Ad _ 110) ?_ ?_ <;> intro _ <;> (try (exfalso; omega))) | (refine Ap (Ad _ 110) ?_ ?_ <;> intro _))) | refine Ah ?_ | refine nc ?_ ?_ | (with_reducible intro _ <;> (try (exfalso; omega))) | refine Aa ?_ | (refine nd ?_ ?_ <;> intro hg <;> first | exact xo hg | rw [hg]))
  exact Ay []
 | [r], _ =>
  have h1 := r.toNat_lt
  have c1 := F7 r []
  have cn := H9
  refine AH fun B M => ?_
  repeat' (first | refine Ai ?_ | (refine As ?_; first | refine Ae 272 fun _ => ?_ | refine Ar ?_ | refine Aw ?_ | refine Ax ?_) | refine Ah ?_ | refine nc ?_ ?_ | (with_reducible intro _ <;> (try (exfalso; omega))) | refine Aa ?_ | (refine nd ?_ ?_ <;> intro hg <;> first | exact xo hg | rw [hg]))
  refine AB 5 ?_
  repeat' (first | refine Ai ?_ | (refine As ?_; first | refine Am [(1, none)] c1 ?_ | refine Am [(1, none)] cn ?_ | refine Ae 185 fun _ => ?_ | refine Ae 220 fun _ => ?_ | refine Ar ?_ | refine Aw ?_ | refine Ax ?_ | (refine AJ (Ab 110) ?_; first | refine Ag (Ab 110) ?_ | refine Ao (Ak 110) ?_ | (refine Aj (Ad _ 110) ?_ ?_ <;> intro _ <;> (try (exfalso; omega))) | (refine Ap (Ad _ 110) ?_ ?_ <;> intro _))) | refine Ah ?_ | refine nc ?_ ?_ | (with_reducible intro _ <;> (try (exfalso; omega))) | refine Aa ?_ | (refine nd ?_ ?_ <;> intro hg <;> first | exact xo hg | rw [hg]))
  exact Ay []
 | [r, g], _ =>
  have h1 := r.toNat_lt
  have c1 := F7 r [g]
  have h2 := g.toNat_lt
  have c2 := F7 g []
  have cn := H9
  refine AH fun B M => ?_
  repeat' (first | refine Ai ?_ | (refine As ?_; first | refine Ae 272 fun _ => ?_ | refine Ar ?_ | refine Aw ?_ | refine Ax ?_) | refine Ah ?_ | refine nc ?_ ?_ | (with_reducible intro _ <;> (try (exfalso; omega))) | refine Aa ?_ | (refine nd ?_ ?_ <;> intro hg <;> first | exact xo hg | rw [hg]))
  refine AB 5 ?_
  repeat' (first | refine Ai ?_ | (refine As ?_; first | refine Am [(1, none)] c1 ?_ | refine Am [(1, none)] c2 ?_ | refine Am [(1, none)] cn ?_ | refine Ae 185 fun _ => ?_ | refine Ae 220 fun _ => ?_ | refine Ar ?_ | refine Aw ?_ | refine Ax ?_ | (refine AJ (Ab 110) ?_; first | refine Ag (Ab 110) ?_ | refine Ao (Ak 110) ?_ | (refine Aj (Ad _ 110) ?_ ?_ <;> intro _ <;> (try (exfalso; omega))) | (refine Ap (Ad _ 110) ?_ ?_ <;> intro _))) | refine Ah ?_ | refine nc ?_ ?_ | (with_reducible intro _ <;> (try (exfalso; omega))) | refine Aa ?_ | (refine nd ?_ ?_ <;> intro hg <;> first | exact xo hg | rw [hg]))
  exact Ay []
 | [r, g, b], _ =>
  have h1 := r.toNat_lt
  have c1 := F7 r [g, b]
  have h2 := g.toNat_lt
  have c2 := F7 g [b]
  have h3 := b.toNat_lt
  have c3 := F7 b []
  have cn := H9
  refine AH fun B M => ?_
  repeat' (first | refine Ai ?_ | (refine As ?_; first | refine Ae 272 fun _ => ?_ | refine Ar ?_ | refine Aw ?_ | refine Ax ?_) | refine Ah ?_ | refine nc ?_ ?_ | (with_reducible intro _ <;> (try (exfalso; omega))) | refine Aa ?_ | (refine nd ?_ ?_ <;> intro hg <;> first | exact xo hg | rw [hg]))
  refine AB 5 ?_
  repeat' (first | refine Ai ?_ | (refine As ?_; first | refine Am [(1, none)] c1 ?_ | refine Am [(1, none)] c2 ?_ | refine Am [(1, none)] c3 ?_ | refine Am [(1, none)] cn ?_ | refine Ae 185 fun _ => ?_ | refine Ae 220 fun _ => ?_ | refine Ar ?_ | refine Aw ?_ | refine Ax ?_ | (refine AJ (Ab 110) ?_; first | refine Ag (Ab 110) ?_ | refine Ao (Ak 110) ?_ | (refine Aj (Ad _ 110) ?_ ?_ <;> intro _ <;> (try (exfalso; omega))) | (refine Ap (Ad _ 110) ?_ ?_ <;> intro _))) | refine Ah ?_ | refine nc ?_ ?_ | (with_reducible intro _ <;> (try (exfalso; omega))) | refine Aa ?_ | (refine nd ?_ ?_ <;> intro hg <;> first | exact xo hg | rw [hg]))
  exact Ay []
theorem Rb {b t : List UInt8} {i : Ba} (h : D6 b = some (i, t)) : 17 ≤ b.length ∧ i = ⟨AV (b.take 8), AV ((b.drop 8).take 1), AV ((b.drop 9).take 8)⟩ ∧ t = b.drop 17 := by
 simp only [D6] at h
 split at h
 ·simp only [Option.some.injEq, Prod.mk.injEq] at h
  exact ⟨by assumption, h.1.symm, h.2.symm⟩
 ·cases h
theorem Ra {b : List UInt8} (h : D6 b = none) : b.length < 17 := by
 simp only [D6] at h
 split at h
 ·cases h
 ·omega
theorem Xk (b : List UInt8) (h : 9 ≤ b.length) : Dk Tryz.prog 219 1 [.ptr 0 0, .d (An 1)] [.c 0 0 (E5 (b.drop 8))] 1 (.ret (.d (AK (AV ((b.drop 8).take 1))))) [.c 0 0 (E5 (b.drop 9))] 1 := by
 have c := DI true (b.drop 8) 1 (by omega) (by simp; omega)
 rw [List.drop_drop] at c
 exact c
theorem Yz (b : List UInt8) (h : ¬ 9 ≤ b.length) : Dk Tryz.prog 219 1 [.ptr 0 0, .d (An 1)] [.c 0 0 (E5 (b.drop 8))] 1 (.ret (.d (AK 0))) [.c 0 0 [.d (.sl false true (AG (b.drop 8))), .d (An 110)]] 1 := CY true (b.drop 8) 1 (by omega) (by simp; omega)
theorem Ku (b : List UInt8) : AV (b.take 1) < 256 := by
 have h1 := HR (b.take 1)
 have h2 : 256 ^ (b.take 1).length ≤ 256 ^ 1 := Nat.pow_le_pow_right (by omega) (by simp; omega)
 omega
theorem Lv {px : D} {i : Ba} {k x y x2 y2 z : Int} {c : BO} {w h : Int} {tg : Ba} (b t : List UInt8) (i' : Ba) (hb : D6 b = some (i', t)) : Dk Tryz.prog 257 2 [.ptr 0 0, .ptr 0 1] [.c 0 0 (Ko (.ptr 1 0) Cp (.d px) i k x y x2 y2 z c w h tg), .c 1 0 (E5 b)] 2 (.ret (.tup [])) [.c 0 0 (Ko (.ptr 1 0) Cp (.d px) i' k x y x2 y2 z c w h tg), .c 1 0 (E5 t)] 2 := by
 obtain ⟨hl, rfl, rfl⟩ := Rb hb
 have hn := Ku (b.drop 8)
 have c1 := rd8 b (by omega)
 have c2 := Xk b (by omega)
 have c3 := rd8 (b.drop 9) (by simp; omega)
 rw [List.drop_drop] at c3
 generalize AV (b.take 8) = n1 at *
 generalize AV ((b.drop 8).take 1) = n2 at *
 generalize AV ((b.drop 9).take 8) = n3 at *
 refine AH fun B M => ?_
 repeat' (first | refine Ai ?_ | (refine As ?_; first | refine Am [(1, none)] c1 ?_ | refine Am [(1, none)] c2 ?_ | refine Am [(1, none)] c3 ?_ | refine Ae 185 fun _ => ?_ | refine Ae 220 fun _ => ?_ | refine Ar ?_ | refine Aw ?_ | refine Ax ?_ | (refine AJ (Ab 110) ?_; first | refine Ag (Ab 110) ?_ | refine Ao (Ak 110) ?_ | (refine Aj (Ad _ 110) ?_ ?_ <;> intro _ <;> (try (exfalso; omega))) | (refine Ap (Ad _ 110) ?_ ?_ <;> intro _))) | refine Ah ?_ | refine nc ?_ ?_ | (with_reducible intro _ <;> (try (exfalso; omega))) | refine Aa ?_ | (refine nd ?_ ?_ <;> intro hg <;> first | exact xo hg | rw [hg]))
 exact A8 []
theorem X2 {px : D} {i : Ba} {k x y x2 y2 z : Int} {c : BO} {w h : Int} {tg : Ba} (b : List UInt8) (hb : D6 b = none) : Dk Tryz.prog 257 2 [.ptr 0 0, .ptr 0 1] [.c 0 0 (Ko (.ptr 1 0) Cp (.d px) i k x y x2 y2 z c w h tg), .c 1 0 (E5 b)] 2 (.panic (.d (GM 110))) [.c 0 0 (Mw (.ptr 1 0) Cp), .c 1 0 [.d .any, .d .any]] 2 := by
 have hl := Ra hb
 have hn := Ku (b.drop 8)
 by_cases h1 : 8 ≤ b.length
 ·have c1 := rd8 b h1
  by_cases h2 : 9 ≤ b.length
  ·have c2 := Xk b h2
   have c3 := Xj (b.drop 9) (by simp; omega)
   generalize AV (b.take 8) = n1 at *
   generalize AV ((b.drop 8).take 1) = n2 at *
   refine AH fun B M => ?_
   repeat' (first | refine Ai ?_ | (refine As ?_; first | refine Am [(1, none)] c1 ?_ | refine Am [(1, none)] c2 ?_ | refine Am [(1, none)] c3 ?_ | refine Ae 185 fun _ => ?_ | refine Ae 220 fun _ => ?_ | refine Ar ?_ | refine Aw ?_ | refine Ax ?_ | (refine AJ (Ab 110) ?_; first | refine Ag (Ab 110) ?_ | refine Ao (Ak 110) ?_ | (refine Aj (Ad _ 110) ?_ ?_ <;> intro _ <;> (try (exfalso; omega))) | (refine Ap (Ad _ 110) ?_ ?_ <;> intro _))) | refine Ah ?_ | refine nc ?_ ?_ | (with_reducible intro _ <;> (try (exfalso; omega))) | refine Aa ?_ | (refine nd ?_ ?_ <;> intro hg <;> first | exact xo hg | rw [hg]))
   exact Ay []
  ·have c2 := Yz b h2
   generalize AV (b.take 8) = n1 at *
   refine AH fun B M => ?_
   repeat' (first | refine Ai ?_ | (refine As ?_; first | refine Am [(1, none)] c1 ?_ | refine Am [(1, none)] c2 ?_ | refine Ae 185 fun _ => ?_ | refine Ae 220 fun _ => ?_ | refine Ar ?_ | refine Aw ?_ | refine Ax ?_ | (refine AJ (Ab 110) ?_; first | refine Ag (Ab 110) ?_ | refine Ao (Ak 110) ?_ | (refine Aj (Ad _ 110) ?_ ?_ <;> intro _ <;> (try (exfalso; omega))) | (refine Ap (Ad _ 110) ?_ ?_ <;> intro _))) | refine Ah ?_ | refine nc ?_ ?_ | (with_reducible intro _ <;> (try (exfalso; omega))) | refine Aa ?_ | (refine nd ?_ ?_ <;> intro hg <;> first | exact xo hg | rw [hg]))
   exact Ay []
 ·have c1 := Xj b h1
  refine AH fun B M => ?_
  repeat' (first | refine Ai ?_ | (refine As ?_; first | refine Am [(1, none)] c1 ?_ | refine Ae 185 fun _ => ?_ | refine Ae 220 fun _ => ?_ | refine Ar ?_ | refine Aw ?_ | refine Ax ?_ | (refine AJ (Ab 110) ?_; first | refine Ag (Ab 110) ?_ | refine Ao (Ak 110) ?_ | (refine Aj (Ad _ 110) ?_ ?_ <;> intro _ <;> (try (exfalso; omega))) | (refine Ap (Ad _ 110) ?_ ?_ <;> intro _))) | refine Ah ?_ | refine nc ?_ ?_ | (with_reducible intro _ <;> (try (exfalso; omega))) | refine Aa ?_ | (refine nd ?_ ?_ <;> intro hg <;> first | exact xo hg | rw [hg]))
  exact Ay []
theorem R3 {px : D} {i : Ba} {k x y x2 y2 z : Int} {c : BO} {w h : Int} {tg : Ba} (b t : List UInt8) (i' : Ba) (hb : D6 b = some (i', t)) : Dk Tryz.prog 252 2 [.ptr 0 0] [.c 0 0 (Ko (.ptr 1 0) Cp (.d px) i k x y x2 y2 z c w h tg), .c 1 0 (E5 b)] 2 (.ret (.tup [])) [.c 0 0 (Ko (.ptr 1 0) Cp (.d px) i k x y x2 y2 z c w h i'), .c 1 0 (E5 t)] 2 := by
 obtain ⟨hl, rfl, rfl⟩ := Rb hb
 have hn := Ku (b.drop 8)
 have c1 := rd8 b (by omega)
 have c2 := Xk b (by omega)
 have c3 := rd8 (b.drop 9) (by simp; omega)
 rw [List.drop_drop] at c3
 generalize AV (b.take 8) = n1 at *
 generalize AV ((b.drop 8).take 1) = n2 at *
 generalize AV ((b.drop 9).take 8) = n3 at *
 refine AH fun B M => ?_
 repeat' (first | refine Ai ?_ | (refine As ?_; first | refine Am [(1, none)] c1 ?_ | refine Am [(1, none)] c2 ?_ | refine Am [(1, none)] c3 ?_ | refine Ae 185 fun _ => ?_ | refine Ae 220 fun _ => ?_ | refine Ar ?_ | refine Aw ?_ | refine Ax ?_ | (refine AJ (Ab 110) ?_; first | refine Ag (Ab 110) ?_ | refine Ao (Ak 110) ?_ | (refine Aj (Ad _ 110) ?_ ?_ <;> intro _ <;> (try (exfalso; omega))) | (refine Ap (Ad _ 110) ?_ ?_ <;> intro _)) | refine Ae 257 fun _ => ?_) | refine Ah ?_ | refine nc ?_ ?_ | (with_reducible intro _ <;> (try (exfalso; omega))) | refine Aa ?_ | (refine nd ?_ ?_ <;> intro hg <;> first | exact xo hg | rw [hg]))
 exact A8 []
theorem PE {px : D} {i : Ba} {k x y x2 y2 z : Int} {c : BO} {w h : Int} {tg : Ba} (b : List UInt8) (hb : D6 b = none) : Dk Tryz.prog 252 2 [.ptr 0 0] [.c 0 0 (Ko (.ptr 1 0) Cp (.d px) i k x y x2 y2 z c w h tg), .c 1 0 (E5 b)] 2 (.panic (.d (GM 110))) [.c 0 0 (Mw (.ptr 1 0) Cp), .c 1 0 [.d .any, .d .any]] 2 := by
 have hl := Ra hb
 have hn := Ku (b.drop 8)
 by_cases h1 : 8 ≤ b.length
 ·have c1 := rd8 b h1
  by_cases h2 : 9 ≤ b.length
  ·have c2 := Xk b h2
   have c3 := Xj (b.drop 9) (by simp; omega)
   generalize AV (b.take 8) = n1 at *
   generalize AV ((b.drop 8).take 1) = n2 at *
   refine AH fun B M => ?_
   repeat' (first | refine Ai ?_ | (refine As ?_; first | refine Am [(1, none)] c1 ?_ | refine Am [(1, none)] c2 ?_ | refine Am [(1, none)] c3 ?_ | refine Ae 185 fun _ => ?_ | refine Ae 220 fun _ => ?_ | refine Ar ?_ | refine Aw ?_ | refine Ax ?_ | (refine AJ (Ab 110) ?_; first | refine Ag (Ab 110) ?_ | refine Ao (Ak 110) ?_ | (refine Aj (Ad _ 110) ?_ ?_ <;> intro _ <;> (try (exfalso; omega))) | (refine Ap (Ad _ 110) ?_ ?_ <;> intro _)) | refine Ae 257 fun _ => ?_) | refine Ah ?_ | refine nc ?_ ?_ | (with_reducible intro _ <;> (try (exfalso; omega))) | refine Aa ?_ | (refine nd ?_ ?_ <;> intro hg <;> first | exact xo hg | rw [hg]))
   exact Ay []
  ·have c2 := Yz b h2
   generalize AV (b.take 8) = n1 at *
   refine AH fun B M => ?_
   repeat' (first | refine Ai ?_ | (refine As ?_; first | refine Am [(1, none)] c1 ?_ | refine Am [(1, none)] c2 ?_ | refine Ae 185 fun _ => ?_ | refine Ae 220 fun _ => ?_ | refine Ar ?_ | refine Aw ?_ | refine Ax ?_ | (refine AJ (Ab 110) ?_; first | refine Ag (Ab 110) ?_ | refine Ao (Ak 110) ?_ | (refine Aj (Ad _ 110) ?_ ?_ <;> intro _ <;> (try (exfalso; omega))) | (refine Ap (Ad _ 110) ?_ ?_ <;> intro _)) | refine Ae 257 fun _ => ?_) | refine Ah ?_ | refine nc ?_ ?_ | (with_reducible intro _ <;> (try (exfalso; omega))) | refine Aa ?_ | (refine nd ?_ ?_ <;> intro hg <;> first | exact xo hg | rw [hg]))
   exact Ay []
 ·have c1 := Xj b h1
  refine AH fun B M => ?_
  repeat' (first | refine Ai ?_ | (refine As ?_; first | refine Am [(1, none)] c1 ?_ | refine Ae 185 fun _ => ?_ | refine Ae 220 fun _ => ?_ | refine Ar ?_ | refine Aw ?_ | refine Ax ?_ | (refine AJ (Ab 110) ?_; first | refine Ag (Ab 110) ?_ | refine Ao (Ak 110) ?_ | (refine Aj (Ad _ 110) ?_ ?_ <;> intro _ <;> (try (exfalso; omega))) | (refine Ap (Ad _ 110) ?_ ?_ <;> intro _)) | refine Ae 257 fun _ => ?_) | refine Ah ?_ | refine nc ?_ ?_ | (with_reducible intro _ <;> (try (exfalso; omega))) | refine Aa ?_ | (refine nd ?_ ?_ <;> intro hg <;> first | exact xo hg | rw [hg]))
  exact Ay []

set_option maxRecDepth 20000
set_option maxRecDepth 10000
abbrev EB : List D := [.lit (.int .u8 0), .lit (.int .u8 0), .lit (.int .u8 0), .lit (.int .u8 0)]
def MH (pre : List BO) (n : Nat) : List (List D) := pre.map Cq ++ List.replicate (n - pre.length) EB
theorem Rh {pre : List BO} {n : Nat} (h : pre.length ≤ n) : (MH pre n).length = n := by simp [MH]; omega
theorem Xt {pre : List BO} {n : Nat} (h : pre.length < n) : (MH pre n)[pre.length]? = some EB := by
 rw [MH, List.getElem?_append_right (by simp), List.length_map, Nat.sub_self, List.getElem?_replicate, if_pos (by omega)]
theorem Xs {pre : List BO} {n : Nat} (h : pre.length < n) (c : BO) : (MH pre n).set pre.length (Cq c) = MH (pre ++ [c]) n := by
 rw [MH, List.set_append_right _ _ (by simp), List.length_map, Nat.sub_self, show n - pre.length = (n - (pre ++ [c]).length) + 1 by simp; omega, List.replicate_succ, List.set_cons_zero, MH]
 simp
theorem AbP (l : List BO) : MH l l.length = l.map Cq := by simp [MH]
abbrev bD (x : UInt8) : List D := AQ (.lit (.int .u8 (x.toNat : Int)))
theorem F4 {l : List (List D)} {n : Nat} (e : List D) (h : n < l.length) : (l.set n e)[n]? = some e := by rw [List.getElem?_set_self h]
abbrev Ow : List E := [.c 0 0 (Mw (.ptr 1 0) Cp), .c 1 0 [.d .any, .d .any]]
theorem Ov (px : D) (i : Ba) (k x y x2 y2 z : Int) (c : BO) (w0 h0 : Int) (tg : Ba) (u v : UInt8) (b : List UInt8) (hu : 1 ≤ u.toNat ∧ u.toNat ≤ 8) (hv : 1 ≤ v.toNat ∧ v.toNat ≤ 8) :
  VM Tryz.prog 253 2 [.ptr 0 0] [.c 0 0 (Ko (.ptr 1 0) Cp (.d px) i k x y x2 y2 z c w0 h0 tg), .c 1 0 (E5 (u :: v :: b))] 2
   fun r s n => (∀ l t, EX (u.toNat * v.toNat) b = some (l, t) → Gy 2 (.ret (.tup [])) [.c 0 0 (Ko (.ptr 1 0) Cp (.d (.sl false true (l.map Cq))) i k x y x2 y2 z c u.toNat v.toNat tg), .c 1 0 (E5 t)] 2 r s n) ∧
    (EX (u.toNat * v.toNat) b = none → Gy 2 (.panic (.d (GM 110))) Ow 2 r s n) := by
 have c1 := F7 u (v :: b)
 have c2 := F7 v b
 have hm : 0 ≤ (u.toNat : Int) * v.toNat ∧ (u.toNat : Int) * v.toNat ≤ 64 := ⟨Int.mul_nonneg (by omega) (by omega), by
  have := Int.mul_le_mul (show (u.toNat : Int) ≤ 8 by omega) (show (v.toNat : Int) ≤ 8 by omega) (by omega) (by omega : (0 : Int) ≤ 8); omega⟩
 intro B
 refine CI fun M => ?_
 repeat' (first | refine Ai ?_ | refine Ah ?_ | refine nc ?_ ?_ | (with_reducible intro _ <;> (try (exfalso; omega))) | refine Aa ?_ | (refine nd ?_ ?_ <;> intro hg <;> first | exact xo hg | rw [hg]))
 refine AB 3 ?_
 repeat' (first | refine Ai ?_ | (refine As ?_; first | refine Am [(1, none)] c1 ?_ | refine Am [(1, none)] c2 ?_ | refine Ae 185 fun _ => ?_ | refine Ae 220 fun _ => ?_ | refine Ar ?_ | refine Aw ?_ | refine Ax ?_ | (refine AJ (Ab 110) ?_; first | refine Ag (Ab 110) ?_ | refine Ao (Ak 110) ?_ | (refine Aj (Ad _ 110) ?_ ?_ <;> intro _ <;> (try (exfalso; omega))) | (refine Ap (Ad _ 110) ?_ ?_ <;> intro _)) | (refine AJ (Ab 290) ?_; first | refine Ag (Ab 290) ?_ | refine Ao (Ak 290) ?_ | (refine Aj (Ad _ 290) ?_ ?_ <;> intro _ <;> (try (exfalso; omega))) | (refine Ap (Ad _ 290) ?_ ?_ <;> intro _))) | refine Ah ?_ | refine nc ?_ ?_ | (with_reducible intro _ <;> (try (exfalso; omega))) | refine Aa ?_ | (refine nd ?_ ?_ <;> intro hg <;> first | exact xo hg | rw [hg]))
 obtain ⟨N, hN⟩ : ∃ N, u.toNat * v.toNat = N := ⟨_, rfl⟩
 have hNI : ((u.toNat : Int) * v.toNat).toNat = N := by rw [← hN, ← Int.natCast_mul, Int.toNat_natCast]
 rw [hN, show List.replicate ((u.toNat : Int) * v.toNat).toNat (List.map D.lit [Value.int IntKind.u8 0, Value.int IntKind.u8 0, Value.int IntKind.u8 0, Value.int IntKind.u8 0]) = MH [] N by rw [hNI]; rfl]
 have hN64 : N ≤ 64 := by omega
 have hl0 := Rh (pre := []) (n := N) (by simp)
 refine BP (fun p : List BO × List UInt8 => ⟨[(74, I .i64 p.1.length), (73, I .i64 (MH [] N).length), (2, .ptr 0 14), (0, .ptr 0 0)],
  [.c 0 0 (Ko (.ptr 1 0) Cp (.row 2 0) i k x y x2 y2 z c u.toNat v.toNat tg), .c 1 0 (E5 p.2), .r true true 2 0 66 4 (MH p.1 N)], 3⟩)
  (fun p => p.1.length ≤ N ∧ EX N b = (EX (N - p.1.length) p.2).map fun z => (p.1 ++ z.1, z.2)) (fun p => N - p.1.length) ([], b) (Eo [(2, _, _)]) ⟨Nat.zero_le _, by simp⟩ fun p hp => ?_
 obtain ⟨pre, b'⟩ := p
 obtain ⟨hp1, hp2⟩ := hp
 simp only at hp1 hp2
 have hpl := Rh hp1
 dsimp only
 rcases Nat.lt_or_ge pre.length N with h | h
 ·have hn : ((pre.length : Nat) : Int).toNat < (MH pre N).length := by omega
  have hg : (MH pre N)[((pre.length : Nat) : Int).toNat]? = some EB := Xt h
  rw [show N - pre.length = (N - pre.length - 1) + 1 by omega, EX] at hp2
  cases hc : Bs b' with
  | none =>
   rw [hc] at hp2
   simp only [Option.map_none] at hp2
   match b', hc with
   | [], _ =>
    have dn := H9
    repeat' (first | refine Ai ?_ | (refine As ?_; first | refine Ae 272 fun _ => ?_ | refine Ar ?_ | refine Aw ?_ | refine Ax ?_) | refine Ah ?_ | refine nc ?_ ?_ | (with_reducible intro _ <;> (try (exfalso; omega))) | refine Aa ?_ | (refine nd ?_ ?_ <;> intro hg <;> first | exact xo hg | rw [hg]))
    refine AB 5 ?_
    repeat' (first | refine Ai ?_ | (refine As ?_; first | refine Am [(1, none)] dn ?_ | refine Ae 185 fun _ => ?_ | refine Ae 220 fun _ => ?_ | refine Ar ?_ | refine Aw ?_ | refine Ax ?_ | (refine AJ (Ab 110) ?_; first | refine Ag (Ab 110) ?_ | refine Ao (Ak 110) ?_ | (refine Aj (Ad _ 110) ?_ ?_ <;> intro _ <;> (try (exfalso; omega))) | (refine Ap (Ad _ 110) ?_ ?_ <;> intro _))) | refine Ah ?_ | refine nc ?_ ?_ | (with_reducible intro _ <;> (try (exfalso; omega))) | refine Aa ?_ | (refine nd ?_ ?_ <;> intro hg <;> first | exact xo hg | rw [hg]))
    exact ⟨fun l t h => (by rw [hp2] at h; cases h), fun _ => Ay []⟩
   | [r], _ =>
    have h1 := r.toNat_lt
    have d1 := F7 r []
    have dn := H9
    repeat' (first | refine Ai ?_ | (refine As ?_; first | refine Ae 272 fun _ => ?_ | refine Ar ?_ | refine Aw ?_ | refine Ax ?_) | refine Ah ?_ | refine nc ?_ ?_ | (with_reducible intro _ <;> (try (exfalso; omega))) | refine Aa ?_ | (refine nd ?_ ?_ <;> intro hg <;> first | exact xo hg | rw [hg]))
    refine AB 5 ?_
    repeat' (first | refine Ai ?_ | (refine As ?_; first | refine Am [(1, none)] d1 ?_ | refine Am [(1, none)] dn ?_ | refine Ae 185 fun _ => ?_ | refine Ae 220 fun _ => ?_ | refine Ar ?_ | refine Aw ?_ | refine Ax ?_ | (refine AJ (Ab 110) ?_; first | refine Ag (Ab 110) ?_ | refine Ao (Ak 110) ?_ | (refine Aj (Ad _ 110) ?_ ?_ <;> intro _ <;> (try (exfalso; omega))) | (refine Ap (Ad _ 110) ?_ ?_ <;> intro _))) | refine Ah ?_ | refine nc ?_ ?_ | (with_reducible intro _ <;> (try (exfalso; omega))) | refine Aa ?_ | (refine nd ?_ ?_ <;> intro hg <;> first | exact xo hg | rw [hg]))
    exact ⟨fun l t h => (by rw [hp2] at h; cases h), fun _ => Ay []⟩
   | [r, g], _ =>
    have h1 := r.toNat_lt
    have d1 := F7 r [g]
    have h2 := g.toNat_lt
    have d2 := F7 g []
    have g1 := F4 (DP EB 0 (bD r)) hn
    have dn := H9
    repeat' (first | refine Ai ?_ | (refine As ?_; first | refine Ae 272 fun _ => ?_ | refine Ar ?_ | refine Aw ?_ | refine Ax ?_) | refine Ah ?_ | refine nc ?_ ?_ | (with_reducible intro _ <;> (try (exfalso; omega))) | refine Aa ?_ | (refine nd ?_ ?_ <;> intro hg <;> first | exact xo hg | rw [hg]))
    refine AB 5 ?_
    repeat' (first | refine Ai ?_ | (refine As ?_; first | refine Am [(1, none)] d1 ?_ | refine Am [(1, none)] d2 ?_ | refine Am [(1, none)] dn ?_ | refine Ae 185 fun _ => ?_ | refine Ae 220 fun _ => ?_ | refine Ar ?_ | refine Aw ?_ | refine Ax ?_ | (refine AJ (Ab 110) ?_; first | refine Ag (Ab 110) ?_ | refine Ao (Ak 110) ?_ | (refine Aj (Ad _ 110) ?_ ?_ <;> intro _ <;> (try (exfalso; omega))) | (refine Ap (Ad _ 110) ?_ ?_ <;> intro _))) | refine Ah ?_ | refine nc ?_ ?_ | (with_reducible intro _ <;> (try (exfalso; omega))) | refine Aa ?_ | (refine nd ?_ ?_ <;> intro hg <;> first | exact xo hg | rw [hg]))
    exact ⟨fun l t h => (by rw [hp2] at h; cases h), fun _ => Ay []⟩
   | [r, g, bl], _ =>
    have h1 := r.toNat_lt
    have d1 := F7 r [g, bl]
    have h2 := g.toNat_lt
    have d2 := F7 g [bl]
    have h3 := bl.toNat_lt
    have d3 := F7 bl []
    have g1 := F4 (DP EB 0 (bD r)) hn
    have g2 := F4 (l := (MH pre N).set ((pre.length : Nat) : Int).toNat (DP EB 0 (bD r))) (DP (DP EB 0 (bD r)) 1 (bD g)) (by rw [List.length_set]; exact hn)
    have dn := H9
    repeat' (first | refine Ai ?_ | (refine As ?_; first | refine Ae 272 fun _ => ?_ | refine Ar ?_ | refine Aw ?_ | refine Ax ?_) | refine Ah ?_ | refine nc ?_ ?_ | (with_reducible intro _ <;> (try (exfalso; omega))) | refine Aa ?_ | (refine nd ?_ ?_ <;> intro hg <;> first | exact xo hg | rw [hg]))
    refine AB 5 ?_
    repeat' (first | refine Ai ?_ | (refine As ?_; first | refine Am [(1, none)] d1 ?_ | refine Am [(1, none)] d2 ?_ | refine Am [(1, none)] d3 ?_ | refine Am [(1, none)] dn ?_ | refine Ae 185 fun _ => ?_ | refine Ae 220 fun _ => ?_ | refine Ar ?_ | refine Aw ?_ | refine Ax ?_ | (refine AJ (Ab 110) ?_; first | refine Ag (Ab 110) ?_ | refine Ao (Ak 110) ?_ | (refine Aj (Ad _ 110) ?_ ?_ <;> intro _ <;> (try (exfalso; omega))) | (refine Ap (Ad _ 110) ?_ ?_ <;> intro _))) | refine Ah ?_ | refine nc ?_ ?_ | (with_reducible intro _ <;> (try (exfalso; omega))) | refine Aa ?_ | (refine nd ?_ ?_ <;> intro hg <;> first | exact xo hg | rw [hg]))
    exact ⟨fun l t h => (by rw [hp2] at h; cases h), fun _ => Ay []⟩
  | some q =>
   obtain ⟨c', t'⟩ := q
   rw [hc] at hp2
   match b', hc with
   | r :: g :: bl :: a :: t, hc =>
    simp only [Bs, Option.some.injEq, Prod.mk.injEq] at hc
    obtain ⟨rfl, rfl⟩ := hc
    have h1 := r.toNat_lt
    have h2 := g.toNat_lt
    have h3 := bl.toNat_lt
    have h4 := a.toNat_lt
    have d1 := F7 r (g :: bl :: a :: t)
    have d2 := F7 g (bl :: a :: t)
    have d3 := F7 bl (a :: t)
    have d4 := F7 a t
    have g1 := F4 (DP EB 0 (bD r)) hn
    have g2 := F4 (l := (MH pre N).set ((pre.length : Nat) : Int).toNat (DP EB 0 (bD r))) (DP (DP EB 0 (bD r)) 1 (bD g)) (by rw [List.length_set]; exact hn)
    have g3 := F4 (l := ((MH pre N).set ((pre.length : Nat) : Int).toNat (DP EB 0 (bD r))).set ((pre.length : Nat) : Int).toNat (DP (DP EB 0 (bD r)) 1 (bD g))) (DP (DP (DP EB 0 (bD r)) 1 (bD g)) 2 (bD bl)) (by rw [List.length_set, List.length_set]; exact hn)
    repeat' (first | refine Ai ?_ | (refine As ?_; first | refine Ae 272 fun _ => ?_ | refine Ar ?_ | refine Aw ?_ | refine Ax ?_) | refine Ah ?_ | refine nc ?_ ?_ | (with_reducible intro _ <;> (try (exfalso; omega))) | refine Aa ?_ | (refine nd ?_ ?_ <;> intro hg <;> first | exact xo hg | rw [hg]))
    refine AB 5 ?_
    repeat' (first | refine Ai ?_ | (refine As ?_; first | refine Am [(1, none)] d1 ?_ | refine Am [(1, none)] d2 ?_ | refine Am [(1, none)] d3 ?_ | refine Am [(1, none)] d4 ?_ | refine Ae 185 fun _ => ?_ | refine Ae 220 fun _ => ?_ | refine Ar ?_ | refine Aw ?_ | refine Ax ?_ | (refine AJ (Ab 110) ?_; first | refine Ag (Ab 110) ?_ | refine Ao (Ak 110) ?_ | (refine Aj (Ad _ 110) ?_ ?_ <;> intro _ <;> (try (exfalso; omega))) | (refine Ap (Ad _ 110) ?_ ?_ <;> intro _))) | refine Ah ?_ | refine nc ?_ ?_ | (with_reducible intro _ <;> (try (exfalso; omega))) | refine Aa ?_ | (refine nd ?_ ?_ <;> intro hg <;> first | exact xo hg | rw [hg]))
    have hfin : ((((MH pre N).set ((pre.length : Nat) : Int).toNat (DP EB (0 + 0) (AQ (.lit (.int .u8 (r.toNat : Int)))))).set ((pre.length : Nat) : Int).toNat (DP (DP EB 0 (bD r)) (0 + 1) (AQ (.lit (.int .u8 (g.toNat : Int)))))).set ((pre.length : Nat) : Int).toNat (DP (DP (DP EB 0 (bD r)) 1 (bD g)) (0 + 2) (AQ (.lit (.int .u8 (bl.toNat : Int)))))).set ((pre.length : Nat) : Int).toNat (DP (DP (DP (DP EB 0 (bD r)) 1 (bD g)) 2 (bD bl)) (0 + 3) (AQ (.lit (.int .u8 (a.toNat : Int))))) = MH (pre ++ [⟨r, g, bl, a⟩]) N := by
     rw [List.set_set, List.set_set, List.set_set]; exact Xs h ⟨r, g, bl, a⟩
    refine AP (pre ++ [⟨r, g, bl, a⟩], t) ⟨by simp; omega, ?_⟩ (by simp; omega) ?_
    ·rw [hp2]
     simp only [List.length_append, List.length_cons, List.length_nil, Option.map_map]
     rw [show N - pre.length - 1 = N - (pre.length + (0 + 1)) by omega]
     congr 1
     funext z
     simp
    ·dsimp only
     rw [hfin, show (((pre ++ [(⟨r, g, bl, a⟩ : BO)]).length : Nat) : Int) = (pre.length : Int) + 1 by simp]
     exact (Eo [(2, _, _)])
 ·have hN2 : N = pre.length := by omega
  rw [show N - pre.length = 0 by omega, EX] at hp2
  repeat' (first | refine Ai ?_ | refine Ah ?_ | refine nc ?_ ?_ | (with_reducible intro _ <;> (try (exfalso; omega))) | refine Aa ?_ | (refine nd ?_ ?_ <;> intro hg <;> first | exact xo hg | rw [hg]))
  refine ⟨fun l t hh => ?_, fun hh => (by rw [hp2] at hh; cases hh)⟩
  rw [hp2] at hh
  simp only [Option.map_some, List.append_nil, Option.some.injEq, Prod.mk.injEq] at hh
  obtain ⟨rfl, rfl⟩ := hh
  rw [hN2, AbP]
  refine NJ 2 rfl ?_
  exact GE []
theorem TQ {px : D} {i : Ba} {k x y x2 y2 z : Int} {c : BO} {w0 h0 : Int} {tg : Ba} (b t : List UInt8) (w h : Nat) (l : List BO) (hb : Er b = .ok ((w, h, l), t)) : Dk Tryz.prog 253 2 [.ptr 0 0] [.c 0 0 (Ko (.ptr 1 0) Cp (.d px) i k x y x2 y2 z c w0 h0 tg), .c 1 0 (E5 b)] 2 (.ret (.tup [])) [.c 0 0 (Ko (.ptr 1 0) Cp (.d (.sl false true (l.map Cq))) i k x y x2 y2 z c w h tg), .c 1 0 (E5 t)] 2 := by
 simp only [Er] at hb
 split at hb
 ·cases hb
 ·rename_i w' b1 e1
  split at hb
  ·cases hb
  ·rename_i h' b2 e2
   split at hb
   ·cases hb
   ·rename_i l' b3 e3
    simp only [Except.ok.injEq, Prod.mk.injEq] at hb
    obtain ⟨⟨rfl, rfl, rfl⟩, rfl⟩ := hb
    match b, e1 with
    | u :: b, e1 =>
     simp only [CS] at e1
     split at e1
     ·rename_i hu
      simp only [Except.ok.injEq, Prod.mk.injEq] at e1
      obtain ⟨rfl, rfl⟩ := e1
      match b, e2 with
      | v :: b, e2 =>
       simp only [CS] at e2
       split at e2
       ·rename_i hv
        simp only [Except.ok.injEq, Prod.mk.injEq] at e2
        obtain ⟨rfl, rfl⟩ := e2
        exact ((Ov px i k x y x2 y2 z c w0 h0 tg u v b hu hv).mono fun r s n h => h.1 _ _ e3).sub1
       ·cases e2
     ·cases e1

end Go.Proofs.YtbgcjnfhadhjeaaGreat