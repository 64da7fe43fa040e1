/- Walks by data and names, part 41: Layer 19, by V: an operation's parts, read. Layer 19, by V: colours and ids, read. -/
import Derived.Test.YtbgcjnfhadhjeaaGreatPk40
import Derived.Test.YtbgcjnfhadhjeaaGreatPk33
namespace Go.Proofs.YtbgcjnfhadhjeaaGreat
set_option maxRecDepth 20000
open Go.RowKit
set_option maxRecDepth 10000
set_option maxHeartbeats 4000000
abbrev Ks (r l px : V) (i : Bk) (k x y x2 y2 z : Int) (c : BL) (w h : Int) (tg : Bk) : List V := [r, .d (AW i.t), .d (Ar i.s), .d (AW i.q), .d (Ar k), .d (Ar x), .d (Ar y), .d (Ar x2), .d (Ar y2), .d (Ar z),
 .d (.lit (vb c.r)), .d (.lit (vb c.g)), .d (.lit (vb c.b)), .d (.lit (vb c.a)), .d (Ar w), .d (Ar h), px, .d (AW tg.t), .d (Ar tg.s), .d (AW tg.q), l]
abbrev MF (r l : V) : List V := [r, .d .any, .d .any, .d .any, .d .any, .d .any, .d .any, .d .any, .d .any, .d .any, .d .any, .d .any, .d .any, .d .any, .d .any, .d .any, .d .any, .d .any, .d .any, .d .any, l]
abbrev EX (b : List UInt8) : List V := [.d (.sl false true (AH b)), .d (Ar 0)]
theorem Ac5 (u : UInt8) (t : List UInt8) : A3 ((u :: t).take 1) = u.toNat := by simp [A3]
theorem FY (u : UInt8) (t : List UInt8) : C6 Tryz.prog 219 1 [.ptr 0 0, .d (Ar 1)] [.c 0 0 (EX (u :: t))] 1 (.ret (.d (AW u.toNat))) [.c 0 0 (EX t)] 1 := by
 have c := Dv true (u :: t) 1 (by omega) (by simp)
 rw [Ac5] at c
 exact c
theorem HY : C6 Tryz.prog 219 1 [.ptr 0 0, .d (Ar 1)] [.c 0 0 (EX [])] 1 (.ret (.d (AW 0))) [.c 0 0 [.d (.sl false true (AH [])), .d (Ar 110)]] 1 := CG true [] 1 (by omega) (by simp)
theorem rd8 (b : List UInt8) (h : 8 ≤ b.length) : C6 Tryz.prog 219 1 [.ptr 0 0, .d (Ar 8)] [.c 0 0 (EX b)] 1 (.ret (.d (AW (A3 (b.take 8))))) [.c 0 0 (EX (b.drop 8))] 1 := Dv true b 8 (by omega) h
theorem Xm (b : List UInt8) (h : ¬ 8 ≤ b.length) : C6 Tryz.prog 219 1 [.ptr 0 0, .d (Ar 8)] [.c 0 0 (EX b)] 1 (.ret (.d (AW 0))) [.c 0 0 [.d (.sl false true (AH b)), .d (Ar 110)]] 1 := CG true b 8 (by omega) h
theorem Ac4 (u v : UInt8) (t : List UInt8) : A3 ((u :: v :: t).take 2) = 256 * u.toNat + v.toNat := by simp [A3]
theorem rd2 (u v : UInt8) (t : List UInt8) : C6 Tryz.prog 219 1 [.ptr 0 0, .d (Ar 2)] [.c 0 0 (EX (u :: v :: t))] 1 (.ret (.d (AW (256 * u.toNat + v.toNat : Nat)))) [.c 0 0 (EX t)] 1 := by
 have c := Dv true (u :: v :: t) 2 (by omega) (by simp)
 rw [Ac4] at c
 exact c
theorem Ac1 (b : List UInt8) (h : ¬ 2 ≤ b.length) : C6 Tryz.prog 219 1 [.ptr 0 0, .d (Ar 2)] [.c 0 0 (EX b)] 1 (.ret (.d (AW 0))) [.c 0 0 [.d (.sl false true (AH b)), .d (Ar 110)]] 1 := CG true b 2 (by omega) h
theorem KE {px : D} {i : Bk} {k x y x2 y2 z : Int} {c : BL} {w h : Int} {tg : Bk} (u v : UInt8) (t : List UInt8) : C6 Tryz.prog 248 2 [.ptr 0 0] [.c 0 0 (Ks (.ptr 1 0) BW (.d px) i k x y x2 y2 z c w h tg), .c 1 0 (EX (u :: v :: t))] 2 (.ret (.tup [])) [.c 0 0 (Ks (.ptr 1 0) BW (.d px) i k ((u.toNat : Int) + -64) ((v.toNat : Int) + -64) x2 y2 z c w h tg), .c 1 0 (EX t)] 2 := by
 have hu := u.toNat_lt
 have hv := v.toNat_lt
 have c1 := FY u (v :: t)
 have c2 := FY v t
 refine AJ fun B M => ?_
 repeat' (first | refine Al ?_ | (refine Ay ?_; first | refine Aj [(1, none)] c1 ?_ | refine Aj [(1, none)] c2 ?_ | refine Ae 185 fun _ => ?_ | refine Ae 220 fun _ => ?_ | refine Aq ?_ | refine Aw ?_ | refine Ax ?_ | (refine AK (Aa 110) ?_; first | refine Ag (Aa 110) ?_ | refine An (Ai 110) ?_ | (refine Ah (Ab _ 110) ?_ ?_ <;> intro _ <;> (try (exfalso; omega))) | (refine Ao (Ab _ 110) ?_ ?_ <;> intro _)) | refine Ae 271 fun _ => ?_) | refine Ak ?_ | refine nc ?_ ?_ | (with_reducible intro _ <;> (try (exfalso; omega))) | refine Ad ?_ | (refine nd ?_ ?_ <;> intro hg <;> first | exact xo hg | rw [hg]))
 exact A4 []
theorem Yp {px : D} {i : Bk} {k x y x2 y2 z : Int} {c : BL} {w h : Int} {tg : Bk} (u v : UInt8) (t : List UInt8) : C6 Tryz.prog 249 2 [.ptr 0 0] [.c 0 0 (Ks (.ptr 1 0) BW (.d px) i k x y x2 y2 z c w h tg), .c 1 0 (EX (u :: v :: t))] 2 (.ret (.tup [])) [.c 0 0 (Ks (.ptr 1 0) BW (.d px) i k x y ((u.toNat : Int) + -64) ((v.toNat : Int) + -64) z c w h tg), .c 1 0 (EX t)] 2 := by
 have hu := u.toNat_lt
 have hv := v.toNat_lt
 have c1 := FY u (v :: t)
 have c2 := FY v t
 refine AJ fun B M => ?_
 repeat' (first | refine Al ?_ | (refine Ay ?_; first | refine Aj [(1, none)] c1 ?_ | refine Aj [(1, none)] c2 ?_ | refine Ae 185 fun _ => ?_ | refine Ae 220 fun _ => ?_ | refine Aq ?_ | refine Aw ?_ | refine Ax ?_ | (refine AK (Aa 110) ?_; first | refine Ag (Aa 110) ?_ | refine An (Ai 110) ?_ | (refine Ah (Ab _ 110) ?_ ?_ <;> intro _ <;> (try (exfalso; omega))) | (refine Ao (Ab _ 110) ?_ ?_ <;> intro _)) | refine Ae 271 fun _ => ?_) | refine Ak ?_ | refine nc ?_ ?_ | (with_reducible intro _ <;> (try (exfalso; omega))) | refine Ad ?_ | (refine nd ?_ ?_ <;> intro hg <;> first | exact xo hg | rw [hg]))
 exact A4 []
theorem IZ {px : D} {i : Bk} {k x y x2 y2 z : Int} {c : BL} {w h : Int} {tg : Bk} (b : List UInt8) (hb : Ft b = none) : C6 Tryz.prog 248 2 [.ptr 0 0] [.c 0 0 (Ks (.ptr 1 0) BW (.d px) i k x y x2 y2 z c w h tg), .c 1 0 (EX b)] 2 (.panic (.d (GB 110))) [.c 0 0 (MF (.ptr 1 0) BW), .c 1 0 [.d .any, .d .any]] 2 := by
 match b, hb with
 | [], _ =>
  have c1 := HY
  refine AJ fun B M => ?_
  repeat' (first | refine Al ?_ | (refine Ay ?_; first | refine Aj [(1, none)] c1 ?_ | refine Ae 185 fun _ => ?_ | refine Ae 220 fun _ => ?_ | refine Aq ?_ | refine Aw ?_ | refine Ax ?_ | (refine AK (Aa 110) ?_; first | refine Ag (Aa 110) ?_ | refine An (Ai 110) ?_ | (refine Ah (Ab _ 110) ?_ ?_ <;> intro _ <;> (try (exfalso; omega))) | (refine Ao (Ab _ 110) ?_ ?_ <;> intro _)) | refine Ae 271 fun _ => ?_) | refine Ak ?_ | refine nc ?_ ?_ | (with_reducible intro _ <;> (try (exfalso; omega))) | refine Ad ?_ | (refine nd ?_ ?_ <;> intro hg <;> first | exact xo hg | rw [hg]))
  exact Az []
 | [u], _ =>
  have hu := u.toNat_lt
  have c1 := FY u []
  have c2 := HY
  refine AJ fun B M => ?_
  repeat' (first | refine Al ?_ | (refine Ay ?_; first | refine Aj [(1, none)] c1 ?_ | refine Aj [(1, none)] c2 ?_ | refine Ae 185 fun _ => ?_ | refine Ae 220 fun _ => ?_ | refine Aq ?_ | refine Aw ?_ | refine Ax ?_ | (refine AK (Aa 110) ?_; first | refine Ag (Aa 110) ?_ | refine An (Ai 110) ?_ | (refine Ah (Ab _ 110) ?_ ?_ <;> intro _ <;> (try (exfalso; omega))) | (refine Ao (Ab _ 110) ?_ ?_ <;> intro _)) | refine Ae 271 fun _ => ?_) | refine Ak ?_ | refine nc ?_ ?_ | (with_reducible intro _ <;> (try (exfalso; omega))) | refine Ad ?_ | (refine nd ?_ ?_ <;> intro hg <;> first | exact xo hg | rw [hg]))
  exact Az []
theorem TJ {px : D} {i : Bk} {k x y x2 y2 z : Int} {c : BL} {w h : Int} {tg : Bk} (b : List UInt8) (hb : Ft b = none) : C6 Tryz.prog 249 2 [.ptr 0 0] [.c 0 0 (Ks (.ptr 1 0) BW (.d px) i k x y x2 y2 z c w h tg), .c 1 0 (EX b)] 2 (.panic (.d (GB 110))) [.c 0 0 (MF (.ptr 1 0) BW), .c 1 0 [.d .any, .d .any]] 2 := by
 match b, hb with
 | [], _ =>
  have c1 := HY
  refine AJ fun B M => ?_
  repeat' (first | refine Al ?_ | (refine Ay ?_; first | refine Aj [(1, none)] c1 ?_ | refine Ae 185 fun _ => ?_ | refine Ae 220 fun _ => ?_ | refine Aq ?_ | refine Aw ?_ | refine Ax ?_ | (refine AK (Aa 110) ?_; first | refine Ag (Aa 110) ?_ | refine An (Ai 110) ?_ | (refine Ah (Ab _ 110) ?_ ?_ <;> intro _ <;> (try (exfalso; omega))) | (refine Ao (Ab _ 110) ?_ ?_ <;> intro _)) | refine Ae 271 fun _ => ?_) | refine Ak ?_ | refine nc ?_ ?_ | (with_reducible intro _ <;> (try (exfalso; omega))) | refine Ad ?_ | (refine nd ?_ ?_ <;> intro hg <;> first | exact xo hg | rw [hg]))
  exact Az []
 | [u], _ =>
  have hu := u.toNat_lt
  have c1 := FY u []
  have c2 := HY
  refine AJ fun B M => ?_
  repeat' (first | refine Al ?_ | (refine Ay ?_; first | refine Aj [(1, none)] c1 ?_ | refine Aj [(1, none)] c2 ?_ | refine Ae 185 fun _ => ?_ | refine Ae 220 fun _ => ?_ | refine Aq ?_ | refine Aw ?_ | refine Ax ?_ | (refine AK (Aa 110) ?_; first | refine Ag (Aa 110) ?_ | refine An (Ai 110) ?_ | (refine Ah (Ab _ 110) ?_ ?_ <;> intro _ <;> (try (exfalso; omega))) | (refine Ao (Ab _ 110) ?_ ?_ <;> intro _)) | refine Ae 271 fun _ => ?_) | refine Ak ?_ | refine nc ?_ ?_ | (with_reducible intro _ <;> (try (exfalso; omega))) | refine Ad ?_ | (refine nd ?_ ?_ <;> intro hg <;> first | exact xo hg | rw [hg]))
  exact Az []
theorem Rg {px : D} {i : Bk} {k x y x2 y2 z : Int} {c : BL} {w h : Int} {tg : Bk} (u v : UInt8) (t : List UInt8) : C6 Tryz.prog 250 2 [.ptr 0 0] [.c 0 0 (Ks (.ptr 1 0) BW (.d px) i k x y x2 y2 z c w h tg), .c 1 0 (EX (u :: v :: t))] 2 (.ret (.tup [])) [.c 0 0 (Ks (.ptr 1 0) BW (.d px) i k x y x2 y2 ((256 * u.toNat + v.toNat : Nat) : Int) c w h tg), .c 1 0 (EX t)] 2 := by
 have hu := u.toNat_lt
 have hv := v.toNat_lt
 have hn : 256 * u.toNat + v.toNat < 65536 := by omega
 have c1 := rd2 u v t
 generalize 256 * u.toNat + v.toNat = n at *
 refine AJ fun B M => ?_
 repeat' (first | refine Al ?_ | (refine Ay ?_; first | refine Aj [(1, none)] c1 ?_ | refine Ae 185 fun _ => ?_ | refine Ae 220 fun _ => ?_ | refine Aq ?_ | refine Aw ?_ | refine Ax ?_ | (refine AK (Aa 110) ?_; first | refine Ag (Aa 110) ?_ | refine An (Ai 110) ?_ | (refine Ah (Ab _ 110) ?_ ?_ <;> intro _ <;> (try (exfalso; omega))) | (refine Ao (Ab _ 110) ?_ ?_ <;> intro _))) | refine Ak ?_ | refine nc ?_ ?_ | (with_reducible intro _ <;> (try (exfalso; omega))) | refine Ad ?_ | (refine nd ?_ ?_ <;> intro hg <;> first | exact xo hg | rw [hg]))
 exact A4 []
theorem OH {px : D} {i : Bk} {k x y x2 y2 z : Int} {c : BL} {w h : Int} {tg : Bk} (b : List UInt8) (hb : Kd b = none) : C6 Tryz.prog 250 2 [.ptr 0 0] [.c 0 0 (Ks (.ptr 1 0) BW (.d px) i k x y x2 y2 z c w h tg), .c 1 0 (EX b)] 2 (.panic (.d (GB 110))) [.c 0 0 (MF (.ptr 1 0) BW), .c 1 0 [.d .any, .d .any]] 2 := by
 have c1 := Ac1 b (by
  match b, hb with
  | [], _ => simp
  | [_], _ => simp)
 refine AJ fun B M => ?_
 repeat' (first | refine Al ?_ | (refine Ay ?_; first | refine Aj [(1, none)] c1 ?_ | refine Ae 185 fun _ => ?_ | refine Ae 220 fun _ => ?_ | refine Aq ?_ | refine Aw ?_ | refine Ax ?_ | (refine AK (Aa 110) ?_; first | refine Ag (Aa 110) ?_ | refine An (Ai 110) ?_ | (refine Ah (Ab _ 110) ?_ ?_ <;> intro _ <;> (try (exfalso; omega))) | (refine Ao (Ab _ 110) ?_ ?_ <;> intro _))) | refine Ak ?_ | refine nc ?_ ?_ | (with_reducible intro _ <;> (try (exfalso; omega))) | refine Ad ?_ | (refine nd ?_ ?_ <;> intro hg <;> first | exact xo hg | rw [hg]))
 exact Az []

set_option maxRecDepth 20000
set_option maxRecDepth 10000
theorem LO {px : D} {i : Bk} {k x y x2 y2 z : Int} {c : BL} {w h : Int} {tg : Bk} (r g b a : UInt8) (t : List UInt8) : C6 Tryz.prog 251 2 [.ptr 0 0] [.c 0 0 (Ks (.ptr 1 0) BW (.d px) i k x y x2 y2 z c w h tg), .c 1 0 (EX (r :: g :: b :: a :: t))] 2 (.ret (.tup [])) [.c 0 0 (Ks (.ptr 1 0) BW (.d px) i k x y x2 y2 z ⟨r, g, b, a⟩ w h tg), .c 1 0 (EX t)] 2 := by
 have h1 := r.toNat_lt
 have h2 := g.toNat_lt
 have h3 := b.toNat_lt
 have h4 := a.toNat_lt
 have c1 := FY r (g :: b :: a :: t)
 have c2 := FY g (b :: a :: t)
 have c3 := FY b (a :: t)
 have c4 := FY a t
 refine AJ fun B M => ?_
 repeat' (first | refine Al ?_ | (refine Ay ?_; first | refine Ae 272 fun _ => ?_ | refine Aq ?_ | refine Aw ?_ | refine Ax ?_) | refine Ak ?_ | refine nc ?_ ?_ | (with_reducible intro _ <;> (try (exfalso; omega))) | refine Ad ?_ | (refine nd ?_ ?_ <;> intro hg <;> first | exact xo hg | rw [hg]))
 refine AF 5 ?_
 repeat' (first | refine Al ?_ | (refine Ay ?_; first | refine Aj [(1, none)] c1 ?_ | refine Aj [(1, none)] c2 ?_ | refine Aj [(1, none)] c3 ?_ | refine Aj [(1, none)] c4 ?_ | refine Ae 185 fun _ => ?_ | refine Ae 220 fun _ => ?_ | refine Aq ?_ | refine Aw ?_ | refine Ax ?_ | (refine AK (Aa 110) ?_; first | refine Ag (Aa 110) ?_ | refine An (Ai 110) ?_ | (refine Ah (Ab _ 110) ?_ ?_ <;> intro _ <;> (try (exfalso; omega))) | (refine Ao (Ab _ 110) ?_ ?_ <;> intro _))) | refine Ak ?_ | refine nc ?_ ?_ | (with_reducible intro _ <;> (try (exfalso; omega))) | refine Ad ?_ | (refine nd ?_ ?_ <;> intro hg <;> first | exact xo hg | rw [hg]))
 exact A4 []
theorem JL {px : D} {i : Bk} {k x y x2 y2 z : Int} {c : BL} {w h : Int} {tg : Bk} (b : List UInt8) (hb : Ew b = none) : C6 Tryz.prog 251 2 [.ptr 0 0] [.c 0 0 (Ks (.ptr 1 0) BW (.d px) i k x y x2 y2 z c w h tg), .c 1 0 (EX b)] 2 (.panic (.d (GB 110))) [.c 0 0 (MF (.ptr 1 0) BW), .c 1 0 [.d .any, .d .any]] 2 := by
 match b, hb with
 | [], _ =>
  have cn := HY
  refine AJ fun B M => ?_
  repeat' (first | refine Al ?_ | (refine Ay ?_; first | refine Ae 272 fun _ => ?_ | refine Aq ?_ | refine Aw ?_ | refine Ax ?_) | refine Ak ?_ | refine nc ?_ ?_ | (with_reducible intro _ <;> (try (exfalso; omega))) | refine Ad ?_ | (refine nd ?_ ?_ <;> intro hg <;> first | exact xo hg | rw [hg]))
  refine AF 5 ?_
  repeat' (first | refine Al ?_ | (refine Ay ?_; first | refine Aj [(1, none)] cn ?_ | refine Ae 185 fun _ => ?_ | refine Ae 220 fun _ => ?_ | refine Aq ?_ | refine Aw ?_ | refine Ax ?_ | (refine AK (Aa 110) ?_; first | refine Ag (Aa 110) ?_ | refine An (Ai 110) ?_ | (refine Ah (Ab _ 110) ?_ ?_ <;> intro _ <;> (try (exfalso; omega))) | (refine Ao (Ab _ 110) ?_ ?_ <;> intro _))) | refine Ak ?_ | refine nc ?_ ?_ | (with_reducible intro _ <;> (try (exfalso; omega))) | refine Ad ?_ | (refine nd ?_ ?_ <;> intro hg <;> first | exact xo hg | rw [hg]))
  exact Az []
 | [r], _ =>
  have h1 := r.toNat_lt
  have c1 := FY r []
  have cn := HY
  refine AJ fun B M => ?_
  repeat' (first | refine Al ?_ | (refine Ay ?_; first | refine Ae 272 fun _ => ?_ | refine Aq ?_ | refine Aw ?_ | refine Ax ?_) | refine Ak ?_ | refine nc ?_ ?_ | (with_reducible intro _ <;> (try (exfalso; omega))) | refine Ad ?_ | (refine nd ?_ ?_ <;> intro hg <;> first | exact xo hg | rw [hg]))
  refine AF 5 ?_
  repeat' (first | refine Al ?_ | (refine Ay ?_; first | refine Aj [(1, none)] c1 ?_ | refine Aj [(1, none)] cn ?_ | refine Ae 185 fun _ => ?_ | refine Ae 220 fun _ => ?_ | refine Aq ?_ | refine Aw ?_ | refine Ax ?_ | (refine AK (Aa 110) ?_; first | refine Ag (Aa 110) ?_ | refine An (Ai 110) ?_ | (refine Ah (Ab _ 110) ?_ ?_ <;> intro _ <;> (try (exfalso; omega))) | (refine Ao (Ab _ 110) ?_ ?_ <;> intro _))) | refine Ak ?_ | refine nc ?_ ?_ | (with_reducible intro _ <;> (try (exfalso; omega))) | refine Ad ?_ | (refine nd ?_ ?_ <;> intro hg <;> first | exact xo hg | rw [hg]))
  exact Az []
 | [r, g], _ =>
  have h1 := r.toNat_lt
  have c1 := FY r [g]
  have h2 := g.toNat_lt
  have c2 := FY g []
  have cn := HY
  refine AJ fun B M => ?_
  repeat' (first | refine Al ?_ | (refine Ay ?_; first | refine Ae 272 fun _ => ?_ | refine Aq ?_ | refine Aw ?_ | refine Ax ?_) | refine Ak ?_ | refine nc ?_ ?_ | (with_reducible intro _ <;> (try (exfalso; omega))) | refine Ad ?_ | (refine nd ?_ ?_ <;> intro hg <;> first | exact xo hg | rw [hg]))
  refine AF 5 ?_
  repeat' (first | refine Al ?_ | (refine Ay ?_; first | refine Aj [(1, none)] c1 ?_ | refine Aj [(1, none)] c2 ?_ | refine Aj [(1, none)] cn ?_ | refine Ae 185 fun _ => ?_ | refine Ae 220 fun _ => ?_ | refine Aq ?_ | refine Aw ?_ | refine Ax ?_ | (refine AK (Aa 110) ?_; first | refine Ag (Aa 110) ?_ | refine An (Ai 110) ?_ | (refine Ah (Ab _ 110) ?_ ?_ <;> intro _ <;> (try (exfalso; omega))) | (refine Ao (Ab _ 110) ?_ ?_ <;> intro _))) | refine Ak ?_ | refine nc ?_ ?_ | (with_reducible intro _ <;> (try (exfalso; omega))) | refine Ad ?_ | (refine nd ?_ ?_ <;> intro hg <;> first | exact xo hg | rw [hg]))
  exact Az []
 | [r, g, b], _ =>
  have h1 := r.toNat_lt
  have c1 := FY r [g, b]
  have h2 := g.toNat_lt
  have c2 := FY g [b]
  have h3 := b.toNat_lt
  have c3 := FY b []
  have cn := HY
  refine AJ fun B M => ?_
  repeat' (first | refine Al ?_ | (refine Ay ?_; first | refine Ae 272 fun _ => ?_ | refine Aq ?_ | refine Aw ?_ | refine Ax ?_) | refine Ak ?_ | refine nc ?_ ?_ | (with_reducible intro _ <;> (try (exfalso; omega))) | refine Ad ?_ | (refine nd ?_ ?_ <;> intro hg <;> first | exact xo hg | rw [hg]))
  refine AF 5 ?_
  repeat' (first | refine Al ?_ | (refine Ay ?_; first | refine Aj [(1, none)] c1 ?_ | refine Aj [(1, none)] c2 ?_ | refine Aj [(1, none)] c3 ?_ | refine Aj [(1, none)] cn ?_ | refine Ae 185 fun _ => ?_ | refine Ae 220 fun _ => ?_ | refine Aq ?_ | refine Aw ?_ | refine Ax ?_ | (refine AK (Aa 110) ?_; first | refine Ag (Aa 110) ?_ | refine An (Ai 110) ?_ | (refine Ah (Ab _ 110) ?_ ?_ <;> intro _ <;> (try (exfalso; omega))) | (refine Ao (Ab _ 110) ?_ ?_ <;> intro _))) | refine Ak ?_ | refine nc ?_ ?_ | (with_reducible intro _ <;> (try (exfalso; omega))) | refine Ad ?_ | (refine nd ?_ ?_ <;> intro hg <;> first | exact xo hg | rw [hg]))
  exact Az []
theorem Rt {b t : List UInt8} {i : Bk} (h : EY b = some (i, t)) : 17 ≤ b.length ∧ i = ⟨A3 (b.take 8), A3 ((b.drop 8).take 1), A3 ((b.drop 9).take 8)⟩ ∧ t = b.drop 17 := by
 simp only [EY] at h
 split at h
 ·simp only [Option.some.injEq, Prod.mk.injEq] at h
  exact ⟨by assumption, h.1.symm, h.2.symm⟩
 ·cases h
theorem Rs {b : List UInt8} (h : EY b = none) : b.length < 17 := by
 simp only [EY] at h
 split at h
 ·cases h
 ·omega
theorem Xn (b : List UInt8) (h : 9 ≤ b.length) : C6 Tryz.prog 219 1 [.ptr 0 0, .d (Ar 1)] [.c 0 0 (EX (b.drop 8))] 1 (.ret (.d (AW (A3 ((b.drop 8).take 1))))) [.c 0 0 (EX (b.drop 9))] 1 := by
 have c := Dv true (b.drop 8) 1 (by omega) (by simp; omega)
 rw [List.drop_drop] at c
 exact c
theorem Yt (b : List UInt8) (h : ¬ 9 ≤ b.length) : C6 Tryz.prog 219 1 [.ptr 0 0, .d (Ar 1)] [.c 0 0 (EX (b.drop 8))] 1 (.ret (.d (AW 0))) [.c 0 0 [.d (.sl false true (AH (b.drop 8))), .d (Ar 110)]] 1 := CG true (b.drop 8) 1 (by omega) (by simp; omega)
theorem Ky (b : List UInt8) : A3 (b.take 1) < 256 := by
 have h1 := IP (b.take 1)
 have h2 : 256 ^ (b.take 1).length ≤ 256 ^ 1 := Nat.pow_le_pow_right (by omega) (by simp; omega)
 omega
theorem Lu {px : D} {i : Bk} {k x y x2 y2 z : Int} {c : BL} {w h : Int} {tg : Bk} (b t : List UInt8) (i' : Bk) (hb : EY b = some (i', t)) : C6 Tryz.prog 257 2 [.ptr 0 0, .ptr 0 1] [.c 0 0 (Ks (.ptr 1 0) BW (.d px) i k x y x2 y2 z c w h tg), .c 1 0 (EX b)] 2 (.ret (.tup [])) [.c 0 0 (Ks (.ptr 1 0) BW (.d px) i' k x y x2 y2 z c w h tg), .c 1 0 (EX t)] 2 := by
 obtain ⟨hl, rfl, rfl⟩ := Rt hb
 have hn := Ky (b.drop 8)
 have c1 := rd8 b (by omega)
 have c2 := Xn b (by omega)
 have c3 := rd8 (b.drop 9) (by simp; omega)
 rw [List.drop_drop] at c3
 generalize A3 (b.take 8) = n1 at *
 generalize A3 ((b.drop 8).take 1) = n2 at *
 generalize A3 ((b.drop 9).take 8) = n3 at *
 refine AJ fun B M => ?_
 repeat' (first | refine Al ?_ | (refine Ay ?_; first | refine Aj [(1, none)] c1 ?_ | refine Aj [(1, none)] c2 ?_ | refine Aj [(1, none)] c3 ?_ | refine Ae 185 fun _ => ?_ | refine Ae 220 fun _ => ?_ | refine Aq ?_ | refine Aw ?_ | refine Ax ?_ | (refine AK (Aa 110) ?_; first | refine Ag (Aa 110) ?_ | refine An (Ai 110) ?_ | (refine Ah (Ab _ 110) ?_ ?_ <;> intro _ <;> (try (exfalso; omega))) | (refine Ao (Ab _ 110) ?_ ?_ <;> intro _))) | refine Ak ?_ | refine nc ?_ ?_ | (with_reducible intro _ <;> (try (exfalso; omega))) | refine Ad ?_ | (refine nd ?_ ?_ <;> intro hg <;> first | exact xo hg | rw [hg]))
 exact A4 []
theorem XY {px : D} {i : Bk} {k x y x2 y2 z : Int} {c : BL} {w h : Int} {tg : Bk} (b : List UInt8) (hb : EY b = none) : C6 Tryz.prog 257 2 [.ptr 0 0, .ptr 0 1] [.c 0 0 (Ks (.ptr 1 0) BW (.d px) i k x y x2 y2 z c w h tg), .c 1 0 (EX b)] 2 (.panic (.d (GB 110))) [.c 0 0 (MF (.ptr 1 0) BW), .c 1 0 [.d .any, .d .any]] 2 := by
 have hl := Rs hb
 have hn := Ky (b.drop 8)
 by_cases h1 : 8 ≤ b.length
 ·have c1 := rd8 b h1
  by_cases h2 : 9 ≤ b.length
  ·have c2 := Xn b h2
   have c3 := Xm (b.drop 9) (by simp; omega)
   generalize A3 (b.take 8) = n1 at *
   generalize A3 ((b.drop 8).take 1) = n2 at *
   refine AJ fun B M => ?_
   repeat' (first | refine Al ?_ | (refine Ay ?_; first | refine Aj [(1, none)] c1 ?_ | refine Aj [(1, none)] c2 ?_ | refine Aj [(1, none)] c3 ?_ | refine Ae 185 fun _ => ?_ | refine Ae 220 fun _ => ?_ | refine Aq ?_ | refine Aw ?_ | refine Ax ?_ | (refine AK (Aa 110) ?_; first | refine Ag (Aa 110) ?_ | refine An (Ai 110) ?_ | (refine Ah (Ab _ 110) ?_ ?_ <;> intro _ <;> (try (exfalso; omega))) | (refine Ao (Ab _ 110) ?_ ?_ <;> intro _))) | refine Ak ?_ | refine nc ?_ ?_ | (with_reducible intro _ <;> (try (exfalso; omega))) | refine Ad ?_ | (refine nd ?_ ?_ <;> intro hg <;> first | exact xo hg | rw [hg]))
   exact Az []
  ·have c2 := Yt b h2
   generalize A3 (b.take 8) = n1 at *
   refine AJ fun B M => ?_
   repeat' (first | refine Al ?_ | (refine Ay ?_; first | refine Aj [(1, none)] c1 ?_ | refine Aj [(1, none)] c2 ?_ | refine Ae 185 fun _ => ?_ | refine Ae 220 fun _ => ?_ | refine Aq ?_ | refine Aw ?_ | refine Ax ?_ | (refine AK (Aa 110) ?_; first | refine Ag (Aa 110) ?_ | refine An (Ai 110) ?_ | (refine Ah (Ab _ 110) ?_ ?_ <;> intro _ <;> (try (exfalso; omega))) | (refine Ao (Ab _ 110) ?_ ?_ <;> intro _))) | refine Ak ?_ | refine nc ?_ ?_ | (with_reducible intro _ <;> (try (exfalso; omega))) | refine Ad ?_ | (refine nd ?_ ?_ <;> intro hg <;> first | exact xo hg | rw [hg]))
   exact Az []
 ·have c1 := Xm b h1
  refine AJ fun B M => ?_
  repeat' (first | refine Al ?_ | (refine Ay ?_; first | refine Aj [(1, none)] c1 ?_ | refine Ae 185 fun _ => ?_ | refine Ae 220 fun _ => ?_ | refine Aq ?_ | refine Aw ?_ | refine Ax ?_ | (refine AK (Aa 110) ?_; first | refine Ag (Aa 110) ?_ | refine An (Ai 110) ?_ | (refine Ah (Ab _ 110) ?_ ?_ <;> intro _ <;> (try (exfalso; omega))) | (refine Ao (Ab _ 110) ?_ ?_ <;> intro _))) | refine Ak ?_ | refine nc ?_ ?_ | (with_reducible intro _ <;> (try (exfalso; omega))) | refine Ad ?_ | (refine nd ?_ ?_ <;> intro hg <;> first | exact xo hg | rw [hg]))
  exact Az []
theorem Si {px : D} {i : Bk} {k x y x2 y2 z : Int} {c : BL} {w h : Int} {tg : Bk} (b t : List UInt8) (i' : Bk) (hb : EY b = some (i', t)) : C6 Tryz.prog 252 2 [.ptr 0 0] [.c 0 0 (Ks (.ptr 1 0) BW (.d px) i k x y x2 y2 z c w h tg), .c 1 0 (EX b)] 2 (.ret (.tup [])) [.c 0 0 (Ks (.ptr 1 0) BW (.d px) i k x y x2 y2 z c w h i'), .c 1 0 (EX t)] 2 := by
 obtain ⟨hl, rfl, rfl⟩ := Rt hb
 have hn := Ky (b.drop 8)
 have c1 := rd8 b (by omega)
 have c2 := Xn b (by omega)
 have c3 := rd8 (b.drop 9) (by simp; omega)
 rw [List.drop_drop] at c3
 generalize A3 (b.take 8) = n1 at *
 generalize A3 ((b.drop 8).take 1) = n2 at *
 generalize A3 ((b.drop 9).take 8) = n3 at *
 refine AJ fun B M => ?_
 repeat' (first | refine Al ?_ | (refine Ay ?_; first | refine Aj [(1, none)] c1 ?_ | refine Aj [(1, none)] c2 ?_ | refine Aj [(1, none)] c3 ?_ | refine Ae 185 fun _ => ?_ | refine Ae 220 fun _ => ?_ | refine Aq ?_ | refine Aw ?_ | refine Ax ?_ | (refine AK (Aa 110) ?_; first | refine Ag (Aa 110) ?_ | refine An (Ai 110) ?_ | (refine Ah (Ab _ 110) ?_ ?_ <;> intro _ <;> (try (exfalso; omega))) | (refine Ao (Ab _ 110) ?_ ?_ <;> intro _)) | refine Ae 257 fun _ => ?_) | refine Ak ?_ | refine nc ?_ ?_ | (with_reducible intro _ <;> (try (exfalso; omega))) | refine Ad ?_ | (refine nd ?_ ?_ <;> intro hg <;> first | exact xo hg | rw [hg]))
 exact A4 []
theorem PP {px : D} {i : Bk} {k x y x2 y2 z : Int} {c : BL} {w h : Int} {tg : Bk} (b : List UInt8) (hb : EY b = none) : C6 Tryz.prog 252 2 [.ptr 0 0] [.c 0 0 (Ks (.ptr 1 0) BW (.d px) i k x y x2 y2 z c w h tg), .c 1 0 (EX b)] 2 (.panic (.d (GB 110))) [.c 0 0 (MF (.ptr 1 0) BW), .c 1 0 [.d .any, .d .any]] 2 := by
 have hl := Rs hb
 have hn := Ky (b.drop 8)
 by_cases h1 : 8 ≤ b.length
 ·have c1 := rd8 b h1
  by_cases h2 : 9 ≤ b.length
  ·have c2 := Xn b h2
   have c3 := Xm (b.drop 9) (by simp; omega)
   generalize A3 (b.take 8) = n1 at *
   generalize A3 ((b.drop 8).take 1) = n2 at *
   refine AJ fun B M => ?_
   repeat' (first | refine Al ?_ | (refine Ay ?_; first | refine Aj [(1, none)] c1 ?_ | refine Aj [(1, none)] c2 ?_ | refine Aj [(1, none)] c3 ?_ | refine Ae 185 fun _ => ?_ | refine Ae 220 fun _ => ?_ | refine Aq ?_ | refine Aw ?_ | refine Ax ?_ | (refine AK (Aa 110) ?_; first | refine Ag (Aa 110) ?_ | refine An (Ai 110) ?_ | (refine Ah (Ab _ 110) ?_ ?_ <;> intro _ <;> (try (exfalso; omega))) | (refine Ao (Ab _ 110) ?_ ?_ <;> intro _)) | refine Ae 257 fun _ => ?_) | refine Ak ?_ | refine nc ?_ ?_ | (with_reducible intro _ <;> (try (exfalso; omega))) | refine Ad ?_ | (refine nd ?_ ?_ <;> intro hg <;> first | exact xo hg | rw [hg]))
   exact Az []
  ·have c2 := Yt b h2
   generalize A3 (b.take 8) = n1 at *
   refine AJ fun B M => ?_
   repeat' (first | refine Al ?_ | (refine Ay ?_; first | refine Aj [(1, none)] c1 ?_ | refine Aj [(1, none)] c2 ?_ | refine Ae 185 fun _ => ?_ | refine Ae 220 fun _ => ?_ | refine Aq ?_ | refine Aw ?_ | refine Ax ?_ | (refine AK (Aa 110) ?_; first | refine Ag (Aa 110) ?_ | refine An (Ai 110) ?_ | (refine Ah (Ab _ 110) ?_ ?_ <;> intro _ <;> (try (exfalso; omega))) | (refine Ao (Ab _ 110) ?_ ?_ <;> intro _)) | refine Ae 257 fun _ => ?_) | refine Ak ?_ | refine nc ?_ ?_ | (with_reducible intro _ <;> (try (exfalso; omega))) | refine Ad ?_ | (refine nd ?_ ?_ <;> intro hg <;> first | exact xo hg | rw [hg]))
   exact Az []
 ·have c1 := Xm b h1
  refine AJ fun B M => ?_
  repeat' (first | refine Al ?_ | (refine Ay ?_; first | refine Aj [(1, none)] c1 ?_ | refine Ae 185 fun _ => ?_ | refine Ae 220 fun _ => ?_ | refine Aq ?_ | refine Aw ?_ | refine Ax ?_ | (refine AK (Aa 110) ?_; first | refine Ag (Aa 110) ?_ | refine An (Ai 110) ?_ | (refine Ah (Ab _ 110) ?_ ?_ <;> intro _ <;> (try (exfalso; omega))) | (refine Ao (Ab _ 110) ?_ ?_ <;> intro _)) | refine Ae 257 fun _ => ?_) | refine Ak ?_ | refine nc ?_ ?_ | (with_reducible intro _ <;> (try (exfalso; omega))) | refine Ad ?_ | (refine nd ?_ ?_ <;> intro hg <;> first | exact xo hg | rw [hg]))
  exact Az []

end Go.Proofs.YtbgcjnfhadhjeaaGreat