/- Walks by data and names, part 43: Layer 19, by V: operations, read: brushes, rectangles. -/
import Derived.Test.YtbgcjnfhadhjeaaGreatPk42
namespace Go.Proofs.YtbgcjnfhadhjeaaGreat
set_option maxRecDepth 20000
open Go.RowKit
set_option maxRecDepth 10000
set_option maxHeartbeats 4000000
theorem AbJ (k : UInt8) (t b : List UInt8) (i : Bk) (hk : k.toNat = 1 ∨ k.toNat = 2) (hi : EY t = some (i, b)) : VM Tryz.prog 223 2 [.ptr 0 0] [.c 0 0 (MF (.ptr 1 0) BW), .c 1 0 (EX (k :: t))] 2 (Xj (k :: t)) := by
 have hk8 := k.toNat_lt
 have hidx : (Hj.map V.d)[((k.toNat : Nat) : Int).toNat * 1]? = some (.d (.sl false true SI)) := by rcases hk with hk | hk <;> (rw [hk]; rfl)
 have hln : SI.length = 4 := rfl
 have hr := K8 (k := k) (by omega) hi
 simp only [Eg] at hr
 have cf := Gb
 have c1 := FY k t
 have ci := Lu (px := BF) (i := Bk.zero) (k := (k.toNat : Int)) (x := 0) (y := 0) (x2 := 0) (y2 := 0) (z := 0) (c := BL.zero) (w := 0) (h := 0) (tg := Bk.zero) t b i hi
 rw [if_pos (show (k.toNat : Int) ≤ 6 by omega)] at hr
 intro B
 refine Cm fun M => ?_
 repeat' (first | refine Al ?_ | (refine Ay ?_; first | refine Aj [(1, none)] c1 ?_ | refine Aj [(0, none), (1, none)] ci ?_ | refine cz (cf) ?_ | refine Ae 185 fun _ => ?_ | refine Ae 220 fun _ => ?_ | refine Aq ?_ | refine Aw ?_ | refine Ax ?_ | (refine AK (Aa 110) ?_; first | refine Ag (Aa 110) ?_ | refine An (Ai 110) ?_ | (refine Ah (Ab _ 110) ?_ ?_ <;> intro _ <;> (try (exfalso; omega))) | (refine Ao (Ab _ 110) ?_ ?_ <;> intro _)) | (refine AK (Aa 290) ?_; first | refine Ag (Aa 290) ?_ | refine An (Ai 290) ?_ | (refine Ah (Ab _ 290) ?_ ?_ <;> intro _ <;> (try (exfalso; omega))) | (refine Ao (Ab _ 290) ?_ ?_ <;> intro _))) | refine Ak ?_ | refine nc ?_ ?_ | (with_reducible intro _ <;> (try (exfalso; omega))) | refine Ad ?_ | (refine nd ?_ ?_ <;> intro hg <;> first | exact xo hg | rw [hg]))
 refine AF 5 ?_
 repeat' (first | refine Al ?_ | refine Ak ?_ | refine nc ?_ ?_ | (with_reducible intro _ <;> (try (exfalso; omega))) | refine Ad ?_ | (refine nd ?_ ?_ <;> intro hg <;> first | exact xo hg | rw [hg]))
 cases e1 : Ft b with
 | none =>
  rw [e1] at hr
  refine Aj [(0, none), (1, none)] (IZ (px := BF) (i := i) (k := (k.toNat : Int)) (x := 0) (y := 0) (x2 := 0) (y2 := 0) (z := 0) (c := BL.zero) (w := 0) (h := 0) (tg := Bk.zero) b e1) ?_
  repeat' (first | refine Al ?_ | refine Ak ?_ | refine nc ?_ ?_ | (with_reducible intro _ <;> (try (exfalso; omega))) | refine Ad ?_ | (refine nd ?_ ?_ <;> intro hg <;> first | exact xo hg | rw [hg]))
  all_goals exact Cd hr (Az [])
 | some q =>
 match b, e1 with
 | u1 :: v1 :: b1, e1 =>
 have hu1 := u1.toNat_lt
 have hv1 := v1.toNat_lt
 rw [show Ft (u1 :: v1 :: b1) = some (((u1.toNat : Int) + -64, (v1.toNat : Int) + -64), b1) from rfl] at hr
 simp only at hr
 refine Aj [(0, none), (1, none)] (KE (px := BF) (i := i) (k := (k.toNat : Int)) (x := 0) (y := 0) (x2 := 0) (y2 := 0) (z := 0) (c := BL.zero) (w := 0) (h := 0) (tg := Bk.zero) u1 v1 b1) ?_
 clear e1
 repeat' (first | refine Al ?_ | refine Ak ?_ | refine nc ?_ ?_ | (with_reducible intro _ <;> (try (exfalso; omega))) | refine Ad ?_ | (refine nd ?_ ?_ <;> intro hg <;> first | exact xo hg | rw [hg]))
 rw [if_pos (show (k.toNat : Int) ≤ 4 by omega)] at hr
 cases e2 : Ft b1 with
 | none =>
  rw [e2] at hr
  refine Aj [(0, none), (1, none)] (TJ (px := BF) (i := i) (k := (k.toNat : Int)) (x := ((u1.toNat : Int) + -64)) (y := ((v1.toNat : Int) + -64)) (x2 := 0) (y2 := 0) (z := 0) (c := BL.zero) (w := 0) (h := 0) (tg := Bk.zero) b1 e2) ?_
  repeat' (first | refine Al ?_ | refine Ak ?_ | refine nc ?_ ?_ | (with_reducible intro _ <;> (try (exfalso; omega))) | refine Ad ?_ | (refine nd ?_ ?_ <;> intro hg <;> first | exact xo hg | rw [hg]))
  all_goals exact Cd hr (Az [])
 | some q =>
 match b1, e2 with
 | u2 :: v2 :: b2, e2 =>
 have hu2 := u2.toNat_lt
 have hv2 := v2.toNat_lt
 rw [show Ft (u2 :: v2 :: b2) = some (((u2.toNat : Int) + -64, (v2.toNat : Int) + -64), b2) from rfl] at hr
 simp only at hr
 refine Aj [(0, none), (1, none)] (Yp (px := BF) (i := i) (k := (k.toNat : Int)) (x := ((u1.toNat : Int) + -64)) (y := ((v1.toNat : Int) + -64)) (x2 := 0) (y2 := 0) (z := 0) (c := BL.zero) (w := 0) (h := 0) (tg := Bk.zero) u2 v2 b2) ?_
 clear e2
 repeat' (first | refine Al ?_ | refine Ak ?_ | refine nc ?_ ?_ | (with_reducible intro _ <;> (try (exfalso; omega))) | refine Ad ?_ | (refine nd ?_ ?_ <;> intro hg <;> first | exact xo hg | rw [hg]))
 rw [if_pos (show (k.toNat : Int) ≤ 2 by omega)] at hr
 cases e3 : Kd b2 with
 | none =>
  rw [e3] at hr
  refine Aj [(0, none), (1, none)] (OH (px := BF) (i := i) (k := (k.toNat : Int)) (x := ((u1.toNat : Int) + -64)) (y := ((v1.toNat : Int) + -64)) (x2 := ((u2.toNat : Int) + -64)) (y2 := ((v2.toNat : Int) + -64)) (z := 0) (c := BL.zero) (w := 0) (h := 0) (tg := Bk.zero) b2 e3) ?_
  repeat' (first | refine Al ?_ | refine Ak ?_ | refine nc ?_ ?_ | (with_reducible intro _ <;> (try (exfalso; omega))) | refine Ad ?_ | (refine nd ?_ ?_ <;> intro hg <;> first | exact xo hg | rw [hg]))
  all_goals exact Cd hr (Az [])
 | some q =>
 match b2, e3 with
 | u3 :: v3 :: b3, e3 =>
 rw [show Kd (u3 :: v3 :: b3) = some (256 * u3.toNat + v3.toNat, b3) from rfl] at hr
 simp only at hr
 refine Aj [(0, none), (1, none)] (Rg (px := BF) (i := i) (k := (k.toNat : Int)) (x := ((u1.toNat : Int) + -64)) (y := ((v1.toNat : Int) + -64)) (x2 := ((u2.toNat : Int) + -64)) (y2 := ((v2.toNat : Int) + -64)) (z := 0) (c := BL.zero) (w := 0) (h := 0) (tg := Bk.zero) u3 v3 b3) ?_
 clear e3
 repeat' (first | refine Al ?_ | refine Ak ?_ | refine nc ?_ ?_ | (with_reducible intro _ <;> (try (exfalso; omega))) | refine Ad ?_ | (refine nd ?_ ?_ <;> intro hg <;> first | exact xo hg | rw [hg]))
 cases e4 : Ew b3 with
 | none =>
  rw [e4] at hr
  refine Aj [(0, none), (1, none)] (JL (px := BF) (i := i) (k := (k.toNat : Int)) (x := ((u1.toNat : Int) + -64)) (y := ((v1.toNat : Int) + -64)) (x2 := ((u2.toNat : Int) + -64)) (y2 := ((v2.toNat : Int) + -64)) (z := ((256 * u3.toNat + v3.toNat : Nat) : Int)) (c := BL.zero) (w := 0) (h := 0) (tg := Bk.zero) b3 e4) ?_
  repeat' (first | refine Al ?_ | refine Ak ?_ | refine nc ?_ ?_ | (with_reducible intro _ <;> (try (exfalso; omega))) | refine Ad ?_ | (refine nd ?_ ?_ <;> intro hg <;> first | exact xo hg | rw [hg]))
  all_goals exact Cd hr (Az [])
 | some q =>
 match b3, e4 with
 | r :: gg :: bl :: a :: b4, e4 =>
 rw [show Ew (r :: gg :: bl :: a :: b4) = some (⟨r, gg, bl, a⟩, b4) from rfl] at hr
 simp only at hr
 refine Aj [(0, none), (1, none)] (LO (px := BF) (i := i) (k := (k.toNat : Int)) (x := ((u1.toNat : Int) + -64)) (y := ((v1.toNat : Int) + -64)) (x2 := ((u2.toNat : Int) + -64)) (y2 := ((v2.toNat : Int) + -64)) (z := ((256 * u3.toNat + v3.toNat : Nat) : Int)) (c := BL.zero) (w := 0) (h := 0) (tg := Bk.zero) r gg bl a b4) ?_
 clear e4
 obtain ⟨o, ho⟩ : ∃ o : Bb, o = ⟨i, (k.toNat : Int), ((u1.toNat : Int) + -64), ((v1.toNat : Int) + -64), ((u2.toNat : Int) + -64), ((v2.toNat : Int) + -64), ((256 * u3.toNat + v3.toNat : Nat) : Int), ⟨r, gg, bl, a⟩, 0, 0, [], Bk.zero⟩ := ⟨_, rfl⟩
 have co := Ez o (by rw [ho]; simp)
 have hr2 : Ev (k :: t) = if Da o then .ok (o, b4) else .error 290 := by rw [hr, ho]; rfl
 clear hr
 cases hB : Da o with
 | false =>
  rw [hB] at co hr2
  simp only [Bool.false_eq_true, if_false] at co hr2
  rw [ho] at co
  simp only [oD, De, List.map_nil] at co
  repeat' (first | refine Al ?_ | (refine Ay ?_; first | refine cz (co) ?_ | (refine AK (Aa 290) ?_; first | refine Ag (Aa 290) ?_ | refine An (Ai 290) ?_ | (refine Ah (Ab _ 290) ?_ ?_ <;> intro _ <;> (try (exfalso; omega))) | (refine Ao (Ab _ 290) ?_ ?_ <;> intro _))) | refine Ak ?_ | refine nc ?_ ?_ | (with_reducible intro _ <;> (try (exfalso; omega))) | refine Ad ?_ | (refine nd ?_ ?_ <;> intro hg <;> first | exact xo hg | rw [hg]))
  all_goals exact Cd hr2 (Az [])
 | true =>
  rw [hB] at co hr2
  simp only [if_true] at co hr2
  rw [ho] at co hr2
  simp only [oD, De, List.map_nil] at co
  repeat' (first | refine Al ?_ | (refine Ay ?_; first | refine cz (co) ?_ | (refine AK (Aa 290) ?_; first | refine Ag (Aa 290) ?_ | refine An (Ai 290) ?_ | (refine Ah (Ab _ 290) ?_ ?_ <;> intro _ <;> (try (exfalso; omega))) | (refine Ao (Ab _ 290) ?_ ?_ <;> intro _))) | refine Ak ?_ | refine nc ?_ ?_ | (with_reducible intro _ <;> (try (exfalso; omega))) | refine Ad ?_ | (refine nd ?_ ?_ <;> intro hg <;> first | exact xo hg | rw [hg]))
  all_goals (refine K9 hr2 ?_; simp only [oM, De, List.map_nil]; exact Gt [])
theorem AbI (k : UInt8) (t b : List UInt8) (i : Bk) (hk : k.toNat = 3 ∨ k.toNat = 4) (hi : EY t = some (i, b)) : VM Tryz.prog 223 2 [.ptr 0 0] [.c 0 0 (MF (.ptr 1 0) BW), .c 1 0 (EX (k :: t))] 2 (Xj (k :: t)) := by
 have hk8 := k.toNat_lt
 have hidx : (Hj.map V.d)[((k.toNat : Nat) : Int).toNat * 1]? = some (.d (.sl false true SH)) := by rcases hk with hk | hk <;> (rw [hk]; rfl)
 have hln : SH.length = 3 := rfl
 have hr := K8 (k := k) (by omega) hi
 simp only [Eg] at hr
 have cf := Gb
 have c1 := FY k t
 have ci := Lu (px := BF) (i := Bk.zero) (k := (k.toNat : Int)) (x := 0) (y := 0) (x2 := 0) (y2 := 0) (z := 0) (c := BL.zero) (w := 0) (h := 0) (tg := Bk.zero) t b i hi
 rw [if_pos (show (k.toNat : Int) ≤ 6 by omega)] at hr
 intro B
 refine Cm fun M => ?_
 repeat' (first | refine Al ?_ | (refine Ay ?_; first | refine Aj [(1, none)] c1 ?_ | refine Aj [(0, none), (1, none)] ci ?_ | refine cz (cf) ?_ | refine Ae 185 fun _ => ?_ | refine Ae 220 fun _ => ?_ | refine Aq ?_ | refine Aw ?_ | refine Ax ?_ | (refine AK (Aa 110) ?_; first | refine Ag (Aa 110) ?_ | refine An (Ai 110) ?_ | (refine Ah (Ab _ 110) ?_ ?_ <;> intro _ <;> (try (exfalso; omega))) | (refine Ao (Ab _ 110) ?_ ?_ <;> intro _)) | (refine AK (Aa 290) ?_; first | refine Ag (Aa 290) ?_ | refine An (Ai 290) ?_ | (refine Ah (Ab _ 290) ?_ ?_ <;> intro _ <;> (try (exfalso; omega))) | (refine Ao (Ab _ 290) ?_ ?_ <;> intro _))) | refine Ak ?_ | refine nc ?_ ?_ | (with_reducible intro _ <;> (try (exfalso; omega))) | refine Ad ?_ | (refine nd ?_ ?_ <;> intro hg <;> first | exact xo hg | rw [hg]))
 refine AF 4 ?_
 repeat' (first | refine Al ?_ | refine Ak ?_ | refine nc ?_ ?_ | (with_reducible intro _ <;> (try (exfalso; omega))) | refine Ad ?_ | (refine nd ?_ ?_ <;> intro hg <;> first | exact xo hg | rw [hg]))
 cases e1 : Ft b with
 | none =>
  rw [e1] at hr
  refine Aj [(0, none), (1, none)] (IZ (px := BF) (i := i) (k := (k.toNat : Int)) (x := 0) (y := 0) (x2 := 0) (y2 := 0) (z := 0) (c := BL.zero) (w := 0) (h := 0) (tg := Bk.zero) b e1) ?_
  repeat' (first | refine Al ?_ | refine Ak ?_ | refine nc ?_ ?_ | (with_reducible intro _ <;> (try (exfalso; omega))) | refine Ad ?_ | (refine nd ?_ ?_ <;> intro hg <;> first | exact xo hg | rw [hg]))
  all_goals exact Cd hr (Az [])
 | some q =>
 match b, e1 with
 | u1 :: v1 :: b1, e1 =>
 have hu1 := u1.toNat_lt
 have hv1 := v1.toNat_lt
 rw [show Ft (u1 :: v1 :: b1) = some (((u1.toNat : Int) + -64, (v1.toNat : Int) + -64), b1) from rfl] at hr
 simp only at hr
 refine Aj [(0, none), (1, none)] (KE (px := BF) (i := i) (k := (k.toNat : Int)) (x := 0) (y := 0) (x2 := 0) (y2 := 0) (z := 0) (c := BL.zero) (w := 0) (h := 0) (tg := Bk.zero) u1 v1 b1) ?_
 clear e1
 repeat' (first | refine Al ?_ | refine Ak ?_ | refine nc ?_ ?_ | (with_reducible intro _ <;> (try (exfalso; omega))) | refine Ad ?_ | (refine nd ?_ ?_ <;> intro hg <;> first | exact xo hg | rw [hg]))
 rw [if_pos (show (k.toNat : Int) ≤ 4 by omega)] at hr
 cases e2 : Ft b1 with
 | none =>
  rw [e2] at hr
  refine Aj [(0, none), (1, none)] (TJ (px := BF) (i := i) (k := (k.toNat : Int)) (x := ((u1.toNat : Int) + -64)) (y := ((v1.toNat : Int) + -64)) (x2 := 0) (y2 := 0) (z := 0) (c := BL.zero) (w := 0) (h := 0) (tg := Bk.zero) b1 e2) ?_
  repeat' (first | refine Al ?_ | refine Ak ?_ | refine nc ?_ ?_ | (with_reducible intro _ <;> (try (exfalso; omega))) | refine Ad ?_ | (refine nd ?_ ?_ <;> intro hg <;> first | exact xo hg | rw [hg]))
  all_goals exact Cd hr (Az [])
 | some q =>
 match b1, e2 with
 | u2 :: v2 :: b2, e2 =>
 have hu2 := u2.toNat_lt
 have hv2 := v2.toNat_lt
 rw [show Ft (u2 :: v2 :: b2) = some (((u2.toNat : Int) + -64, (v2.toNat : Int) + -64), b2) from rfl] at hr
 simp only at hr
 refine Aj [(0, none), (1, none)] (Yp (px := BF) (i := i) (k := (k.toNat : Int)) (x := ((u1.toNat : Int) + -64)) (y := ((v1.toNat : Int) + -64)) (x2 := 0) (y2 := 0) (z := 0) (c := BL.zero) (w := 0) (h := 0) (tg := Bk.zero) u2 v2 b2) ?_
 clear e2
 repeat' (first | refine Al ?_ | refine Ak ?_ | refine nc ?_ ?_ | (with_reducible intro _ <;> (try (exfalso; omega))) | refine Ad ?_ | (refine nd ?_ ?_ <;> intro hg <;> first | exact xo hg | rw [hg]))
 rw [if_neg (show ¬ (k.toNat : Int) ≤ 2 by omega)] at hr
 cases e3 : Ew b2 with
 | none =>
  rw [e3] at hr
  refine Aj [(0, none), (1, none)] (JL (px := BF) (i := i) (k := (k.toNat : Int)) (x := ((u1.toNat : Int) + -64)) (y := ((v1.toNat : Int) + -64)) (x2 := ((u2.toNat : Int) + -64)) (y2 := ((v2.toNat : Int) + -64)) (z := 0) (c := BL.zero) (w := 0) (h := 0) (tg := Bk.zero) b2 e3) ?_
  repeat' (first | refine Al ?_ | refine Ak ?_ | refine nc ?_ ?_ | (with_reducible intro _ <;> (try (exfalso; omega))) | refine Ad ?_ | (refine nd ?_ ?_ <;> intro hg <;> first | exact xo hg | rw [hg]))
  all_goals exact Cd hr (Az [])
 | some q =>
 match b2, e3 with
 | r :: gg :: bl :: a :: b3, e3 =>
 rw [show Ew (r :: gg :: bl :: a :: b3) = some (⟨r, gg, bl, a⟩, b3) from rfl] at hr
 simp only at hr
 refine Aj [(0, none), (1, none)] (LO (px := BF) (i := i) (k := (k.toNat : Int)) (x := ((u1.toNat : Int) + -64)) (y := ((v1.toNat : Int) + -64)) (x2 := ((u2.toNat : Int) + -64)) (y2 := ((v2.toNat : Int) + -64)) (z := 0) (c := BL.zero) (w := 0) (h := 0) (tg := Bk.zero) r gg bl a b3) ?_
 clear e3
 obtain ⟨o, ho⟩ : ∃ o : Bb, o = ⟨i, (k.toNat : Int), ((u1.toNat : Int) + -64), ((v1.toNat : Int) + -64), ((u2.toNat : Int) + -64), ((v2.toNat : Int) + -64), 0, ⟨r, gg, bl, a⟩, 0, 0, [], Bk.zero⟩ := ⟨_, rfl⟩
 have co := Ez o (by rw [ho]; simp)
 have hr2 : Ev (k :: t) = if Da o then .ok (o, b3) else .error 290 := by rw [hr, ho]; rfl
 clear hr
 cases hB : Da o with
 | false =>
  rw [hB] at co hr2
  simp only [Bool.false_eq_true, if_false] at co hr2
  rw [ho] at co
  simp only [oD, De, List.map_nil] at co
  repeat' (first | refine Al ?_ | (refine Ay ?_; first | refine cz (co) ?_ | (refine AK (Aa 290) ?_; first | refine Ag (Aa 290) ?_ | refine An (Ai 290) ?_ | (refine Ah (Ab _ 290) ?_ ?_ <;> intro _ <;> (try (exfalso; omega))) | (refine Ao (Ab _ 290) ?_ ?_ <;> intro _))) | refine Ak ?_ | refine nc ?_ ?_ | (with_reducible intro _ <;> (try (exfalso; omega))) | refine Ad ?_ | (refine nd ?_ ?_ <;> intro hg <;> first | exact xo hg | rw [hg]))
  all_goals exact Cd hr2 (Az [])
 | true =>
  rw [hB] at co hr2
  simp only [if_true] at co hr2
  rw [ho] at co hr2
  simp only [oD, De, List.map_nil] at co
  repeat' (first | refine Al ?_ | (refine Ay ?_; first | refine cz (co) ?_ | (refine AK (Aa 290) ?_; first | refine Ag (Aa 290) ?_ | refine An (Ai 290) ?_ | (refine Ah (Ab _ 290) ?_ ?_ <;> intro _ <;> (try (exfalso; omega))) | (refine Ao (Ab _ 290) ?_ ?_ <;> intro _))) | refine Ak ?_ | refine nc ?_ ?_ | (with_reducible intro _ <;> (try (exfalso; omega))) | refine Ad ?_ | (refine nd ?_ ?_ <;> intro hg <;> first | exact xo hg | rw [hg]))
  all_goals (refine K9 hr2 ?_; simp only [oM, De, List.map_nil]; exact Gt [])

end Go.Proofs.YtbgcjnfhadhjeaaGreat