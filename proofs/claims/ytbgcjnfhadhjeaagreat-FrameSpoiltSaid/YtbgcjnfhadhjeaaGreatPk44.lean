/- Walks by data and names, part 44: Layer 19, by V: operations, read: the others. Layer 19, by V: TakeOp. -/
import Derived.Test.YtbgcjnfhadhjeaaGreatPk42
import Derived.Test.YtbgcjnfhadhjeaaGreatPk43
namespace Go.Proofs.YtbgcjnfhadhjeaaGreat
set_option maxRecDepth 20000
open Go.RowKit
set_option maxRecDepth 10000
set_option maxHeartbeats 4000000
theorem AbH (k : UInt8) (t b : List UInt8) (i : Bk) (hk : k.toNat = 5) (hi : EY t = some (i, b)) : VM Tryz.prog 223 2 [.ptr 0 0] [.c 0 0 (MF (.ptr 1 0) BW), .c 1 0 (EX (k :: t))] 2 (Xj (k :: t)) := by
 have hk8 := k.toNat_lt
 have hidx : (Hj.map V.d)[((k.toNat : Nat) : Int).toNat * 1]? = some (.d (.sl false true VU)) := by rw [hk]; rfl
 have hln : VU.length = 3 := rfl
 have hr := K8 (k := k) (by omega) hi
 simp only [Eg] at hr
 have cf := Gb
 have c1 := FY k t
 have ci := Lu (px := BF) (i := Bk.zero) (k := (k.toNat : Int)) (x := 0) (y := 0) (x2 := 0) (y2 := 0) (z := 0) (c := BL.zero) (w := 0) (h := 0) (tg := Bk.zero) t b i hi
 rw [if_pos (show (k.toNat : Int) ≤ 6 by omega)] at hr
 intro B
 refine Cm fun M => ?_
 repeat' (first | refine Al ?_ | (refine Ay ?_; first | refine Aj [(1, none)] c1 ?_ | refine Aj [(0, none), (1, none)] ci ?_ | refine cz (cf) ?_ | refine Ae 185 fun _ => ?_ | refine Ae 220 fun _ => ?_ | refine Aq ?_ | refine Aw ?_ | refine Ax ?_ | (refine AK (Aa 110) ?_; first | refine Ag (Aa 110) ?_ | refine An (Ai 110) ?_ | (refine Ah (Ab _ 110) ?_ ?_ <;> intro _ <;> (try (exfalso; omega))) | (refine Ao (Ab _ 110) ?_ ?_ <;> intro _)) | (refine AK (Aa 290) ?_; first | refine Ag (Aa 290) ?_ | refine An (Ai 290) ?_ | (refine Ah (Ab _ 290) ?_ ?_ <;> intro _ <;> (try (exfalso; omega))) | (refine Ao (Ab _ 290) ?_ ?_ <;> intro _))) | refine Ak ?_ | refine nc ?_ ?_ | (with_reducible intro _ <;> (try (exfalso; omega))) | refine Ad ?_ | (refine nd ?_ ?_ <;> intro hg <;> first | exact xo hg | rw [hg]))
 refine AF 4 ?_
 repeat' (first | refine Al ?_ | refine Ak ?_ | refine nc ?_ ?_ | (with_reducible intro _ <;> (try (exfalso; omega))) | refine Ad ?_ | (refine nd ?_ ?_ <;> intro hg <;> first | exact xo hg | rw [hg]))
 cases e1 : Ft b with
 | none =>
  rw [e1] at hr
  refine Aj [(0, none), (1, none)] (IZ (px := BF) (i := i) (k := (k.toNat : Int)) (x := 0) (y := 0) (x2 := 0) (y2 := 0) (z := 0) (c := BL.zero) (w := 0) (h := 0) (tg := Bk.zero) b e1) ?_
  repeat' (first | refine Al ?_ | refine Ak ?_ | refine nc ?_ ?_ | (with_reducible intro _ <;> (try (exfalso; omega))) | refine Ad ?_ | (refine nd ?_ ?_ <;> intro hg <;> first | exact xo hg | rw [hg]))
  all_goals exact Cd hr (Az [])
 | some q =>
 match b, e1 with
 | u1 :: v1 :: b1, e1 =>
 have hu1 := u1.toNat_lt
 have hv1 := v1.toNat_lt
 rw [show Ft (u1 :: v1 :: b1) = some (((u1.toNat : Int) + -64, (v1.toNat : Int) + -64), b1) from rfl] at hr
 simp only at hr
 refine Aj [(0, none), (1, none)] (KE (px := BF) (i := i) (k := (k.toNat : Int)) (x := 0) (y := 0) (x2 := 0) (y2 := 0) (z := 0) (c := BL.zero) (w := 0) (h := 0) (tg := Bk.zero) u1 v1 b1) ?_
 clear e1
 repeat' (first | refine Al ?_ | refine Ak ?_ | refine nc ?_ ?_ | (with_reducible intro _ <;> (try (exfalso; omega))) | refine Ad ?_ | (refine nd ?_ ?_ <;> intro hg <;> first | exact xo hg | rw [hg]))
 rw [if_neg (show ¬ (k.toNat : Int) ≤ 4 by omega), if_pos (show (k.toNat : Int) = 5 by omega)] at hr
 cases e2 : Kd b1 with
 | none =>
  rw [e2] at hr
  refine Aj [(0, none), (1, none)] (OH (px := BF) (i := i) (k := (k.toNat : Int)) (x := ((u1.toNat : Int) + -64)) (y := ((v1.toNat : Int) + -64)) (x2 := 0) (y2 := 0) (z := 0) (c := BL.zero) (w := 0) (h := 0) (tg := Bk.zero) b1 e2) ?_
  repeat' (first | refine Al ?_ | refine Ak ?_ | refine nc ?_ ?_ | (with_reducible intro _ <;> (try (exfalso; omega))) | refine Ad ?_ | (refine nd ?_ ?_ <;> intro hg <;> first | exact xo hg | rw [hg]))
  all_goals exact Cd hr (Az [])
 | some q =>
 match b1, e2 with
 | u2 :: v2 :: b2, e2 =>
 rw [show Kd (u2 :: v2 :: b2) = some (256 * u2.toNat + v2.toNat, b2) from rfl] at hr
 simp only at hr
 refine Aj [(0, none), (1, none)] (Rg (px := BF) (i := i) (k := (k.toNat : Int)) (x := ((u1.toNat : Int) + -64)) (y := ((v1.toNat : Int) + -64)) (x2 := 0) (y2 := 0) (z := 0) (c := BL.zero) (w := 0) (h := 0) (tg := Bk.zero) u2 v2 b2) ?_
 clear e2
 repeat' (first | refine Al ?_ | refine Ak ?_ | refine nc ?_ ?_ | (with_reducible intro _ <;> (try (exfalso; omega))) | refine Ad ?_ | (refine nd ?_ ?_ <;> intro hg <;> first | exact xo hg | rw [hg]))
 cases e3 : Ew b2 with
 | none =>
  rw [e3] at hr
  refine Aj [(0, none), (1, none)] (JL (px := BF) (i := i) (k := (k.toNat : Int)) (x := ((u1.toNat : Int) + -64)) (y := ((v1.toNat : Int) + -64)) (x2 := 0) (y2 := 0) (z := ((256 * u2.toNat + v2.toNat : Nat) : Int)) (c := BL.zero) (w := 0) (h := 0) (tg := Bk.zero) b2 e3) ?_
  repeat' (first | refine Al ?_ | refine Ak ?_ | refine nc ?_ ?_ | (with_reducible intro _ <;> (try (exfalso; omega))) | refine Ad ?_ | (refine nd ?_ ?_ <;> intro hg <;> first | exact xo hg | rw [hg]))
  all_goals exact Cd hr (Az [])
 | some q =>
 match b2, e3 with
 | r :: gg :: bl :: a :: b3, e3 =>
 rw [show Ew (r :: gg :: bl :: a :: b3) = some (⟨r, gg, bl, a⟩, b3) from rfl] at hr
 simp only at hr
 refine Aj [(0, none), (1, none)] (LO (px := BF) (i := i) (k := (k.toNat : Int)) (x := ((u1.toNat : Int) + -64)) (y := ((v1.toNat : Int) + -64)) (x2 := 0) (y2 := 0) (z := ((256 * u2.toNat + v2.toNat : Nat) : Int)) (c := BL.zero) (w := 0) (h := 0) (tg := Bk.zero) r gg bl a b3) ?_
 clear e3
 obtain ⟨o, ho⟩ : ∃ o : Bb, o = ⟨i, (k.toNat : Int), ((u1.toNat : Int) + -64), ((v1.toNat : Int) + -64), 0, 0, ((256 * u2.toNat + v2.toNat : Nat) : Int), ⟨r, gg, bl, a⟩, 0, 0, [], Bk.zero⟩ := ⟨_, rfl⟩
 have co := Ez o (by rw [ho]; simp)
 have hr2 : Ev (k :: t) = if Da o then .ok (o, b3) else .error 290 := by rw [hr, ho]; rfl
 clear hr
 cases hB : Da o with
 | false =>
  rw [hB] at co hr2
  simp only [Bool.false_eq_true, if_false] at co hr2
  rw [ho] at co
  simp only [oD, De, List.map_nil] at co
  repeat' (first | refine Al ?_ | (refine Ay ?_; first | refine cz (co) ?_ | (refine AK (Aa 290) ?_; first | refine Ag (Aa 290) ?_ | refine An (Ai 290) ?_ | (refine Ah (Ab _ 290) ?_ ?_ <;> intro _ <;> (try (exfalso; omega))) | (refine Ao (Ab _ 290) ?_ ?_ <;> intro _))) | refine Ak ?_ | refine nc ?_ ?_ | (with_reducible intro _ <;> (try (exfalso; omega))) | refine Ad ?_ | (refine nd ?_ ?_ <;> intro hg <;> first | exact xo hg | rw [hg]))
  all_goals exact Cd hr2 (Az [])
 | true =>
  rw [hB] at co hr2
  simp only [if_true] at co hr2
  rw [ho] at co hr2
  simp only [oD, De, List.map_nil] at co
  repeat' (first | refine Al ?_ | (refine Ay ?_; first | refine cz (co) ?_ | (refine AK (Aa 290) ?_; first | refine Ag (Aa 290) ?_ | refine An (Ai 290) ?_ | (refine Ah (Ab _ 290) ?_ ?_ <;> intro _ <;> (try (exfalso; omega))) | (refine Ao (Ab _ 290) ?_ ?_ <;> intro _))) | refine Ak ?_ | refine nc ?_ ?_ | (with_reducible intro _ <;> (try (exfalso; omega))) | refine Ad ?_ | (refine nd ?_ ?_ <;> intro hg <;> first | exact xo hg | rw [hg]))
  all_goals (refine K9 hr2 ?_; simp only [oM, De, List.map_nil]; exact Gt [])
theorem AbG (k : UInt8) (t b : List UInt8) (i : Bk) (hk : k.toNat = 6) (hi : EY t = some (i, b)) : VM Tryz.prog 223 2 [.ptr 0 0] [.c 0 0 (MF (.ptr 1 0) BW), .c 1 0 (EX (k :: t))] 2 (Xj (k :: t)) := by
 have hk8 := k.toNat_lt
 have hidx : (Hj.map V.d)[((k.toNat : Nat) : Int).toNat * 1]? = some (.d (.sl false true Pp)) := by rw [hk]; rfl
 have hln : Pp.length = 2 := rfl
 have hr := K8 (k := k) (by omega) hi
 simp only [Eg] at hr
 have cf := Gb
 have c1 := FY k t
 have ci := Lu (px := BF) (i := Bk.zero) (k := (k.toNat : Int)) (x := 0) (y := 0) (x2 := 0) (y2 := 0) (z := 0) (c := BL.zero) (w := 0) (h := 0) (tg := Bk.zero) t b i hi
 rw [if_pos (show (k.toNat : Int) ≤ 6 by omega)] at hr
 intro B
 refine Cm fun M => ?_
 repeat' (first | refine Al ?_ | (refine Ay ?_; first | refine Aj [(1, none)] c1 ?_ | refine Aj [(0, none), (1, none)] ci ?_ | refine cz (cf) ?_ | refine Ae 185 fun _ => ?_ | refine Ae 220 fun _ => ?_ | refine Aq ?_ | refine Aw ?_ | refine Ax ?_ | (refine AK (Aa 110) ?_; first | refine Ag (Aa 110) ?_ | refine An (Ai 110) ?_ | (refine Ah (Ab _ 110) ?_ ?_ <;> intro _ <;> (try (exfalso; omega))) | (refine Ao (Ab _ 110) ?_ ?_ <;> intro _)) | (refine AK (Aa 290) ?_; first | refine Ag (Aa 290) ?_ | refine An (Ai 290) ?_ | (refine Ah (Ab _ 290) ?_ ?_ <;> intro _ <;> (try (exfalso; omega))) | (refine Ao (Ab _ 290) ?_ ?_ <;> intro _))) | refine Ak ?_ | refine nc ?_ ?_ | (with_reducible intro _ <;> (try (exfalso; omega))) | refine Ad ?_ | (refine nd ?_ ?_ <;> intro hg <;> first | exact xo hg | rw [hg]))
 refine AF 3 ?_
 repeat' (first | refine Al ?_ | refine Ak ?_ | refine nc ?_ ?_ | (with_reducible intro _ <;> (try (exfalso; omega))) | refine Ad ?_ | (refine nd ?_ ?_ <;> intro hg <;> first | exact xo hg | rw [hg]))
 cases e1 : Ft b with
 | none =>
  rw [e1] at hr
  refine Aj [(0, none), (1, none)] (IZ (px := BF) (i := i) (k := (k.toNat : Int)) (x := 0) (y := 0) (x2 := 0) (y2 := 0) (z := 0) (c := BL.zero) (w := 0) (h := 0) (tg := Bk.zero) b e1) ?_
  repeat' (first | refine Al ?_ | refine Ak ?_ | refine nc ?_ ?_ | (with_reducible intro _ <;> (try (exfalso; omega))) | refine Ad ?_ | (refine nd ?_ ?_ <;> intro hg <;> first | exact xo hg | rw [hg]))
  all_goals exact Cd hr (Az [])
 | some q =>
 match b, e1 with
 | u1 :: v1 :: b1, e1 =>
 have hu1 := u1.toNat_lt
 have hv1 := v1.toNat_lt
 rw [show Ft (u1 :: v1 :: b1) = some (((u1.toNat : Int) + -64, (v1.toNat : Int) + -64), b1) from rfl] at hr
 simp only at hr
 refine Aj [(0, none), (1, none)] (KE (px := BF) (i := i) (k := (k.toNat : Int)) (x := 0) (y := 0) (x2 := 0) (y2 := 0) (z := 0) (c := BL.zero) (w := 0) (h := 0) (tg := Bk.zero) u1 v1 b1) ?_
 clear e1
 repeat' (first | refine Al ?_ | refine Ak ?_ | refine nc ?_ ?_ | (with_reducible intro _ <;> (try (exfalso; omega))) | refine Ad ?_ | (refine nd ?_ ?_ <;> intro hg <;> first | exact xo hg | rw [hg]))
 rw [if_neg (show ¬ (k.toNat : Int) ≤ 4 by omega), if_neg (show ¬ (k.toNat : Int) = 5 by omega)] at hr
 cases e2 : Gq b1 with
 | error er =>
  rw [e2] at hr
  refine Aj [(0, none), (1, none)] (Sr (px := BF) (i := i) (k := (k.toNat : Int)) (x := ((u1.toNat : Int) + -64)) (y := ((v1.toNat : Int) + -64)) (x2 := 0) (y2 := 0) (z := 0) (c := BL.zero) (w0 := 0) (h0 := 0) (tg := Bk.zero) b1 er e2) ?_
  repeat' (first | refine Al ?_ | refine Ak ?_ | refine nc ?_ ?_ | (with_reducible intro _ <;> (try (exfalso; omega))) | refine Ad ?_ | (refine nd ?_ ?_ <;> intro hg <;> first | exact xo hg | rw [hg]))
  all_goals exact Cd hr (Az [])
 | ok q =>
 obtain ⟨⟨w, h, l⟩, b2⟩ := q
 rw [e2] at hr
 simp only at hr
 refine Aj [(0, none), (1, none)] (TU (px := BF) (i := i) (k := (k.toNat : Int)) (x := ((u1.toNat : Int) + -64)) (y := ((v1.toNat : Int) + -64)) (x2 := 0) (y2 := 0) (z := 0) (c := BL.zero) (w0 := 0) (h0 := 0) (tg := Bk.zero) b1 b2 w h l e2) ?_
 obtain ⟨o, ho⟩ : ∃ o : Bb, o = ⟨i, (k.toNat : Int), ((u1.toNat : Int) + -64), ((v1.toNat : Int) + -64), 0, 0, 0, BL.zero, (w : Int), (h : Int), l, Bk.zero⟩ := ⟨_, rfl⟩
 have co := Ez o (by rw [ho]; exact Nat.le_trans (Ut e2) (by omega))
 have hr2 : Ev (k :: t) = if Da o then .ok (o, b2) else .error 290 := by rw [hr, ho]; rfl
 clear hr
 cases hB : Da o with
 | false =>
  rw [hB] at co hr2
  simp only [Bool.false_eq_true, if_false] at co hr2
  rw [ho] at co
  simp only [oD, De] at co
  repeat' (first | refine Al ?_ | (refine Ay ?_; first | refine cz (co) ?_ | (refine AK (Aa 290) ?_; first | refine Ag (Aa 290) ?_ | refine An (Ai 290) ?_ | (refine Ah (Ab _ 290) ?_ ?_ <;> intro _ <;> (try (exfalso; omega))) | (refine Ao (Ab _ 290) ?_ ?_ <;> intro _))) | refine Ak ?_ | refine nc ?_ ?_ | (with_reducible intro _ <;> (try (exfalso; omega))) | refine Ad ?_ | (refine nd ?_ ?_ <;> intro hg <;> first | exact xo hg | rw [hg]))
  all_goals exact Cd hr2 (Az [])
 | true =>
  rw [hB] at co hr2
  simp only [if_true] at co hr2
  rw [ho] at co hr2
  simp only [oD, De] at co
  repeat' (first | refine Al ?_ | (refine Ay ?_; first | refine cz (co) ?_ | (refine AK (Aa 290) ?_; first | refine Ag (Aa 290) ?_ | refine An (Ai 290) ?_ | (refine Ah (Ab _ 290) ?_ ?_ <;> intro _ <;> (try (exfalso; omega))) | (refine Ao (Ab _ 290) ?_ ?_ <;> intro _))) | refine Ak ?_ | refine nc ?_ ?_ | (with_reducible intro _ <;> (try (exfalso; omega))) | refine Ad ?_ | (refine nd ?_ ?_ <;> intro hg <;> first | exact xo hg | rw [hg]))
  all_goals (refine K9 hr2 ?_; simp only [oM, De]; exact Gt [])
theorem AbF (k : UInt8) (t b : List UInt8) (i : Bk) (hk : k.toNat = 7 ∨ k.toNat = 8) (hi : EY t = some (i, b)) : VM Tryz.prog 223 2 [.ptr 0 0] [.c 0 0 (MF (.ptr 1 0) BW), .c 1 0 (EX (k :: t))] 2 (Xj (k :: t)) := by
 have hk8 := k.toNat_lt
 have hidx : (Hj.map V.d)[((k.toNat : Nat) : Int).toNat * 1]? = some (.d (.sl false true SG)) := by rcases hk with hk | hk <;> (rw [hk]; rfl)
 have hln : SG.length = 1 := rfl
 have hr := K8 (k := k) (by omega) hi
 simp only [Eg] at hr
 have cf := Gb
 have c1 := FY k t
 have ci := Lu (px := BF) (i := Bk.zero) (k := (k.toNat : Int)) (x := 0) (y := 0) (x2 := 0) (y2 := 0) (z := 0) (c := BL.zero) (w := 0) (h := 0) (tg := Bk.zero) t b i hi
 rw [if_neg (show ¬ (k.toNat : Int) ≤ 6 by omega)] at hr
 intro B
 refine Cm fun M => ?_
 repeat' (first | refine Al ?_ | (refine Ay ?_; first | refine Aj [(1, none)] c1 ?_ | refine Aj [(0, none), (1, none)] ci ?_ | refine cz (cf) ?_ | refine Ae 185 fun _ => ?_ | refine Ae 220 fun _ => ?_ | refine Aq ?_ | refine Aw ?_ | refine Ax ?_ | (refine AK (Aa 110) ?_; first | refine Ag (Aa 110) ?_ | refine An (Ai 110) ?_ | (refine Ah (Ab _ 110) ?_ ?_ <;> intro _ <;> (try (exfalso; omega))) | (refine Ao (Ab _ 110) ?_ ?_ <;> intro _)) | (refine AK (Aa 290) ?_; first | refine Ag (Aa 290) ?_ | refine An (Ai 290) ?_ | (refine Ah (Ab _ 290) ?_ ?_ <;> intro _ <;> (try (exfalso; omega))) | (refine Ao (Ab _ 290) ?_ ?_ <;> intro _))) | refine Ak ?_ | refine nc ?_ ?_ | (with_reducible intro _ <;> (try (exfalso; omega))) | refine Ad ?_ | (refine nd ?_ ?_ <;> intro hg <;> first | exact xo hg | rw [hg]))
 refine AF 2 ?_
 repeat' (first | refine Al ?_ | refine Ak ?_ | refine nc ?_ ?_ | (with_reducible intro _ <;> (try (exfalso; omega))) | refine Ad ?_ | (refine nd ?_ ?_ <;> intro hg <;> first | exact xo hg | rw [hg]))
 cases e1 : EY b with
 | none =>
  rw [e1] at hr
  refine Aj [(0, none), (1, none)] (PP (px := BF) (i := i) (k := (k.toNat : Int)) (x := 0) (y := 0) (x2 := 0) (y2 := 0) (z := 0) (c := BL.zero) (w := 0) (h := 0) (tg := Bk.zero) b e1) ?_
  repeat' (first | refine Al ?_ | refine Ak ?_ | refine nc ?_ ?_ | (with_reducible intro _ <;> (try (exfalso; omega))) | refine Ad ?_ | (refine nd ?_ ?_ <;> intro hg <;> first | exact xo hg | rw [hg]))
  all_goals exact Cd hr (Az [])
 | some q =>
 obtain ⟨j, b1⟩ := q
 rw [e1] at hr
 simp only at hr
 refine Aj [(0, none), (1, none)] (Si (px := BF) (i := i) (k := (k.toNat : Int)) (x := 0) (y := 0) (x2 := 0) (y2 := 0) (z := 0) (c := BL.zero) (w := 0) (h := 0) (tg := Bk.zero) b b1 j e1) ?_
 obtain ⟨o, ho⟩ : ∃ o : Bb, o = ⟨i, (k.toNat : Int), 0, 0, 0, 0, 0, BL.zero, 0, 0, [], j⟩ := ⟨_, rfl⟩
 have co := Ez o (by rw [ho]; simp)
 have hr2 : Ev (k :: t) = if Da o then .ok (o, b1) else .error 290 := by rw [hr, ho]; rfl
 clear hr
 cases hB : Da o with
 | false =>
  rw [hB] at co hr2
  simp only [Bool.false_eq_true, if_false] at co hr2
  rw [ho] at co
  simp only [oD, De, List.map_nil] at co
  repeat' (first | refine Al ?_ | (refine Ay ?_; first | refine cz (co) ?_ | (refine AK (Aa 290) ?_; first | refine Ag (Aa 290) ?_ | refine An (Ai 290) ?_ | (refine Ah (Ab _ 290) ?_ ?_ <;> intro _ <;> (try (exfalso; omega))) | (refine Ao (Ab _ 290) ?_ ?_ <;> intro _))) | refine Ak ?_ | refine nc ?_ ?_ | (with_reducible intro _ <;> (try (exfalso; omega))) | refine Ad ?_ | (refine nd ?_ ?_ <;> intro hg <;> first | exact xo hg | rw [hg]))
  all_goals exact Cd hr2 (Az [])
 | true =>
  rw [hB] at co hr2
  simp only [if_true] at co hr2
  rw [ho] at co hr2
  simp only [oD, De, List.map_nil] at co
  repeat' (first | refine Al ?_ | (refine Ay ?_; first | refine cz (co) ?_ | (refine AK (Aa 290) ?_; first | refine Ag (Aa 290) ?_ | refine An (Ai 290) ?_ | (refine Ah (Ab _ 290) ?_ ?_ <;> intro _ <;> (try (exfalso; omega))) | (refine Ao (Ab _ 290) ?_ ?_ <;> intro _))) | refine Ak ?_ | refine nc ?_ ?_ | (with_reducible intro _ <;> (try (exfalso; omega))) | refine Ad ?_ | (refine nd ?_ ?_ <;> intro hg <;> first | exact xo hg | rw [hg]))
  all_goals (refine K9 hr2 ?_; simp only [oM, De, List.map_nil]; exact Gt [])

set_option maxRecDepth 20000
set_option maxRecDepth 10000
theorem YA (b : List UInt8) : VM Tryz.prog 223 2 [.ptr 0 0] [.c 0 0 (MF (.ptr 1 0) BW), .c 1 0 (EX b)] 2 (Xj b) := by
 match b with
 | [] => exact Vb [] (.inl rfl)
 | k :: t =>
  by_cases hk : 1 ≤ k.toNat ∧ k.toNat ≤ 8
  ·cases hi : EY t with
   | none => exact Vb _ (.inr (.inr ⟨k, t, rfl, hk, hi⟩))
   | some q =>
    obtain ⟨i, b⟩ := q
    have h5 : (k.toNat = 1 ∨ k.toNat = 2) ∨ (k.toNat = 3 ∨ k.toNat = 4) ∨ k.toNat = 5 ∨ k.toNat = 6 ∨ k.toNat = 7 ∨ k.toNat = 8 := by omega
    rcases h5 with h | h | h | h | h
    ·exact AbJ k t b i h hi
    ·exact AbI k t b i h hi
    ·exact AbH k t b i h hi
    ·exact AbG k t b i h hi
    ·exact AbF k t b i h hi
  ·exact Vb _ (.inr (.inl ⟨k, t, rfl, hk⟩))
theorem ZQ {b t : List UInt8} {o : Bb} (h : Ev b = .ok (o, t)) : C6 Tryz.prog 223 2 [.ptr 0 0] [.c 0 0 (MF (.ptr 1 0) BW), .c 1 0 (EX b)] 2 (.ret (.d (.agg (oM o)))) [.c 0 0 (MF (.ptr 1 0) BW), .c 1 0 (EX t)] 2 := ((YA b).mono fun _ _ _ k => k.1 _ _ h).sub1
theorem ZR {b : List UInt8} {e : Int} (h : Ev b = .error e) : C6 Tryz.prog 223 2 [.ptr 0 0] [.c 0 0 (MF (.ptr 1 0) BW), .c 1 0 (EX b)] 2 (.panic (.d (GB e))) OG 2 := ((YA b).mono fun _ _ _ k => k.2 _ h).sub1
theorem OR {b : List UInt8} {e : Int} (h : Dc b = .error e) : e = 110 ∨ e = 290 := by
 match b, h with
 | [], h => simp [Dc] at h; exact .inl h.symm
 | u :: t, h =>
  simp only [Dc] at h
  split at h
  ·cases h
  ·cases h; exact .inr rfl
theorem Zy {b : List UInt8} {e : Int} (h : Gq b = .error e) : e = 110 ∨ e = 290 := by
 simp only [Gq] at h
 split at h
 ·rename_i h1; cases h; exact OR h1
 ·split at h
  ·rename_i h1; cases h; exact OR h1
  ·split at h
   ·cases h; exact .inl rfl
   ·cases h
theorem Us {o : Bb} {b : List UInt8} {e : Int} (h : Eg o b = .error e) : e = 110 ∨ e = 290 := by
 simp only [Eg] at h
 repeat' (split at h)
 all_goals first | (cases h; fail_if_success (focus skip)) | (cases h; exact .inl rfl) | (rename_i h1; cases h; exact Zy h1)
theorem Uw {b : List UInt8} {e : Int} (h : Ev b = .error e) : e = 110 ∨ e = 290 := by
 match b, h with
 | [], h => simp [Ev] at h; exact .inl h.symm
 | k :: t, h =>
  simp only [Ev] at h
  split at h
  ·split at h
   ·cases h; exact .inl rfl
   ·split at h
    ·rename_i h1; cases h; exact Us h1
    ·split at h
     ·cases h
     ·cases h; exact .inr rfl
  ·cases h; exact .inr rfl

end Go.Proofs.YtbgcjnfhadhjeaaGreat