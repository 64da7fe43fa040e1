/- Walks by data and names, part 35: Layer 19, by V: operations, read: the others. Layer 19, by V: TakeOp. -/
import Derived.Test.YtbgcjnfhadhjeaaGreatQk34
namespace Go.Proofs.YtbgcjnfhadhjeaaGreat
set_option maxRecDepth 20000
open Go.RowKit
set_option maxRecDepth 10000
set_option maxHeartbeats 4000000
theorem AbY (k : UInt8) (t b : List UInt8) (i : Ba) (hk : k.toNat = 5) (hi : D6 t = some (i, b)) : VM Tryz.prog 223 2 [.ptr 0 0] [.c 0 0 (Mw (.ptr 1 0) Cp), .c 1 0 (E5 (k :: t))] 2 (Xf (k :: t)) := by
 have hk8 := k.toNat_lt
 have hidx : (Hx.map V.d)[((k.toNat : Nat) : Int).toNat * 1]? = some (.d (.sl false true VJ)) := by rw [hk]; rfl
 have hln : VJ.length = 3 := rfl
 have hr := K8 (k := k) (by omega) hi
 simp only [AR] at hr
 have cf := Gf
 have c1 := F7 k t
 have ci := Lv (px := BY) (i := Ba.zero) (k := (k.toNat : Int)) (x := 0) (y := 0) (x2 := 0) (y2 := 0) (z := 0) (c := BO.zero) (w := 0) (h := 0) (tg := Ba.zero) t b i hi
 rw [if_pos (show (k.toNat : Int) ≤ 6 by omega)] at hr
 intro B
 refine CI fun M => ?_
 repeat' (first | refine Ai ?_ | (refine As ?_; first | refine Am [(1, none)] c1 ?_ | refine Am [(0, none), (1, none)] ci ?_ | refine cz (cf) ?_ | refine Ae 185 fun _ => ?_ | refine Ae 220 fun _ => ?_ | refine Ar ?_ | refine Aw ?_ | refine Ax ?_ | (refine AJ (Ab 110) ?_; first | refine Ag (Ab 110) ?_ | refine Ao (Ak 110) ?_ | (refine Aj (Ad _ 110) ?_ ?_ <;> intro _ <;> (try (exfalso; omega))) | (refine Ap (Ad _ 110) ?_ ?_ <;> intro _)) | (refine AJ (Ab 290) ?_; first | refine Ag (Ab 290) ?_ | refine Ao (Ak 290) ?_ | (refine Aj (Ad _ 290) ?_ ?_ <;> intro _ <;> (try (exfalso; omega))) | (refine Ap (Ad _ 290) ?_ ?_ <;> intro _))) | refine Ah ?_ | refine nc ?_ ?_ | (with_reducible intro _ <;> (try (exfalso; omega))) | refine Aa ?_ | (refine nd ?_ ?_ <;> intro hg <;> first | exact xo hg | rw [hg]))
 refine AB 4 ?_
 repeat' (first | refine Ai ?_ | refine Ah ?_ | refine nc ?_ ?_ | (with_reducible intro _ <;> (try (exfalso; omega))) | refine Aa ?_ | (refine nd ?_ ?_ <;> intro hg <;> first | exact xo hg | rw [hg]))
 cases e1 : Ck b with
 | none =>
  rw [e1] at hr
  refine Am [(0, none), (1, none)] (I9 (px := BY) (i := i) (k := (k.toNat : Int)) (x := 0) (y := 0) (x2 := 0) (y2 := 0) (z := 0) (c := BO.zero) (w := 0) (h := 0) (tg := Ba.zero) b e1) ?_
  repeat' (first | refine Ai ?_ | refine Ah ?_ | refine nc ?_ ?_ | (with_reducible intro _ <;> (try (exfalso; omega))) | refine Aa ?_ | (refine nd ?_ ?_ <;> intro hg <;> first | exact xo hg | rw [hg]))
  all_goals exact CA hr (Ay [])
 | some q =>
 match b, e1 with
 | u1 :: v1 :: b1, e1 =>
 have hu1 := u1.toNat_lt
 have hv1 := v1.toNat_lt
 rw [show Ck (u1 :: v1 :: b1) = some (((u1.toNat : Int) + -64, (v1.toNat : Int) + -64), b1) from rfl] at hr
 simp only at hr
 refine Am [(0, none), (1, none)] (KB (px := BY) (i := i) (k := (k.toNat : Int)) (x := 0) (y := 0) (x2 := 0) (y2 := 0) (z := 0) (c := BO.zero) (w := 0) (h := 0) (tg := Ba.zero) u1 v1 b1) ?_
 clear e1
 repeat' (first | refine Ai ?_ | refine Ah ?_ | refine nc ?_ ?_ | (with_reducible intro _ <;> (try (exfalso; omega))) | refine Aa ?_ | (refine nd ?_ ?_ <;> intro hg <;> first | exact xo hg | rw [hg]))
 rw [if_neg (show ¬ (k.toNat : Int) ≤ 4 by omega), if_pos (show (k.toNat : Int) = 5 by omega)] at hr
 cases e2 : Dh b1 with
 | none =>
  rw [e2] at hr
  refine Am [(0, none), (1, none)] (Oy (px := BY) (i := i) (k := (k.toNat : Int)) (x := ((u1.toNat : Int) + -64)) (y := ((v1.toNat : Int) + -64)) (x2 := 0) (y2 := 0) (z := 0) (c := BO.zero) (w := 0) (h := 0) (tg := Ba.zero) b1 e2) ?_
  repeat' (first | refine Ai ?_ | refine Ah ?_ | refine nc ?_ ?_ | (with_reducible intro _ <;> (try (exfalso; omega))) | refine Aa ?_ | (refine nd ?_ ?_ <;> intro hg <;> first | exact xo hg | rw [hg]))
  all_goals exact CA hr (Ay [])
 | some q =>
 match b1, e2 with
 | u2 :: v2 :: b2, e2 =>
 rw [show Dh (u2 :: v2 :: b2) = some (256 * u2.toNat + v2.toNat, b2) from rfl] at hr
 simp only at hr
 refine Am [(0, none), (1, none)] (QV (px := BY) (i := i) (k := (k.toNat : Int)) (x := ((u1.toNat : Int) + -64)) (y := ((v1.toNat : Int) + -64)) (x2 := 0) (y2 := 0) (z := 0) (c := BO.zero) (w := 0) (h := 0) (tg := Ba.zero) u2 v2 b2) ?_
 clear e2
 repeat' (first | refine Ai ?_ | refine Ah ?_ | refine nc ?_ ?_ | (with_reducible intro _ <;> (try (exfalso; omega))) | refine Aa ?_ | (refine nd ?_ ?_ <;> intro hg <;> first | exact xo hg | rw [hg]))
 cases e3 : Bs b2 with
 | none =>
  rw [e3] at hr
  refine Am [(0, none), (1, none)] (JP (px := BY) (i := i) (k := (k.toNat : Int)) (x := ((u1.toNat : Int) + -64)) (y := ((v1.toNat : Int) + -64)) (x2 := 0) (y2 := 0) (z := ((256 * u2.toNat + v2.toNat : Nat) : Int)) (c := BO.zero) (w := 0) (h := 0) (tg := Ba.zero) b2 e3) ?_
  repeat' (first | refine Ai ?_ | refine Ah ?_ | refine nc ?_ ?_ | (with_reducible intro _ <;> (try (exfalso; omega))) | refine Aa ?_ | (refine nd ?_ ?_ <;> intro hg <;> first | exact xo hg | rw [hg]))
  all_goals exact CA hr (Ay [])
 | some q =>
 match b2, e3 with
 | r :: gg :: bl :: a :: b3, e3 =>
 rw [show Bs (r :: gg :: bl :: a :: b3) = some (⟨r, gg, bl, a⟩, b3) from rfl] at hr
 simp only at hr
 refine Am [(0, none), (1, none)] (LI (px := BY) (i := i) (k := (k.toNat : Int)) (x := ((u1.toNat : Int) + -64)) (y := ((v1.toNat : Int) + -64)) (x2 := 0) (y2 := 0) (z := ((256 * u2.toNat + v2.toNat : Nat) : Int)) (c := BO.zero) (w := 0) (h := 0) (tg := Ba.zero) r gg bl a b3) ?_
 clear e3
 obtain ⟨o, ho⟩ : ∃ o : A5, o = ⟨i, (k.toNat : Int), ((u1.toNat : Int) + -64), ((v1.toNat : Int) + -64), 0, 0, ((256 * u2.toNat + v2.toNat : Nat) : Int), ⟨r, gg, bl, a⟩, 0, 0, [], Ba.zero⟩ := ⟨_, rfl⟩
 have co := EG o (by rw [ho]; simp)
 have hr2 : Da (k :: t) = if Dr o then .ok (o, b3) else .error 290 := by rw [hr, ho]; rfl
 clear hr
 cases hB : Dr o with
 | false =>
  rw [hB] at co hr2
  simp only [Bool.false_eq_true, if_false] at co hr2
  rw [ho] at co
  simp only [oD, C6, List.map_nil] at co
  repeat' (first | refine Ai ?_ | (refine As ?_; first | refine cz (co) ?_ | (refine AJ (Ab 290) ?_; first | refine Ag (Ab 290) ?_ | refine Ao (Ak 290) ?_ | (refine Aj (Ad _ 290) ?_ ?_ <;> intro _ <;> (try (exfalso; omega))) | (refine Ap (Ad _ 290) ?_ ?_ <;> intro _))) | refine Ah ?_ | refine nc ?_ ?_ | (with_reducible intro _ <;> (try (exfalso; omega))) | refine Aa ?_ | (refine nd ?_ ?_ <;> intro hg <;> first | exact xo hg | rw [hg]))
  all_goals exact CA hr2 (Ay [])
 | true =>
  rw [hB] at co hr2
  simp only [if_true] at co hr2
  rw [ho] at co hr2
  simp only [oD, C6, List.map_nil] at co
  repeat' (first | refine Ai ?_ | (refine As ?_; first | refine cz (co) ?_ | (refine AJ (Ab 290) ?_; first | refine Ag (Ab 290) ?_ | refine Ao (Ak 290) ?_ | (refine Aj (Ad _ 290) ?_ ?_ <;> intro _ <;> (try (exfalso; omega))) | (refine Ap (Ad _ 290) ?_ ?_ <;> intro _))) | refine Ah ?_ | refine nc ?_ ?_ | (with_reducible intro _ <;> (try (exfalso; omega))) | refine Aa ?_ | (refine nd ?_ ?_ <;> intro hg <;> first | exact xo hg | rw [hg]))
  all_goals (refine K9 hr2 ?_; simp only [oM, C6, List.map_nil]; exact GE [])
theorem AbX (k : UInt8) (t b : List UInt8) (i : Ba) (hk : k.toNat = 6) (hi : D6 t = some (i, b)) : VM Tryz.prog 223 2 [.ptr 0 0] [.c 0 0 (Mw (.ptr 1 0) Cp), .c 1 0 (E5 (k :: t))] 2 (Xf (k :: t)) := by
 have hk8 := k.toNat_lt
 have hidx : (Hx.map V.d)[((k.toNat : Nat) : Int).toNat * 1]? = some (.d (.sl false true Pf)) := by rw [hk]; rfl
 have hln : Pf.length = 2 := rfl
 have hr := K8 (k := k) (by omega) hi
 simp only [AR] at hr
 have cf := Gf
 have c1 := F7 k t
 have ci := Lv (px := BY) (i := Ba.zero) (k := (k.toNat : Int)) (x := 0) (y := 0) (x2 := 0) (y2 := 0) (z := 0) (c := BO.zero) (w := 0) (h := 0) (tg := Ba.zero) t b i hi
 rw [if_pos (show (k.toNat : Int) ≤ 6 by omega)] at hr
 intro B
 refine CI fun M => ?_
 repeat' (first | refine Ai ?_ | (refine As ?_; first | refine Am [(1, none)] c1 ?_ | refine Am [(0, none), (1, none)] ci ?_ | refine cz (cf) ?_ | refine Ae 185 fun _ => ?_ | refine Ae 220 fun _ => ?_ | refine Ar ?_ | refine Aw ?_ | refine Ax ?_ | (refine AJ (Ab 110) ?_; first | refine Ag (Ab 110) ?_ | refine Ao (Ak 110) ?_ | (refine Aj (Ad _ 110) ?_ ?_ <;> intro _ <;> (try (exfalso; omega))) | (refine Ap (Ad _ 110) ?_ ?_ <;> intro _)) | (refine AJ (Ab 290) ?_; first | refine Ag (Ab 290) ?_ | refine Ao (Ak 290) ?_ | (refine Aj (Ad _ 290) ?_ ?_ <;> intro _ <;> (try (exfalso; omega))) | (refine Ap (Ad _ 290) ?_ ?_ <;> intro _))) | refine Ah ?_ | refine nc ?_ ?_ | (with_reducible intro _ <;> (try (exfalso; omega))) | refine Aa ?_ | (refine nd ?_ ?_ <;> intro hg <;> first | exact xo hg | rw [hg]))
 refine AB 3 ?_
 repeat' (first | refine Ai ?_ | refine Ah ?_ | refine nc ?_ ?_ | (with_reducible intro _ <;> (try (exfalso; omega))) | refine Aa ?_ | (refine nd ?_ ?_ <;> intro hg <;> first | exact xo hg | rw [hg]))
 cases e1 : Ck b with
 | none =>
  rw [e1] at hr
  refine Am [(0, none), (1, none)] (I9 (px := BY) (i := i) (k := (k.toNat : Int)) (x := 0) (y := 0) (x2 := 0) (y2 := 0) (z := 0) (c := BO.zero) (w := 0) (h := 0) (tg := Ba.zero) b e1) ?_
  repeat' (first | refine Ai ?_ | refine Ah ?_ | refine nc ?_ ?_ | (with_reducible intro _ <;> (try (exfalso; omega))) | refine Aa ?_ | (refine nd ?_ ?_ <;> intro hg <;> first | exact xo hg | rw [hg]))
  all_goals exact CA hr (Ay [])
 | some q =>
 match b, e1 with
 | u1 :: v1 :: b1, e1 =>
 have hu1 := u1.toNat_lt
 have hv1 := v1.toNat_lt
 rw [show Ck (u1 :: v1 :: b1) = some (((u1.toNat : Int) + -64, (v1.toNat : Int) + -64), b1) from rfl] at hr
 simp only at hr
 refine Am [(0, none), (1, none)] (KB (px := BY) (i := i) (k := (k.toNat : Int)) (x := 0) (y := 0) (x2 := 0) (y2 := 0) (z := 0) (c := BO.zero) (w := 0) (h := 0) (tg := Ba.zero) u1 v1 b1) ?_
 clear e1
 repeat' (first | refine Ai ?_ | refine Ah ?_ | refine nc ?_ ?_ | (with_reducible intro _ <;> (try (exfalso; omega))) | refine Aa ?_ | (refine nd ?_ ?_ <;> intro hg <;> first | exact xo hg | rw [hg]))
 rw [if_neg (show ¬ (k.toNat : Int) ≤ 4 by omega), if_neg (show ¬ (k.toNat : Int) = 5 by omega)] at hr
 cases e2 : Er b1 with
 | error er =>
  rw [e2] at hr
  refine Am [(0, none), (1, none)] (Sd (px := BY) (i := i) (k := (k.toNat : Int)) (x := ((u1.toNat : Int) + -64)) (y := ((v1.toNat : Int) + -64)) (x2 := 0) (y2 := 0) (z := 0) (c := BO.zero) (w0 := 0) (h0 := 0) (tg := Ba.zero) b1 er e2) ?_
  repeat' (first | refine Ai ?_ | refine Ah ?_ | refine nc ?_ ?_ | (with_reducible intro _ <;> (try (exfalso; omega))) | refine Aa ?_ | (refine nd ?_ ?_ <;> intro hg <;> first | exact xo hg | rw [hg]))
  all_goals exact CA hr (Ay [])
 | ok q =>
 obtain ⟨⟨w, h, l⟩, b2⟩ := q
 rw [e2] at hr
 simp only at hr
 refine Am [(0, none), (1, none)] (TQ (px := BY) (i := i) (k := (k.toNat : Int)) (x := ((u1.toNat : Int) + -64)) (y := ((v1.toNat : Int) + -64)) (x2 := 0) (y2 := 0) (z := 0) (c := BO.zero) (w0 := 0) (h0 := 0) (tg := Ba.zero) b1 b2 w h l e2) ?_
 obtain ⟨o, ho⟩ : ∃ o : A5, o = ⟨i, (k.toNat : Int), ((u1.toNat : Int) + -64), ((v1.toNat : Int) + -64), 0, 0, 0, BO.zero, (w : Int), (h : Int), l, Ba.zero⟩ := ⟨_, rfl⟩
 have co := EG o (by rw [ho]; exact Nat.le_trans (OL e2) (by omega))
 have hr2 : Da (k :: t) = if Dr o then .ok (o, b2) else .error 290 := by rw [hr, ho]; rfl
 clear hr
 cases hB : Dr o with
 | false =>
  rw [hB] at co hr2
  simp only [Bool.false_eq_true, if_false] at co hr2
  rw [ho] at co
  simp only [oD, C6] at co
  repeat' (first | refine Ai ?_ | (refine As ?_; first | refine cz (co) ?_ | (refine AJ (Ab 290) ?_; first | refine Ag (Ab 290) ?_ | refine Ao (Ak 290) ?_ | (refine Aj (Ad _ 290) ?_ ?_ <;> intro _ <;> (try (exfalso; omega))) | (refine Ap (Ad _ 290) ?_ ?_ <;> intro _))) | refine Ah ?_ | refine nc ?_ ?_ | (with_reducible intro _ <;> (try (exfalso; omega))) | refine Aa ?_ | (refine nd ?_ ?_ <;> intro hg <;> first | exact xo hg | rw [hg]))
  all_goals exact CA hr2 (Ay [])
 | true =>
  rw [hB] at co hr2
  simp only [if_true] at co hr2
  rw [ho] at co hr2
  simp only [oD, C6] at co
  repeat' (first | refine Ai ?_ | (refine As ?_; first | refine cz (co) ?_ | (refine AJ (Ab 290) ?_; first | refine Ag (Ab 290) ?_ | refine Ao (Ak 290) ?_ | (refine Aj (Ad _ 290) ?_ ?_ <;> intro _ <;> (try (exfalso; omega))) | (refine Ap (Ad _ 290) ?_ ?_ <;> intro _))) | refine Ah ?_ | refine nc ?_ ?_ | (with_reducible intro _ <;> (try (exfalso; omega))) | refine Aa ?_ | (refine nd ?_ ?_ <;> intro hg <;> first | exact xo hg | rw [hg]))
  all_goals (refine K9 hr2 ?_; simp only [oM, C6]; exact GE [])
theorem AbW (k : UInt8) (t b : List UInt8) (i : Ba) (hk : k.toNat = 7 ∨ k.toNat = 8) (hi : D6 t = some (i, b)) : VM Tryz.prog 223 2 [.ptr 0 0] [.c 0 0 (Mw (.ptr 1 0) Cp), .c 1 0 (E5 (k :: t))] 2 (Xf (k :: t)) := by
 have hk8 := k.toNat_lt
 have hidx : (Hx.map V.d)[((k.toNat : Nat) : Int).toNat * 1]? = some (.d (.sl false true SA)) := by rcases hk with hk | hk <;> (rw [hk]; rfl)
 have hln : SA.length = 1 := rfl
 have hr := K8 (k := k) (by omega) hi
 simp only [AR] at hr
 have cf := Gf
 have c1 := F7 k t
 have ci := Lv (px := BY) (i := Ba.zero) (k := (k.toNat : Int)) (x := 0) (y := 0) (x2 := 0) (y2 := 0) (z := 0) (c := BO.zero) (w := 0) (h := 0) (tg := Ba.zero) t b i hi
 rw [if_neg (show ¬ (k.toNat : Int) ≤ 6 by omega)] at hr
 intro B
 refine CI fun M => ?_
 repeat' (first | refine Ai ?_ | (refine As ?_; first | refine Am [(1, none)] c1 ?_ | refine Am [(0, none), (1, none)] ci ?_ | refine cz (cf) ?_ | refine Ae 185 fun _ => ?_ | refine Ae 220 fun _ => ?_ | refine Ar ?_ | refine Aw ?_ | refine Ax ?_ | (refine AJ (Ab 110) ?_; first | refine Ag (Ab 110) ?_ | refine Ao (Ak 110) ?_ | (refine Aj (Ad _ 110) ?_ ?_ <;> intro _ <;> (try (exfalso; omega))) | (refine Ap (Ad _ 110) ?_ ?_ <;> intro _)) | (refine AJ (Ab 290) ?_; first | refine Ag (Ab 290) ?_ | refine Ao (Ak 290) ?_ | (refine Aj (Ad _ 290) ?_ ?_ <;> intro _ <;> (try (exfalso; omega))) | (refine Ap (Ad _ 290) ?_ ?_ <;> intro _))) | refine Ah ?_ | refine nc ?_ ?_ | (with_reducible intro _ <;> (try (exfalso; omega))) | refine Aa ?_ | (refine nd ?_ ?_ <;> intro hg <;> first | exact xo hg | rw [hg]))
 refine AB 2 ?_
 repeat' (first | refine Ai ?_ | refine Ah ?_ | refine nc ?_ ?_ | (with_reducible intro _ <;> (try (exfalso; omega))) | refine Aa ?_ | (refine nd ?_ ?_ <;> intro hg <;> first | exact xo hg | rw [hg]))
 cases e1 : D6 b with
 | none =>
  rw [e1] at hr
  refine Am [(0, none), (1, none)] (PE (px := BY) (i := i) (k := (k.toNat : Int)) (x := 0) (y := 0) (x2 := 0) (y2 := 0) (z := 0) (c := BO.zero) (w := 0) (h := 0) (tg := Ba.zero) b e1) ?_
  repeat' (first | refine Ai ?_ | refine Ah ?_ | refine nc ?_ ?_ | (with_reducible intro _ <;> (try (exfalso; omega))) | refine Aa ?_ | (refine nd ?_ ?_ <;> intro hg <;> first | exact xo hg | rw [hg]))
  all_goals exact CA hr (Ay [])
 | some q =>
 obtain ⟨j, b1⟩ := q
 rw [e1] at hr
 simp only at hr
 refine Am [(0, none), (1, none)] (R3 (px := BY) (i := i) (k := (k.toNat : Int)) (x := 0) (y := 0) (x2 := 0) (y2 := 0) (z := 0) (c := BO.zero) (w := 0) (h := 0) (tg := Ba.zero) b b1 j e1) ?_
 obtain ⟨o, ho⟩ : ∃ o : A5, o = ⟨i, (k.toNat : Int), 0, 0, 0, 0, 0, BO.zero, 0, 0, [], j⟩ := ⟨_, rfl⟩
 have co := EG o (by rw [ho]; simp)
 have hr2 : Da (k :: t) = if Dr o then .ok (o, b1) else .error 290 := by rw [hr, ho]; rfl
 clear hr
 cases hB : Dr o with
 | false =>
  rw [hB] at co hr2
  simp only [Bool.false_eq_true, if_false] at co hr2
  rw [ho] at co
  simp only [oD, C6, List.map_nil] at co
  repeat' (first | refine Ai ?_ | (refine As ?_; first | refine cz (co) ?_ | (refine AJ (Ab 290) ?_; first | refine Ag (Ab 290) ?_ | refine Ao (Ak 290) ?_ | (refine Aj (Ad _ 290) ?_ ?_ <;> intro _ <;> (try (exfalso; omega))) | (refine Ap (Ad _ 290) ?_ ?_ <;> intro _))) | refine Ah ?_ | refine nc ?_ ?_ | (with_reducible intro _ <;> (try (exfalso; omega))) | refine Aa ?_ | (refine nd ?_ ?_ <;> intro hg <;> first | exact xo hg | rw [hg]))
  all_goals exact CA hr2 (Ay [])
 | true =>
  rw [hB] at co hr2
  simp only [if_true] at co hr2
  rw [ho] at co hr2
  simp only [oD, C6, List.map_nil] at co
  repeat' (first | refine Ai ?_ | (refine As ?_; first | refine cz (co) ?_ | (refine AJ (Ab 290) ?_; first | refine Ag (Ab 290) ?_ | refine Ao (Ak 290) ?_ | (refine Aj (Ad _ 290) ?_ ?_ <;> intro _ <;> (try (exfalso; omega))) | (refine Ap (Ad _ 290) ?_ ?_ <;> intro _))) | refine Ah ?_ | refine nc ?_ ?_ | (with_reducible intro _ <;> (try (exfalso; omega))) | refine Aa ?_ | (refine nd ?_ ?_ <;> intro hg <;> first | exact xo hg | rw [hg]))
  all_goals (refine K9 hr2 ?_; simp only [oM, C6, List.map_nil]; exact GE [])

set_option maxRecDepth 20000
set_option maxRecDepth 10000
theorem YG (b : List UInt8) : VM Tryz.prog 223 2 [.ptr 0 0] [.c 0 0 (Mw (.ptr 1 0) Cp), .c 1 0 (E5 b)] 2 (Xf b) := by
 match b with
 | [] => exact U3 [] (.inl rfl)
 | k :: t =>
  by_cases hk : 1 ≤ k.toNat ∧ k.toNat ≤ 8
  ·cases hi : D6 t with
   | none => exact U3 _ (.inr (.inr ⟨k, t, rfl, hk, hi⟩))
   | some q =>
    obtain ⟨i, b⟩ := q
    have h5 : (k.toNat = 1 ∨ k.toNat = 2) ∨ (k.toNat = 3 ∨ k.toNat = 4) ∨ k.toNat = 5 ∨ k.toNat = 6 ∨ k.toNat = 7 ∨ k.toNat = 8 := by omega
    rcases h5 with h | h | h | h | h
    ·exact Ab0 k t b i h hi
    ·exact AbZ k t b i h hi
    ·exact AbY k t b i h hi
    ·exact AbX k t b i h hi
    ·exact AbW k t b i h hi
  ·exact U3 _ (.inr (.inl ⟨k, t, rfl, hk⟩))
theorem Z8 {b t : List UInt8} {o : A5} (h : Da b = .ok (o, t)) : Dk Tryz.prog 223 2 [.ptr 0 0] [.c 0 0 (Mw (.ptr 1 0) Cp), .c 1 0 (E5 b)] 2 (.ret (.d (.agg (oM o)))) [.c 0 0 (Mw (.ptr 1 0) Cp), .c 1 0 (E5 t)] 2 := ((YG b).mono fun _ _ _ k => k.1 _ _ h).sub1
theorem Z9 {b : List UInt8} {e : Int} (h : Da b = .error e) : Dk Tryz.prog 223 2 [.ptr 0 0] [.c 0 0 (Mw (.ptr 1 0) Cp), .c 1 0 (E5 b)] 2 (.panic (.d (GM e))) Ow 2 := ((YG b).mono fun _ _ _ k => k.2 _ h).sub1
theorem OM {b : List UInt8} {e : Int} (h : CS b = .error e) : e = 110 ∨ e = 290 := by
 match b, h with
 | [], h => simp [CS] at h; exact .inl h.symm
 | u :: t, h =>
  simp only [CS] at h
  split at h
  ·cases h
  ·cases h; exact .inr rfl
theorem Um {b : List UInt8} {e : Int} (h : Er b = .error e) : e = 110 ∨ e = 290 := by
 simp only [Er] at h
 split at h
 ·rename_i h1; cases h; exact OM h1
 ·split at h
  ·rename_i h1; cases h; exact OM h1
  ·split at h
   ·cases h; exact .inl rfl
   ·cases h
theorem OK {o : A5} {b : List UInt8} {e : Int} (h : AR o b = .error e) : e = 110 ∨ e = 290 := by
 simp only [AR] at h
 repeat' (split at h)
 all_goals first | (cases h; fail_if_success (focus skip)) | (cases h; exact .inl rfl) | (rename_i h1; cases h; exact Um h1)
theorem PN {b : List UInt8} {e : Int} (h : Da b = .error e) : e = 110 ∨ e = 290 := by
 match b, h with
 | [], h => simp [Da] at h; exact .inl h.symm
 | k :: t, h =>
  simp only [Da] at h
  split at h
  ·split at h
   ·cases h; exact .inl rfl
   ·split at h
    ·rename_i h1; cases h; exact OK h1
    ·split at h
     ·cases h
     ·cases h; exact .inr rfl
  ·cases h; exact .inr rfl

end Go.Proofs.YtbgcjnfhadhjeaaGreat