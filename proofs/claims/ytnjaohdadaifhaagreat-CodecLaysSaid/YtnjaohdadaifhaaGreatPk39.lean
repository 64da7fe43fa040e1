/- Walks by data and names, part 39: Layer 19, by V: operations, read: the others. Layer 19, by V: TakeOp. -/
import Derived.Test.YtnjaohdadaifhaaGreatPk37
import Derived.Test.YtnjaohdadaifhaaGreatPk38
namespace Go.Proofs.YtnjaohdadaifhaaGreat
set_option maxRecDepth 20000
open Go.RowKit
set_option maxRecDepth 10000
set_option maxHeartbeats 4000000
theorem opT_c (k : UInt8) (t b : List UInt8) (i : Idd) (hk : k.toNat = 5) (hi : rdId t = some (i, b)) : VM Tryz.prog 46 2 [.ptr 0 0] [.c 0 0 (tkA (.ptr 1 0) nilP), .c 1 0 (rdV (k :: t))] 2 (rdK (k :: t)) := by
  have hk8 := k.toNat_lt
  have hidx : (fldsD.map V.d)[((k.toNat : Nat) : Int).toNat * 1]? = some (.d (.sl false true fldC)) := by rw [hk]; rfl
  have hln : fldC.length = 3 := rfl
  have hr := rdOp_k (k := k) (by omega) hi
  simp only [rdTail] at hr
  have cf := fields_v
  have c1 := rd1 k t
  have ci := idR2_v (px := nilD) (i := Idd.zero) (k := (k.toNat : Int)) (x := 0) (y := 0) (x2 := 0) (y2 := 0) (z := 0) (c := Col.zero) (w := 0) (h := 0) (tg := Idd.zero) t b i hi
  rw [if_pos (show (k.toNat : Int) ≤ 6 by omega)] at hr
  intro B
  refine vmb_of Tryz.func46 rfl Tryz.ntmps46 Tryz.results46 fun M => ?_
  repeat' (first | refine nz1 ?_ | (refine vid ?_; first | refine vs_vm [(1, none)] c1 ?_ | refine vs_vm [(0, none), (1, none)] ci ?_ | refine cz (cf) ?_ | refine vs_vc (hc := vc_of Tryz.func38 rfl Tryz.ntmps38 Tryz.results38 fun _ => ?_) | refine vs_vc (hc := vc_of Tryz.func79 rfl Tryz.ntmps79 Tryz.results79 fun _ => ?_) | refine vs_eqpn ?_ | refine vs_nepnT ?_ | refine vs_nepnF ?_ | (refine vq_l (cneed_ok 110) ?_; first | refine vs_call (cneed_ok 110) ?_ | refine vs_pan (cneed_no 110) ?_ | (refine vs_cifp (cneed_if _ 110) ?_ ?_ <;> intro _ <;> (try (exfalso; omega))) | (refine vs_cif (cneed_if _ 110) ?_ ?_ <;> intro _)) | (refine vq_l (cneed_ok 290) ?_; first | refine vs_call (cneed_ok 290) ?_ | refine vs_pan (cneed_no 290) ?_ | (refine vs_cifp (cneed_if _ 290) ?_ ?_ <;> intro _ <;> (try (exfalso; omega))) | (refine vs_cif (cneed_if _ 290) ?_ ?_ <;> intro _))) | refine nzo ?_ | refine nc ?_ ?_ | (with_reducible intro _ <;> (try (exfalso; omega))) | refine nnil ?_ | (refine nd ?_ ?_ <;> intro hg <;> first | exact xo hg | rw [hg]))
  refine vw_rounds 4 ?_
  repeat' (first | refine nz1 ?_ | refine nzo ?_ | refine nc ?_ ?_ | (with_reducible intro _ <;> (try (exfalso; omega))) | refine nnil ?_ | (refine nd ?_ ?_ <;> intro hg <;> first | exact xo hg | rw [hg]))
  cases e1 : rdAt b with
  | none =>
    rw [e1] at hr
    refine vs_vm [(0, none), (1, none)] (fromR_no (px := nilD) (i := i) (k := (k.toNat : Int)) (x := 0) (y := 0) (x2 := 0) (y2 := 0) (z := 0) (c := Col.zero) (w := 0) (h := 0) (tg := Idd.zero) b e1) ?_
    repeat' (first | refine nz1 ?_ | refine nzo ?_ | refine nc ?_ ?_ | (with_reducible intro _ <;> (try (exfalso; omega))) | refine nnil ?_ | (refine nd ?_ ?_ <;> intro hg <;> first | exact xo hg | rw [hg]))
    all_goals exact rdK_no hr (nx_subp [])
  | some q =>
  match b, e1 with
  | u1 :: v1 :: b1, e1 =>
  have hu1 := u1.toNat_lt
  have hv1 := v1.toNat_lt
  rw [show rdAt (u1 :: v1 :: b1) = some (((u1.toNat : Int) + -64, (v1.toNat : Int) + -64), b1) from rfl] at hr
  simp only at hr
  refine vs_vm [(0, none), (1, none)] (fromR_v (px := nilD) (i := i) (k := (k.toNat : Int)) (x := 0) (y := 0) (x2 := 0) (y2 := 0) (z := 0) (c := Col.zero) (w := 0) (h := 0) (tg := Idd.zero) u1 v1 b1) ?_
  clear e1
  repeat' (first | refine nz1 ?_ | refine nzo ?_ | refine nc ?_ ?_ | (with_reducible intro _ <;> (try (exfalso; omega))) | refine nnil ?_ | (refine nd ?_ ?_ <;> intro hg <;> first | exact xo hg | rw [hg]))
  rw [if_neg (show ¬ (k.toNat : Int) ≤ 4 by omega), if_pos (show (k.toNat : Int) = 5 by omega)] at hr
  cases e2 : rdSz b1 with
  | none =>
    rw [e2] at hr
    refine vs_vm [(0, none), (1, none)] (sizeR_no (px := nilD) (i := i) (k := (k.toNat : Int)) (x := ((u1.toNat : Int) + -64)) (y := ((v1.toNat : Int) + -64)) (x2 := 0) (y2 := 0) (z := 0) (c := Col.zero) (w := 0) (h := 0) (tg := Idd.zero) b1 e2) ?_
    repeat' (first | refine nz1 ?_ | refine nzo ?_ | refine nc ?_ ?_ | (with_reducible intro _ <;> (try (exfalso; omega))) | refine nnil ?_ | (refine nd ?_ ?_ <;> intro hg <;> first | exact xo hg | rw [hg]))
    all_goals exact rdK_no hr (nx_subp [])
  | some q =>
  match b1, e2 with
  | u2 :: v2 :: b2, e2 =>
  rw [show rdSz (u2 :: v2 :: b2) = some (256 * u2.toNat + v2.toNat, b2) from rfl] at hr
  simp only at hr
  refine vs_vm [(0, none), (1, none)] (sizeR_v (px := nilD) (i := i) (k := (k.toNat : Int)) (x := ((u1.toNat : Int) + -64)) (y := ((v1.toNat : Int) + -64)) (x2 := 0) (y2 := 0) (z := 0) (c := Col.zero) (w := 0) (h := 0) (tg := Idd.zero) u2 v2 b2) ?_
  clear e2
  repeat' (first | refine nz1 ?_ | refine nzo ?_ | refine nc ?_ ?_ | (with_reducible intro _ <;> (try (exfalso; omega))) | refine nnil ?_ | (refine nd ?_ ?_ <;> intro hg <;> first | exact xo hg | rw [hg]))
  cases e3 : rdCol b2 with
  | none =>
    rw [e3] at hr
    refine vs_vm [(0, none), (1, none)] (colorR_no (px := nilD) (i := i) (k := (k.toNat : Int)) (x := ((u1.toNat : Int) + -64)) (y := ((v1.toNat : Int) + -64)) (x2 := 0) (y2 := 0) (z := ((256 * u2.toNat + v2.toNat : Nat) : Int)) (c := Col.zero) (w := 0) (h := 0) (tg := Idd.zero) b2 e3) ?_
    repeat' (first | refine nz1 ?_ | refine nzo ?_ | refine nc ?_ ?_ | (with_reducible intro _ <;> (try (exfalso; omega))) | refine nnil ?_ | (refine nd ?_ ?_ <;> intro hg <;> first | exact xo hg | rw [hg]))
    all_goals exact rdK_no hr (nx_subp [])
  | some q =>
  match b2, e3 with
  | r :: gg :: bl :: a :: b3, e3 =>
  rw [show rdCol (r :: gg :: bl :: a :: b3) = some (⟨r, gg, bl, a⟩, b3) from rfl] at hr
  simp only at hr
  refine vs_vm [(0, none), (1, none)] (colorR_v (px := nilD) (i := i) (k := (k.toNat : Int)) (x := ((u1.toNat : Int) + -64)) (y := ((v1.toNat : Int) + -64)) (x2 := 0) (y2 := 0) (z := ((256 * u2.toNat + v2.toNat : Nat) : Int)) (c := Col.zero) (w := 0) (h := 0) (tg := Idd.zero) r gg bl a b3) ?_
  clear e3
  obtain ⟨o, ho⟩ : ∃ o : Opp, o = ⟨i, (k.toNat : Int), ((u1.toNat : Int) + -64), ((v1.toNat : Int) + -64), 0, 0, ((256 * u2.toNat + v2.toNat : Nat) : Int), ⟨r, gg, bl, a⟩, 0, 0, [], Idd.zero⟩ := ⟨_, rfl⟩
  have co := ocheck_v o (by rw [ho]; simp)
  have hr2 : rdOp (k :: t) = if opB o then .ok (o, b3) else .error 290 := by rw [hr, ho]; rfl
  clear hr
  cases hB : opB o with
  | false =>
    rw [hB] at co hr2
    simp only [Bool.false_eq_true, if_false] at co hr2
    rw [ho] at co
    simp only [oD, oDf, List.map_nil] at co
    repeat' (first | refine nz1 ?_ | (refine vid ?_; first | refine cz (co) ?_ | (refine vq_l (cneed_ok 290) ?_; first | refine vs_call (cneed_ok 290) ?_ | refine vs_pan (cneed_no 290) ?_ | (refine vs_cifp (cneed_if _ 290) ?_ ?_ <;> intro _ <;> (try (exfalso; omega))) | (refine vs_cif (cneed_if _ 290) ?_ ?_ <;> intro _))) | refine nzo ?_ | refine nc ?_ ?_ | (with_reducible intro _ <;> (try (exfalso; omega))) | refine nnil ?_ | (refine nd ?_ ?_ <;> intro hg <;> first | exact xo hg | rw [hg]))
    all_goals exact rdK_no hr2 (nx_subp [])
  | true =>
    rw [hB] at co hr2
    simp only [if_true] at co hr2
    rw [ho] at co hr2
    simp only [oD, oDf, List.map_nil] at co
    repeat' (first | refine nz1 ?_ | (refine vid ?_; first | refine cz (co) ?_ | (refine vq_l (cneed_ok 290) ?_; first | refine vs_call (cneed_ok 290) ?_ | refine vs_pan (cneed_no 290) ?_ | (refine vs_cifp (cneed_if _ 290) ?_ ?_ <;> intro _ <;> (try (exfalso; omega))) | (refine vs_cif (cneed_if _ 290) ?_ ?_ <;> intro _))) | refine nzo ?_ | refine nc ?_ ?_ | (with_reducible intro _ <;> (try (exfalso; omega))) | refine nnil ?_ | (refine nd ?_ ?_ <;> intro hg <;> first | exact xo hg | rw [hg]))
    all_goals (refine rdK_ok hr2 ?_; simp only [oM, oDf, List.map_nil]; exact nx_subx [])
theorem opT_d (k : UInt8) (t b : List UInt8) (i : Idd) (hk : k.toNat = 6) (hi : rdId t = some (i, b)) : VM Tryz.prog 46 2 [.ptr 0 0] [.c 0 0 (tkA (.ptr 1 0) nilP), .c 1 0 (rdV (k :: t))] 2 (rdK (k :: t)) := by
  have hk8 := k.toNat_lt
  have hidx : (fldsD.map V.d)[((k.toNat : Nat) : Int).toNat * 1]? = some (.d (.sl false true fldD6)) := by rw [hk]; rfl
  have hln : fldD6.length = 2 := rfl
  have hr := rdOp_k (k := k) (by omega) hi
  simp only [rdTail] at hr
  have cf := fields_v
  have c1 := rd1 k t
  have ci := idR2_v (px := nilD) (i := Idd.zero) (k := (k.toNat : Int)) (x := 0) (y := 0) (x2 := 0) (y2 := 0) (z := 0) (c := Col.zero) (w := 0) (h := 0) (tg := Idd.zero) t b i hi
  rw [if_pos (show (k.toNat : Int) ≤ 6 by omega)] at hr
  intro B
  refine vmb_of Tryz.func46 rfl Tryz.ntmps46 Tryz.results46 fun M => ?_
  repeat' (first | refine nz1 ?_ | (refine vid ?_; first | refine vs_vm [(1, none)] c1 ?_ | refine vs_vm [(0, none), (1, none)] ci ?_ | refine cz (cf) ?_ | refine vs_vc (hc := vc_of Tryz.func38 rfl Tryz.ntmps38 Tryz.results38 fun _ => ?_) | refine vs_vc (hc := vc_of Tryz.func79 rfl Tryz.ntmps79 Tryz.results79 fun _ => ?_) | refine vs_eqpn ?_ | refine vs_nepnT ?_ | refine vs_nepnF ?_ | (refine vq_l (cneed_ok 110) ?_; first | refine vs_call (cneed_ok 110) ?_ | refine vs_pan (cneed_no 110) ?_ | (refine vs_cifp (cneed_if _ 110) ?_ ?_ <;> intro _ <;> (try (exfalso; omega))) | (refine vs_cif (cneed_if _ 110) ?_ ?_ <;> intro _)) | (refine vq_l (cneed_ok 290) ?_; first | refine vs_call (cneed_ok 290) ?_ | refine vs_pan (cneed_no 290) ?_ | (refine vs_cifp (cneed_if _ 290) ?_ ?_ <;> intro _ <;> (try (exfalso; omega))) | (refine vs_cif (cneed_if _ 290) ?_ ?_ <;> intro _))) | refine nzo ?_ | refine nc ?_ ?_ | (with_reducible intro _ <;> (try (exfalso; omega))) | refine nnil ?_ | (refine nd ?_ ?_ <;> intro hg <;> first | exact xo hg | rw [hg]))
  refine vw_rounds 3 ?_
  repeat' (first | refine nz1 ?_ | refine nzo ?_ | refine nc ?_ ?_ | (with_reducible intro _ <;> (try (exfalso; omega))) | refine nnil ?_ | (refine nd ?_ ?_ <;> intro hg <;> first | exact xo hg | rw [hg]))
  cases e1 : rdAt b with
  | none =>
    rw [e1] at hr
    refine vs_vm [(0, none), (1, none)] (fromR_no (px := nilD) (i := i) (k := (k.toNat : Int)) (x := 0) (y := 0) (x2 := 0) (y2 := 0) (z := 0) (c := Col.zero) (w := 0) (h := 0) (tg := Idd.zero) b e1) ?_
    repeat' (first | refine nz1 ?_ | refine nzo ?_ | refine nc ?_ ?_ | (with_reducible intro _ <;> (try (exfalso; omega))) | refine nnil ?_ | (refine nd ?_ ?_ <;> intro hg <;> first | exact xo hg | rw [hg]))
    all_goals exact rdK_no hr (nx_subp [])
  | some q =>
  match b, e1 with
  | u1 :: v1 :: b1, e1 =>
  have hu1 := u1.toNat_lt
  have hv1 := v1.toNat_lt
  rw [show rdAt (u1 :: v1 :: b1) = some (((u1.toNat : Int) + -64, (v1.toNat : Int) + -64), b1) from rfl] at hr
  simp only at hr
  refine vs_vm [(0, none), (1, none)] (fromR_v (px := nilD) (i := i) (k := (k.toNat : Int)) (x := 0) (y := 0) (x2 := 0) (y2 := 0) (z := 0) (c := Col.zero) (w := 0) (h := 0) (tg := Idd.zero) u1 v1 b1) ?_
  clear e1
  repeat' (first | refine nz1 ?_ | refine nzo ?_ | refine nc ?_ ?_ | (with_reducible intro _ <;> (try (exfalso; omega))) | refine nnil ?_ | (refine nd ?_ ?_ <;> intro hg <;> first | exact xo hg | rw [hg]))
  rw [if_neg (show ¬ (k.toNat : Int) ≤ 4 by omega), if_neg (show ¬ (k.toNat : Int) = 5 by omega)] at hr
  cases e2 : rdSt b1 with
  | error er =>
    rw [e2] at hr
    refine vs_vm [(0, none), (1, none)] (stampR_no (px := nilD) (i := i) (k := (k.toNat : Int)) (x := ((u1.toNat : Int) + -64)) (y := ((v1.toNat : Int) + -64)) (x2 := 0) (y2 := 0) (z := 0) (c := Col.zero) (w0 := 0) (h0 := 0) (tg := Idd.zero) b1 er e2) ?_
    repeat' (first | refine nz1 ?_ | refine nzo ?_ | refine nc ?_ ?_ | (with_reducible intro _ <;> (try (exfalso; omega))) | refine nnil ?_ | (refine nd ?_ ?_ <;> intro hg <;> first | exact xo hg | rw [hg]))
    all_goals exact rdK_no hr (nx_subp [])
  | ok q =>
  obtain ⟨⟨w, h, l⟩, b2⟩ := q
  rw [e2] at hr
  simp only at hr
  refine vs_vm [(0, none), (1, none)] (stampR_v (px := nilD) (i := i) (k := (k.toNat : Int)) (x := ((u1.toNat : Int) + -64)) (y := ((v1.toNat : Int) + -64)) (x2 := 0) (y2 := 0) (z := 0) (c := Col.zero) (w0 := 0) (h0 := 0) (tg := Idd.zero) b1 b2 w h l e2) ?_
  obtain ⟨o, ho⟩ : ∃ o : Opp, o = ⟨i, (k.toNat : Int), ((u1.toNat : Int) + -64), ((v1.toNat : Int) + -64), 0, 0, 0, Col.zero, (w : Int), (h : Int), l, Idd.zero⟩ := ⟨_, rfl⟩
  have co := ocheck_v o (by rw [ho]; exact Nat.le_trans (rdSt_len e2) (by omega))
  have hr2 : rdOp (k :: t) = if opB o then .ok (o, b2) else .error 290 := by rw [hr, ho]; rfl
  clear hr
  cases hB : opB o with
  | false =>
    rw [hB] at co hr2
    simp only [Bool.false_eq_true, if_false] at co hr2
    rw [ho] at co
    simp only [oD, oDf] at co
    repeat' (first | refine nz1 ?_ | (refine vid ?_; first | refine cz (co) ?_ | (refine vq_l (cneed_ok 290) ?_; first | refine vs_call (cneed_ok 290) ?_ | refine vs_pan (cneed_no 290) ?_ | (refine vs_cifp (cneed_if _ 290) ?_ ?_ <;> intro _ <;> (try (exfalso; omega))) | (refine vs_cif (cneed_if _ 290) ?_ ?_ <;> intro _))) | refine nzo ?_ | refine nc ?_ ?_ | (with_reducible intro _ <;> (try (exfalso; omega))) | refine nnil ?_ | (refine nd ?_ ?_ <;> intro hg <;> first | exact xo hg | rw [hg]))
    all_goals exact rdK_no hr2 (nx_subp [])
  | true =>
    rw [hB] at co hr2
    simp only [if_true] at co hr2
    rw [ho] at co hr2
    simp only [oD, oDf] at co
    repeat' (first | refine nz1 ?_ | (refine vid ?_; first | refine cz (co) ?_ | (refine vq_l (cneed_ok 290) ?_; first | refine vs_call (cneed_ok 290) ?_ | refine vs_pan (cneed_no 290) ?_ | (refine vs_cifp (cneed_if _ 290) ?_ ?_ <;> intro _ <;> (try (exfalso; omega))) | (refine vs_cif (cneed_if _ 290) ?_ ?_ <;> intro _))) | refine nzo ?_ | refine nc ?_ ?_ | (with_reducible intro _ <;> (try (exfalso; omega))) | refine nnil ?_ | (refine nd ?_ ?_ <;> intro hg <;> first | exact xo hg | rw [hg]))
    all_goals (refine rdK_ok hr2 ?_; simp only [oM, oDf]; exact nx_subx [])
theorem opT_e (k : UInt8) (t b : List UInt8) (i : Idd) (hk : k.toNat = 7 ∨ k.toNat = 8) (hi : rdId t = some (i, b)) : VM Tryz.prog 46 2 [.ptr 0 0] [.c 0 0 (tkA (.ptr 1 0) nilP), .c 1 0 (rdV (k :: t))] 2 (rdK (k :: t)) := by
  have hk8 := k.toNat_lt
  have hidx : (fldsD.map V.d)[((k.toNat : Nat) : Int).toNat * 1]? = some (.d (.sl false true fldE)) := by rcases hk with hk | hk <;> (rw [hk]; rfl)
  have hln : fldE.length = 1 := rfl
  have hr := rdOp_k (k := k) (by omega) hi
  simp only [rdTail] at hr
  have cf := fields_v
  have c1 := rd1 k t
  have ci := idR2_v (px := nilD) (i := Idd.zero) (k := (k.toNat : Int)) (x := 0) (y := 0) (x2 := 0) (y2 := 0) (z := 0) (c := Col.zero) (w := 0) (h := 0) (tg := Idd.zero) t b i hi
  rw [if_neg (show ¬ (k.toNat : Int) ≤ 6 by omega)] at hr
  intro B
  refine vmb_of Tryz.func46 rfl Tryz.ntmps46 Tryz.results46 fun M => ?_
  repeat' (first | refine nz1 ?_ | (refine vid ?_; first | refine vs_vm [(1, none)] c1 ?_ | refine vs_vm [(0, none), (1, none)] ci ?_ | refine cz (cf) ?_ | refine vs_vc (hc := vc_of Tryz.func38 rfl Tryz.ntmps38 Tryz.results38 fun _ => ?_) | refine vs_vc (hc := vc_of Tryz.func79 rfl Tryz.ntmps79 Tryz.results79 fun _ => ?_) | refine vs_eqpn ?_ | refine vs_nepnT ?_ | refine vs_nepnF ?_ | (refine vq_l (cneed_ok 110) ?_; first | refine vs_call (cneed_ok 110) ?_ | refine vs_pan (cneed_no 110) ?_ | (refine vs_cifp (cneed_if _ 110) ?_ ?_ <;> intro _ <;> (try (exfalso; omega))) | (refine vs_cif (cneed_if _ 110) ?_ ?_ <;> intro _)) | (refine vq_l (cneed_ok 290) ?_; first | refine vs_call (cneed_ok 290) ?_ | refine vs_pan (cneed_no 290) ?_ | (refine vs_cifp (cneed_if _ 290) ?_ ?_ <;> intro _ <;> (try (exfalso; omega))) | (refine vs_cif (cneed_if _ 290) ?_ ?_ <;> intro _))) | refine nzo ?_ | refine nc ?_ ?_ | (with_reducible intro _ <;> (try (exfalso; omega))) | refine nnil ?_ | (refine nd ?_ ?_ <;> intro hg <;> first | exact xo hg | rw [hg]))
  refine vw_rounds 2 ?_
  repeat' (first | refine nz1 ?_ | refine nzo ?_ | refine nc ?_ ?_ | (with_reducible intro _ <;> (try (exfalso; omega))) | refine nnil ?_ | (refine nd ?_ ?_ <;> intro hg <;> first | exact xo hg | rw [hg]))
  cases e1 : rdId b with
  | none =>
    rw [e1] at hr
    refine vs_vm [(0, none), (1, none)] (targetR_no (px := nilD) (i := i) (k := (k.toNat : Int)) (x := 0) (y := 0) (x2 := 0) (y2 := 0) (z := 0) (c := Col.zero) (w := 0) (h := 0) (tg := Idd.zero) b e1) ?_
    repeat' (first | refine nz1 ?_ | refine nzo ?_ | refine nc ?_ ?_ | (with_reducible intro _ <;> (try (exfalso; omega))) | refine nnil ?_ | (refine nd ?_ ?_ <;> intro hg <;> first | exact xo hg | rw [hg]))
    all_goals exact rdK_no hr (nx_subp [])
  | some q =>
  obtain ⟨j, b1⟩ := q
  rw [e1] at hr
  simp only at hr
  refine vs_vm [(0, none), (1, none)] (targetR_v (px := nilD) (i := i) (k := (k.toNat : Int)) (x := 0) (y := 0) (x2 := 0) (y2 := 0) (z := 0) (c := Col.zero) (w := 0) (h := 0) (tg := Idd.zero) b b1 j e1) ?_
  obtain ⟨o, ho⟩ : ∃ o : Opp, o = ⟨i, (k.toNat : Int), 0, 0, 0, 0, 0, Col.zero, 0, 0, [], j⟩ := ⟨_, rfl⟩
  have co := ocheck_v o (by rw [ho]; simp)
  have hr2 : rdOp (k :: t) = if opB o then .ok (o, b1) else .error 290 := by rw [hr, ho]; rfl
  clear hr
  cases hB : opB o with
  | false =>
    rw [hB] at co hr2
    simp only [Bool.false_eq_true, if_false] at co hr2
    rw [ho] at co
    simp only [oD, oDf, List.map_nil] at co
    repeat' (first | refine nz1 ?_ | (refine vid ?_; first | refine cz (co) ?_ | (refine vq_l (cneed_ok 290) ?_; first | refine vs_call (cneed_ok 290) ?_ | refine vs_pan (cneed_no 290) ?_ | (refine vs_cifp (cneed_if _ 290) ?_ ?_ <;> intro _ <;> (try (exfalso; omega))) | (refine vs_cif (cneed_if _ 290) ?_ ?_ <;> intro _))) | refine nzo ?_ | refine nc ?_ ?_ | (with_reducible intro _ <;> (try (exfalso; omega))) | refine nnil ?_ | (refine nd ?_ ?_ <;> intro hg <;> first | exact xo hg | rw [hg]))
    all_goals exact rdK_no hr2 (nx_subp [])
  | true =>
    rw [hB] at co hr2
    simp only [if_true] at co hr2
    rw [ho] at co hr2
    simp only [oD, oDf, List.map_nil] at co
    repeat' (first | refine nz1 ?_ | (refine vid ?_; first | refine cz (co) ?_ | (refine vq_l (cneed_ok 290) ?_; first | refine vs_call (cneed_ok 290) ?_ | refine vs_pan (cneed_no 290) ?_ | (refine vs_cifp (cneed_if _ 290) ?_ ?_ <;> intro _ <;> (try (exfalso; omega))) | (refine vs_cif (cneed_if _ 290) ?_ ?_ <;> intro _))) | refine nzo ?_ | refine nc ?_ ?_ | (with_reducible intro _ <;> (try (exfalso; omega))) | refine nnil ?_ | (refine nd ?_ ?_ <;> intro hg <;> first | exact xo hg | rw [hg]))
    all_goals (refine rdK_ok hr2 ?_; simp only [oM, oDf, List.map_nil]; exact nx_subx [])
end Go.Proofs.YtnjaohdadaifhaaGreat

namespace Go.Proofs.YtnjaohdadaifhaaGreat
set_option maxRecDepth 20000
open Go.RowKit
set_option maxRecDepth 10000
set_option maxHeartbeats 4000000
theorem opT_v (b : List UInt8) : VM Tryz.prog 46 2 [.ptr 0 0] [.c 0 0 (tkA (.ptr 1 0) nilP), .c 1 0 (rdV b)] 2 (rdK b) := by
  match b with
  | [] => exact opT_1 [] (.inl rfl)
  | k :: t =>
    by_cases hk : 1 ≤ k.toNat ∧ k.toNat ≤ 8
    · cases hi : rdId t with
      | none => exact opT_1 _ (.inr (.inr ⟨k, t, rfl, hk, hi⟩))
      | some q =>
        obtain ⟨i, b⟩ := q
        have h5 : (k.toNat = 1 ∨ k.toNat = 2) ∨ (k.toNat = 3 ∨ k.toNat = 4) ∨ k.toNat = 5 ∨ k.toNat = 6 ∨ k.toNat = 7 ∨ k.toNat = 8 := by omega
        rcases h5 with h | h | h | h | h
        · exact opT_a k t b i h hi
        · exact opT_b k t b i h hi
        · exact opT_c k t b i h hi
        · exact opT_d k t b i h hi
        · exact opT_e k t b i h hi
    · exact opT_1 _ (.inr (.inl ⟨k, t, rfl, hk⟩))
theorem opT_ok {b t : List UInt8} {o : Opp} (h : rdOp b = .ok (o, t)) : VM1 Tryz.prog 46 2 [.ptr 0 0] [.c 0 0 (tkA (.ptr 1 0) nilP), .c 1 0 (rdV b)] 2 (.ret (.d (.agg (oM o)))) [.c 0 0 (tkA (.ptr 1 0) nilP), .c 1 0 (rdV t)] 2 := ((opT_v b).mono fun _ _ _ k => k.1 _ _ h).sub1
theorem opT_er {b : List UInt8} {e : Int} (h : rdOp b = .error e) : VM1 Tryz.prog 46 2 [.ptr 0 0] [.c 0 0 (tkA (.ptr 1 0) nilP), .c 1 0 (rdV b)] 2 (.panic (.d (errD e))) stBad 2 := ((opT_v b).mono fun _ _ _ k => k.2 _ h).sub1
theorem rdSide_e {b : List UInt8} {e : Int} (h : rdSide b = .error e) : e = 110 ∨ e = 290 := by
  match b, h with
  | [], h => simp [rdSide] at h; exact .inl h.symm
  | u :: t, h =>
    simp only [rdSide] at h
    split at h
    · cases h
    · cases h; exact .inr rfl
theorem rdSt_e {b : List UInt8} {e : Int} (h : rdSt b = .error e) : e = 110 ∨ e = 290 := by
  simp only [rdSt] at h
  split at h
  · rename_i h1; cases h; exact rdSide_e h1
  · split at h
    · rename_i h1; cases h; exact rdSide_e h1
    · split at h
      · cases h; exact .inl rfl
      · cases h
theorem rdTail_e {o : Opp} {b : List UInt8} {e : Int} (h : rdTail o b = .error e) : e = 110 ∨ e = 290 := by
  simp only [rdTail] at h
  repeat' (split at h)
  all_goals first | (cases h; fail_if_success (focus skip)) | (cases h; exact .inl rfl) | (rename_i h1; cases h; exact rdSt_e h1)
theorem rdOp_e {b : List UInt8} {e : Int} (h : rdOp b = .error e) : e = 110 ∨ e = 290 := by
  match b, h with
  | [], h => simp [rdOp] at h; exact .inl h.symm
  | k :: t, h =>
    simp only [rdOp] at h
    split at h
    · split at h
      · cases h; exact .inl rfl
      · split at h
        · rename_i h1; cases h; exact rdTail_e h1
        · split at h
          · cases h
          · cases h; exact .inr rfl
    · cases h; exact .inr rfl
theorem takeOp_v (B0 : List UInt8) (hb : B0.length ≤ 1000000) : VP Tryz.prog 14 [bsD B0] (· = .ret (.tup [.agg (oM (takeOp B0).1), i64D (takeOp B0).2.1, i64D (takeOp B0).2.2])) := by
  have hbl := byD_len B0
  have hmin : min ((byD B0).length : Int) 1048576 = ((byD B0).length : Int) := by omega
  have hcut : cutL none (some ((byD B0).length : Int)) (byD B0) = byD B0 := by rw [hbl, cutN, List.take_of_length_le (Nat.le_refl _)]
  have cl := clone_v B0 (by omega)
  refine VP.le ?_
  refine vp_of Tryz.func14 rfl Tryz.ntmps14 rfl Tryz.results14 fun B => ?_
  repeat' (first | refine nz1 ?_ | refine nzo ?_ | refine nc ?_ ?_ | (with_reducible intro _ <;> (try (exfalso; omega))) | refine nnil ?_ | (refine nd ?_ ?_ <;> intro hg <;> first | exact xo hg | rw [hg]))
  refine vs_vc (hc := vc_of Tryz.func45 rfl Tryz.ntmps45 Tryz.results45 fun _ => ?_)
  refine vw_seq ?_
  repeat' (first | refine nz1 ?_ | ((fail_if_success (with_reducible refine vw_seq ?_)); refine nzo ?_) | refine nc ?_ ?_ | (with_reducible intro _ <;> (try (exfalso; omega))) | refine nnil ?_ | (refine nd ?_ ?_ <;> intro hg <;> first | exact xo hg | rw [hg]))
  refine vw_seq ?_
  repeat' (first | rw [hmin] | refine nz1 ?_ | ((fail_if_success (with_reducible refine vw_seq ?_)); refine nzo ?_) | refine nc ?_ ?_ | (with_reducible intro _ <;> (try (exfalso; omega))) | refine nnil ?_ | (refine nd ?_ ?_ <;> intro hg <;> first | exact xo hg | rw [hg]))
  refine vw_seq ?_
  repeat' (first | refine nz1 ?_ | ((fail_if_success (with_reducible refine vw_seq ?_)); refine nzo ?_) | refine nc ?_ ?_ | (with_reducible intro _ <;> (try (exfalso; omega))) | refine nnil ?_ | (refine nd ?_ ?_ <;> intro hg <;> first | exact xo hg | rw [hg]))
  refine vw_frz 3 rfl ?_
  · skip
    repeat' (first | rw [hcut] | refine nz1 ?_ | (refine vid ?_; first | refine vs_vc (hc := vc_of Tryz.func75 rfl Tryz.ntmps75 Tryz.results75 fun _ => ?_) | refine cz (cl) ?_ | refine vs_vc (hc := vc_of Tryz.func83 rfl Tryz.ntmps83 Tryz.results83 fun _ => ?_) | refine vs_vc (hc := vc_tries (fd := 97) Tryz.func71 rfl Tryz.ntmps71 Tryz.results71 fun _ => ?_)) | refine nzo ?_ | refine nc ?_ ?_ | (with_reducible intro _ <;> (try (exfalso; omega))) | refine nnil ?_ | (refine nd ?_ ?_ <;> intro hg <;> first | exact xo hg | rw [hg]) | refine vdf_of Tryz.func97 rfl Tryz.ntmps97 Tryz.results97 ?_)
    cases hr : rdOp B0 with
    | error e =>
      rw [show takeOp B0 = (.zero, 0, e) by rw [takeOp, hr]]
      have ce := opT_er hr
      rcases rdOp_e hr with rfl | rfl
      all_goals
        refine vs_vm [(8, none), (4, none)] ce ?_
        repeat' (first | refine nz1 ?_ | refine nzo ?_ | refine nc ?_ ?_ | (with_reducible intro _ <;> (try (exfalso; omega))) | refine nnil ?_ | (refine nd ?_ ?_ <;> intro hg <;> first | exact xo hg | rw [hg]) | refine vdf_of Tryz.func97 rfl Tryz.ntmps97 Tryz.results97 ?_)
        all_goals first | (simp only [leR, oM, oDf, Opp.zero, Idd.zero, Col.zero, vb0, int0, List.map_nil]; infer_instance) | trace_state
    | ok q =>
      obtain ⟨o, t⟩ := q
      rw [show takeOp B0 = (o, (B0.length : Int) - (t.length : Int), 0) by rw [takeOp, hr]]
      have co := opT_ok hr
      have c9 := left_v t 0
      have htl : (byD t).length ≤ (byD B0).length := by
        have := congrArg List.length (by_op hr).2
        rw [List.length_append] at this
        rw [byD_len, byD_len]; omega
      rw [← byD_len B0, ← byD_len t]
      refine vs_vm [(8, none), (4, none)] co ?_
      clear co
      repeat' (first | refine vw_drawkx (id := 10) [2] ?_ | refine nz1 ?_ | (refine vid ?_; first | refine cz (c9) ?_ | refine vs_vc (hc := vc_of Tryz.func77 rfl Tryz.ntmps77 Tryz.results77 fun _ => ?_) | refine vs_eqpn ?_ | refine vs_nepn ?_) | refine nzo ?_ | refine nc ?_ ?_ | (with_reducible intro _ <;> (try (exfalso; omega))) | refine nnil ?_ | (refine nd ?_ ?_ <;> intro hg <;> first | exact xo hg | rw [hg]) | refine vdf_of Tryz.func97 rfl Tryz.ntmps97 Tryz.results97 ?_)
      all_goals exact de_refl _
end Go.Proofs.YtnjaohdadaifhaaGreat
