/- Walks by data and names, part 38: Layer 19, by V: operations, read: brushes, rectangles. -/
import Derived.Test.YtnjaohdadaifhaaGreatPk37
namespace Go.Proofs.YtnjaohdadaifhaaGreat
set_option maxRecDepth 20000
open Go.RowKit
set_option maxRecDepth 10000
set_option maxHeartbeats 4000000
theorem opT_a (k : UInt8) (t b : List UInt8) (i : Idd) (hk : k.toNat = 1 ∨ k.toNat = 2) (hi : rdId t = some (i, b)) : VM Tryz.prog 46 2 [.ptr 0 0] [.c 0 0 (tkA (.ptr 1 0) nilP), .c 1 0 (rdV (k :: t))] 2 (rdK (k :: t)) := by
  have hk8 := k.toNat_lt
  have hidx : (fldsD.map V.d)[((k.toNat : Nat) : Int).toNat * 1]? = some (.d (.sl false true fldA)) := by rcases hk with hk | hk <;> (rw [hk]; rfl)
  have hln : fldA.length = 4 := rfl
  have hr := rdOp_k (k := k) (by omega) hi
  simp only [rdTail] at hr
  have cf := fields_v
  have c1 := rd1 k t
  have ci := idR2_v (px := nilD) (i := Idd.zero) (k := (k.toNat : Int)) (x := 0) (y := 0) (x2 := 0) (y2 := 0) (z := 0) (c := Col.zero) (w := 0) (h := 0) (tg := Idd.zero) t b i hi
  rw [if_pos (show (k.toNat : Int) ≤ 6 by omega)] at hr
  intro B
  refine vmb_of Tryz.func46 rfl Tryz.ntmps46 Tryz.results46 fun M => ?_
  repeat' (first | refine nz1 ?_ | (refine vid ?_; first | refine vs_vm [(1, none)] c1 ?_ | refine vs_vm [(0, none), (1, none)] ci ?_ | refine cz (cf) ?_ | refine vs_vc (hc := vc_of Tryz.func38 rfl Tryz.ntmps38 Tryz.results38 fun _ => ?_) | refine vs_vc (hc := vc_of Tryz.func79 rfl Tryz.ntmps79 Tryz.results79 fun _ => ?_) | refine vs_eqpn ?_ | refine vs_nepnT ?_ | refine vs_nepnF ?_ | (refine vq_l (cneed_ok 110) ?_; first | refine vs_call (cneed_ok 110) ?_ | refine vs_pan (cneed_no 110) ?_ | (refine vs_cifp (cneed_if _ 110) ?_ ?_ <;> intro _ <;> (try (exfalso; omega))) | (refine vs_cif (cneed_if _ 110) ?_ ?_ <;> intro _)) | (refine vq_l (cneed_ok 290) ?_; first | refine vs_call (cneed_ok 290) ?_ | refine vs_pan (cneed_no 290) ?_ | (refine vs_cifp (cneed_if _ 290) ?_ ?_ <;> intro _ <;> (try (exfalso; omega))) | (refine vs_cif (cneed_if _ 290) ?_ ?_ <;> intro _))) | refine nzo ?_ | refine nc ?_ ?_ | (with_reducible intro _ <;> (try (exfalso; omega))) | refine nnil ?_ | (refine nd ?_ ?_ <;> intro hg <;> first | exact xo hg | rw [hg]))
  refine vw_rounds 5 ?_
  repeat' (first | refine nz1 ?_ | refine nzo ?_ | refine nc ?_ ?_ | (with_reducible intro _ <;> (try (exfalso; omega))) | refine nnil ?_ | (refine nd ?_ ?_ <;> intro hg <;> first | exact xo hg | rw [hg]))
  cases e1 : rdAt b with
  | none =>
    rw [e1] at hr
    refine vs_vm [(0, none), (1, none)] (fromR_no (px := nilD) (i := i) (k := (k.toNat : Int)) (x := 0) (y := 0) (x2 := 0) (y2 := 0) (z := 0) (c := Col.zero) (w := 0) (h := 0) (tg := Idd.zero) b e1) ?_
    repeat' (first | refine nz1 ?_ | refine nzo ?_ | refine nc ?_ ?_ | (with_reducible intro _ <;> (try (exfalso; omega))) | refine nnil ?_ | (refine nd ?_ ?_ <;> intro hg <;> first | exact xo hg | rw [hg]))
    all_goals exact rdK_no hr (nx_subp [])
  | some q =>
  match b, e1 with
  | u1 :: v1 :: b1, e1 =>
  have hu1 := u1.toNat_lt
  have hv1 := v1.toNat_lt
  rw [show rdAt (u1 :: v1 :: b1) = some (((u1.toNat : Int) + -64, (v1.toNat : Int) + -64), b1) from rfl] at hr
  simp only at hr
  refine vs_vm [(0, none), (1, none)] (fromR_v (px := nilD) (i := i) (k := (k.toNat : Int)) (x := 0) (y := 0) (x2 := 0) (y2 := 0) (z := 0) (c := Col.zero) (w := 0) (h := 0) (tg := Idd.zero) u1 v1 b1) ?_
  clear e1
  repeat' (first | refine nz1 ?_ | refine nzo ?_ | refine nc ?_ ?_ | (with_reducible intro _ <;> (try (exfalso; omega))) | refine nnil ?_ | (refine nd ?_ ?_ <;> intro hg <;> first | exact xo hg | rw [hg]))
  rw [if_pos (show (k.toNat : Int) ≤ 4 by omega)] at hr
  cases e2 : rdAt b1 with
  | none =>
    rw [e2] at hr
    refine vs_vm [(0, none), (1, none)] (toR_no (px := nilD) (i := i) (k := (k.toNat : Int)) (x := ((u1.toNat : Int) + -64)) (y := ((v1.toNat : Int) + -64)) (x2 := 0) (y2 := 0) (z := 0) (c := Col.zero) (w := 0) (h := 0) (tg := Idd.zero) b1 e2) ?_
    repeat' (first | refine nz1 ?_ | refine nzo ?_ | refine nc ?_ ?_ | (with_reducible intro _ <;> (try (exfalso; omega))) | refine nnil ?_ | (refine nd ?_ ?_ <;> intro hg <;> first | exact xo hg | rw [hg]))
    all_goals exact rdK_no hr (nx_subp [])
  | some q =>
  match b1, e2 with
  | u2 :: v2 :: b2, e2 =>
  have hu2 := u2.toNat_lt
  have hv2 := v2.toNat_lt
  rw [show rdAt (u2 :: v2 :: b2) = some (((u2.toNat : Int) + -64, (v2.toNat : Int) + -64), b2) from rfl] at hr
  simp only at hr
  refine vs_vm [(0, none), (1, none)] (toR_v (px := nilD) (i := i) (k := (k.toNat : Int)) (x := ((u1.toNat : Int) + -64)) (y := ((v1.toNat : Int) + -64)) (x2 := 0) (y2 := 0) (z := 0) (c := Col.zero) (w := 0) (h := 0) (tg := Idd.zero) u2 v2 b2) ?_
  clear e2
  repeat' (first | refine nz1 ?_ | refine nzo ?_ | refine nc ?_ ?_ | (with_reducible intro _ <;> (try (exfalso; omega))) | refine nnil ?_ | (refine nd ?_ ?_ <;> intro hg <;> first | exact xo hg | rw [hg]))
  rw [if_pos (show (k.toNat : Int) ≤ 2 by omega)] at hr
  cases e3 : rdSz b2 with
  | none =>
    rw [e3] at hr
    refine vs_vm [(0, none), (1, none)] (sizeR_no (px := nilD) (i := i) (k := (k.toNat : Int)) (x := ((u1.toNat : Int) + -64)) (y := ((v1.toNat : Int) + -64)) (x2 := ((u2.toNat : Int) + -64)) (y2 := ((v2.toNat : Int) + -64)) (z := 0) (c := Col.zero) (w := 0) (h := 0) (tg := Idd.zero) b2 e3) ?_
    repeat' (first | refine nz1 ?_ | refine nzo ?_ | refine nc ?_ ?_ | (with_reducible intro _ <;> (try (exfalso; omega))) | refine nnil ?_ | (refine nd ?_ ?_ <;> intro hg <;> first | exact xo hg | rw [hg]))
    all_goals exact rdK_no hr (nx_subp [])
  | some q =>
  match b2, e3 with
  | u3 :: v3 :: b3, e3 =>
  rw [show rdSz (u3 :: v3 :: b3) = some (256 * u3.toNat + v3.toNat, b3) from rfl] at hr
  simp only at hr
  refine vs_vm [(0, none), (1, none)] (sizeR_v (px := nilD) (i := i) (k := (k.toNat : Int)) (x := ((u1.toNat : Int) + -64)) (y := ((v1.toNat : Int) + -64)) (x2 := ((u2.toNat : Int) + -64)) (y2 := ((v2.toNat : Int) + -64)) (z := 0) (c := Col.zero) (w := 0) (h := 0) (tg := Idd.zero) u3 v3 b3) ?_
  clear e3
  repeat' (first | refine nz1 ?_ | refine nzo ?_ | refine nc ?_ ?_ | (with_reducible intro _ <;> (try (exfalso; omega))) | refine nnil ?_ | (refine nd ?_ ?_ <;> intro hg <;> first | exact xo hg | rw [hg]))
  cases e4 : rdCol b3 with
  | none =>
    rw [e4] at hr
    refine vs_vm [(0, none), (1, none)] (colorR_no (px := nilD) (i := i) (k := (k.toNat : Int)) (x := ((u1.toNat : Int) + -64)) (y := ((v1.toNat : Int) + -64)) (x2 := ((u2.toNat : Int) + -64)) (y2 := ((v2.toNat : Int) + -64)) (z := ((256 * u3.toNat + v3.toNat : Nat) : Int)) (c := Col.zero) (w := 0) (h := 0) (tg := Idd.zero) b3 e4) ?_
    repeat' (first | refine nz1 ?_ | refine nzo ?_ | refine nc ?_ ?_ | (with_reducible intro _ <;> (try (exfalso; omega))) | refine nnil ?_ | (refine nd ?_ ?_ <;> intro hg <;> first | exact xo hg | rw [hg]))
    all_goals exact rdK_no hr (nx_subp [])
  | some q =>
  match b3, e4 with
  | r :: gg :: bl :: a :: b4, e4 =>
  rw [show rdCol (r :: gg :: bl :: a :: b4) = some (⟨r, gg, bl, a⟩, b4) from rfl] at hr
  simp only at hr
  refine vs_vm [(0, none), (1, none)] (colorR_v (px := nilD) (i := i) (k := (k.toNat : Int)) (x := ((u1.toNat : Int) + -64)) (y := ((v1.toNat : Int) + -64)) (x2 := ((u2.toNat : Int) + -64)) (y2 := ((v2.toNat : Int) + -64)) (z := ((256 * u3.toNat + v3.toNat : Nat) : Int)) (c := Col.zero) (w := 0) (h := 0) (tg := Idd.zero) r gg bl a b4) ?_
  clear e4
  obtain ⟨o, ho⟩ : ∃ o : Opp, o = ⟨i, (k.toNat : Int), ((u1.toNat : Int) + -64), ((v1.toNat : Int) + -64), ((u2.toNat : Int) + -64), ((v2.toNat : Int) + -64), ((256 * u3.toNat + v3.toNat : Nat) : Int), ⟨r, gg, bl, a⟩, 0, 0, [], Idd.zero⟩ := ⟨_, rfl⟩
  have co := ocheck_v o (by rw [ho]; simp)
  have hr2 : rdOp (k :: t) = if opB o then .ok (o, b4) else .error 290 := by rw [hr, ho]; rfl
  clear hr
  cases hB : opB o with
  | false =>
    rw [hB] at co hr2
    simp only [Bool.false_eq_true, if_false] at co hr2
    rw [ho] at co
    simp only [oD, oDf, List.map_nil] at co
    repeat' (first | refine nz1 ?_ | (refine vid ?_; first | refine cz (co) ?_ | (refine vq_l (cneed_ok 290) ?_; first | refine vs_call (cneed_ok 290) ?_ | refine vs_pan (cneed_no 290) ?_ | (refine vs_cifp (cneed_if _ 290) ?_ ?_ <;> intro _ <;> (try (exfalso; omega))) | (refine vs_cif (cneed_if _ 290) ?_ ?_ <;> intro _))) | refine nzo ?_ | refine nc ?_ ?_ | (with_reducible intro _ <;> (try (exfalso; omega))) | refine nnil ?_ | (refine nd ?_ ?_ <;> intro hg <;> first | exact xo hg | rw [hg]))
    all_goals exact rdK_no hr2 (nx_subp [])
  | true =>
    rw [hB] at co hr2
    simp only [if_true] at co hr2
    rw [ho] at co hr2
    simp only [oD, oDf, List.map_nil] at co
    repeat' (first | refine nz1 ?_ | (refine vid ?_; first | refine cz (co) ?_ | (refine vq_l (cneed_ok 290) ?_; first | refine vs_call (cneed_ok 290) ?_ | refine vs_pan (cneed_no 290) ?_ | (refine vs_cifp (cneed_if _ 290) ?_ ?_ <;> intro _ <;> (try (exfalso; omega))) | (refine vs_cif (cneed_if _ 290) ?_ ?_ <;> intro _))) | refine nzo ?_ | refine nc ?_ ?_ | (with_reducible intro _ <;> (try (exfalso; omega))) | refine nnil ?_ | (refine nd ?_ ?_ <;> intro hg <;> first | exact xo hg | rw [hg]))
    all_goals (refine rdK_ok hr2 ?_; simp only [oM, oDf, List.map_nil]; exact nx_subx [])
theorem opT_b (k : UInt8) (t b : List UInt8) (i : Idd) (hk : k.toNat = 3 ∨ k.toNat = 4) (hi : rdId t = some (i, b)) : VM Tryz.prog 46 2 [.ptr 0 0] [.c 0 0 (tkA (.ptr 1 0) nilP), .c 1 0 (rdV (k :: t))] 2 (rdK (k :: t)) := by
  have hk8 := k.toNat_lt
  have hidx : (fldsD.map V.d)[((k.toNat : Nat) : Int).toNat * 1]? = some (.d (.sl false true fldB)) := by rcases hk with hk | hk <;> (rw [hk]; rfl)
  have hln : fldB.length = 3 := rfl
  have hr := rdOp_k (k := k) (by omega) hi
  simp only [rdTail] at hr
  have cf := fields_v
  have c1 := rd1 k t
  have ci := idR2_v (px := nilD) (i := Idd.zero) (k := (k.toNat : Int)) (x := 0) (y := 0) (x2 := 0) (y2 := 0) (z := 0) (c := Col.zero) (w := 0) (h := 0) (tg := Idd.zero) t b i hi
  rw [if_pos (show (k.toNat : Int) ≤ 6 by omega)] at hr
  intro B
  refine vmb_of Tryz.func46 rfl Tryz.ntmps46 Tryz.results46 fun M => ?_
  repeat' (first | refine nz1 ?_ | (refine vid ?_; first | refine vs_vm [(1, none)] c1 ?_ | refine vs_vm [(0, none), (1, none)] ci ?_ | refine cz (cf) ?_ | refine vs_vc (hc := vc_of Tryz.func38 rfl Tryz.ntmps38 Tryz.results38 fun _ => ?_) | refine vs_vc (hc := vc_of Tryz.func79 rfl Tryz.ntmps79 Tryz.results79 fun _ => ?_) | refine vs_eqpn ?_ | refine vs_nepnT ?_ | refine vs_nepnF ?_ | (refine vq_l (cneed_ok 110) ?_; first | refine vs_call (cneed_ok 110) ?_ | refine vs_pan (cneed_no 110) ?_ | (refine vs_cifp (cneed_if _ 110) ?_ ?_ <;> intro _ <;> (try (exfalso; omega))) | (refine vs_cif (cneed_if _ 110) ?_ ?_ <;> intro _)) | (refine vq_l (cneed_ok 290) ?_; first | refine vs_call (cneed_ok 290) ?_ | refine vs_pan (cneed_no 290) ?_ | (refine vs_cifp (cneed_if _ 290) ?_ ?_ <;> intro _ <;> (try (exfalso; omega))) | (refine vs_cif (cneed_if _ 290) ?_ ?_ <;> intro _))) | refine nzo ?_ | refine nc ?_ ?_ | (with_reducible intro _ <;> (try (exfalso; omega))) | refine nnil ?_ | (refine nd ?_ ?_ <;> intro hg <;> first | exact xo hg | rw [hg]))
  refine vw_rounds 4 ?_
  repeat' (first | refine nz1 ?_ | refine nzo ?_ | refine nc ?_ ?_ | (with_reducible intro _ <;> (try (exfalso; omega))) | refine nnil ?_ | (refine nd ?_ ?_ <;> intro hg <;> first | exact xo hg | rw [hg]))
  cases e1 : rdAt b with
  | none =>
    rw [e1] at hr
    refine vs_vm [(0, none), (1, none)] (fromR_no (px := nilD) (i := i) (k := (k.toNat : Int)) (x := 0) (y := 0) (x2 := 0) (y2 := 0) (z := 0) (c := Col.zero) (w := 0) (h := 0) (tg := Idd.zero) b e1) ?_
    repeat' (first | refine nz1 ?_ | refine nzo ?_ | refine nc ?_ ?_ | (with_reducible intro _ <;> (try (exfalso; omega))) | refine nnil ?_ | (refine nd ?_ ?_ <;> intro hg <;> first | exact xo hg | rw [hg]))
    all_goals exact rdK_no hr (nx_subp [])
  | some q =>
  match b, e1 with
  | u1 :: v1 :: b1, e1 =>
  have hu1 := u1.toNat_lt
  have hv1 := v1.toNat_lt
  rw [show rdAt (u1 :: v1 :: b1) = some (((u1.toNat : Int) + -64, (v1.toNat : Int) + -64), b1) from rfl] at hr
  simp only at hr
  refine vs_vm [(0, none), (1, none)] (fromR_v (px := nilD) (i := i) (k := (k.toNat : Int)) (x := 0) (y := 0) (x2 := 0) (y2 := 0) (z := 0) (c := Col.zero) (w := 0) (h := 0) (tg := Idd.zero) u1 v1 b1) ?_
  clear e1
  repeat' (first | refine nz1 ?_ | refine nzo ?_ | refine nc ?_ ?_ | (with_reducible intro _ <;> (try (exfalso; omega))) | refine nnil ?_ | (refine nd ?_ ?_ <;> intro hg <;> first | exact xo hg | rw [hg]))
  rw [if_pos (show (k.toNat : Int) ≤ 4 by omega)] at hr
  cases e2 : rdAt b1 with
  | none =>
    rw [e2] at hr
    refine vs_vm [(0, none), (1, none)] (toR_no (px := nilD) (i := i) (k := (k.toNat : Int)) (x := ((u1.toNat : Int) + -64)) (y := ((v1.toNat : Int) + -64)) (x2 := 0) (y2 := 0) (z := 0) (c := Col.zero) (w := 0) (h := 0) (tg := Idd.zero) b1 e2) ?_
    repeat' (first | refine nz1 ?_ | refine nzo ?_ | refine nc ?_ ?_ | (with_reducible intro _ <;> (try (exfalso; omega))) | refine nnil ?_ | (refine nd ?_ ?_ <;> intro hg <;> first | exact xo hg | rw [hg]))
    all_goals exact rdK_no hr (nx_subp [])
  | some q =>
  match b1, e2 with
  | u2 :: v2 :: b2, e2 =>
  have hu2 := u2.toNat_lt
  have hv2 := v2.toNat_lt
  rw [show rdAt (u2 :: v2 :: b2) = some (((u2.toNat : Int) + -64, (v2.toNat : Int) + -64), b2) from rfl] at hr
  simp only at hr
  refine vs_vm [(0, none), (1, none)] (toR_v (px := nilD) (i := i) (k := (k.toNat : Int)) (x := ((u1.toNat : Int) + -64)) (y := ((v1.toNat : Int) + -64)) (x2 := 0) (y2 := 0) (z := 0) (c := Col.zero) (w := 0) (h := 0) (tg := Idd.zero) u2 v2 b2) ?_
  clear e2
  repeat' (first | refine nz1 ?_ | refine nzo ?_ | refine nc ?_ ?_ | (with_reducible intro _ <;> (try (exfalso; omega))) | refine nnil ?_ | (refine nd ?_ ?_ <;> intro hg <;> first | exact xo hg | rw [hg]))
  rw [if_neg (show ¬ (k.toNat : Int) ≤ 2 by omega)] at hr
  cases e3 : rdCol b2 with
  | none =>
    rw [e3] at hr
    refine vs_vm [(0, none), (1, none)] (colorR_no (px := nilD) (i := i) (k := (k.toNat : Int)) (x := ((u1.toNat : Int) + -64)) (y := ((v1.toNat : Int) + -64)) (x2 := ((u2.toNat : Int) + -64)) (y2 := ((v2.toNat : Int) + -64)) (z := 0) (c := Col.zero) (w := 0) (h := 0) (tg := Idd.zero) b2 e3) ?_
    repeat' (first | refine nz1 ?_ | refine nzo ?_ | refine nc ?_ ?_ | (with_reducible intro _ <;> (try (exfalso; omega))) | refine nnil ?_ | (refine nd ?_ ?_ <;> intro hg <;> first | exact xo hg | rw [hg]))
    all_goals exact rdK_no hr (nx_subp [])
  | some q =>
  match b2, e3 with
  | r :: gg :: bl :: a :: b3, e3 =>
  rw [show rdCol (r :: gg :: bl :: a :: b3) = some (⟨r, gg, bl, a⟩, b3) from rfl] at hr
  simp only at hr
  refine vs_vm [(0, none), (1, none)] (colorR_v (px := nilD) (i := i) (k := (k.toNat : Int)) (x := ((u1.toNat : Int) + -64)) (y := ((v1.toNat : Int) + -64)) (x2 := ((u2.toNat : Int) + -64)) (y2 := ((v2.toNat : Int) + -64)) (z := 0) (c := Col.zero) (w := 0) (h := 0) (tg := Idd.zero) r gg bl a b3) ?_
  clear e3
  obtain ⟨o, ho⟩ : ∃ o : Opp, o = ⟨i, (k.toNat : Int), ((u1.toNat : Int) + -64), ((v1.toNat : Int) + -64), ((u2.toNat : Int) + -64), ((v2.toNat : Int) + -64), 0, ⟨r, gg, bl, a⟩, 0, 0, [], Idd.zero⟩ := ⟨_, rfl⟩
  have co := ocheck_v o (by rw [ho]; simp)
  have hr2 : rdOp (k :: t) = if opB o then .ok (o, b3) else .error 290 := by rw [hr, ho]; rfl
  clear hr
  cases hB : opB o with
  | false =>
    rw [hB] at co hr2
    simp only [Bool.false_eq_true, if_false] at co hr2
    rw [ho] at co
    simp only [oD, oDf, List.map_nil] at co
    repeat' (first | refine nz1 ?_ | (refine vid ?_; first | refine cz (co) ?_ | (refine vq_l (cneed_ok 290) ?_; first | refine vs_call (cneed_ok 290) ?_ | refine vs_pan (cneed_no 290) ?_ | (refine vs_cifp (cneed_if _ 290) ?_ ?_ <;> intro _ <;> (try (exfalso; omega))) | (refine vs_cif (cneed_if _ 290) ?_ ?_ <;> intro _))) | refine nzo ?_ | refine nc ?_ ?_ | (with_reducible intro _ <;> (try (exfalso; omega))) | refine nnil ?_ | (refine nd ?_ ?_ <;> intro hg <;> first | exact xo hg | rw [hg]))
    all_goals exact rdK_no hr2 (nx_subp [])
  | true =>
    rw [hB] at co hr2
    simp only [if_true] at co hr2
    rw [ho] at co hr2
    simp only [oD, oDf, List.map_nil] at co
    repeat' (first | refine nz1 ?_ | (refine vid ?_; first | refine cz (co) ?_ | (refine vq_l (cneed_ok 290) ?_; first | refine vs_call (cneed_ok 290) ?_ | refine vs_pan (cneed_no 290) ?_ | (refine vs_cifp (cneed_if _ 290) ?_ ?_ <;> intro _ <;> (try (exfalso; omega))) | (refine vs_cif (cneed_if _ 290) ?_ ?_ <;> intro _))) | refine nzo ?_ | refine nc ?_ ?_ | (with_reducible intro _ <;> (try (exfalso; omega))) | refine nnil ?_ | (refine nd ?_ ?_ <;> intro hg <;> first | exact xo hg | rw [hg]))
    all_goals (refine rdK_ok hr2 ?_; simp only [oM, oDf, List.map_nil]; exact nx_subx [])
end Go.Proofs.YtnjaohdadaifhaaGreat
