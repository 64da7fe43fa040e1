/- Walks by data and names, part 43: Layer 21, by V: the pieces of bytes. Layer 21: wakes: what its answers are (plain). A row that is made, and that nobody writes to. -/
import Derived.Test.YtkjpcjccddggoaaGreatQk37
import Derived.Test.YtkjpcjccddggoaaGreatQk41
import Derived.Test.YtkjpcjccddggoaaGreatQk42
import Derived.Test.YtkjpcjccddggoaaGreatQk25
namespace Go.Proofs.YtkjpcjccddggoaaGreat
open Go.RowKit
set_option maxRecDepth 10000
set_option maxHeartbeats 4000000
theorem vw_rng {P : Program} {cx : Cx} {tm : List (Nat × V)} {st : List E} {nb : Nat} {Q : VE → St → Prop} {gop : Operand} {ps : Array Tmp} {assign body : Code} {v : V} {f : FuncId} {az : List V} {tm0 : List (Nat × V)}
    (hc : ∀ (R : Loop) (T : Array Value), LoopOk cx.N ps assign body R T → VMB P f cx.B cx.m az (.y nb (some R) T ((cx.N, .yl nb) :: tm0) :: st) (nb + 1) (rangeK P cx nb T Q))
    (hrd : cx.rd = none := by rfl) (hM : cx.M.isSome = true := by rfl) (hdf : cx.df = [] := by rfl) (hx : evalV ⟨tm, st, nb⟩ gop = some v := by rfl) (hf : fnV v [.yl nb] = some (f, az) := by rfl) (htm0 : lowT cx.N tm = some tm0 := by rfl) (hmn : Nat.ble cx.m nb = true := by rfl) :
    VW P cx (.rangeFunc gop ps assign body) ⟨tm, st, nb⟩ Q := vw_range hrd hM hdf hx hf htm0 hmn hc
def manyN (b : List UInt8) : Nat := (b.length + 255) / 256
def pcAt (s : Int) (b : List UInt8) (i : Nat) : Pc := ⟨s, i, manyN b, (b.drop (256 * i)).take 256⟩
def pcsOf (s : Int) (b : List UInt8) : List Pc := (List.range (manyN b)).map (pcAt s b)
abbrev pcN (p : Pc) : List D := [u64D p.snap, i64D p.idx, i64D p.many, .sl true true (byD p.b)]
theorem manyI_N (b : List UInt8) : manyI (byD b).length = manyN b := by rw [byD_len]; simp only [manyI, manyN]; omega
def cutE (s : Int) (b : List UInt8) : List Pc × Int := if (numB s && decide (0 < b.length)) = false then ([], 2) else if decide (manyN b ≤ 64) = false then ([], 3) else (pcsOf s b, 0)
theorem cut_v (s : Int) (b : List UInt8) (hb : b.length ≤ 100000) : VP Tryz.prog 9 [u64D s, bsD b] (· = .ret (.tup [.sl false true ((cutE s b).1.map pcN), i64D (cutE s b).2])) := by
  have hbl := byD_len b
  have cn := number_v s
  have cm := many_v (byD b).length (by omega) (by omega)
  rw [manyI_N] at cm
  refine VP.le ?_
  cases h1 : numB s && decide (0 < b.length) with
  | false =>
    have hx : numB s = true → b.length = 0 := by intro h; simpa [h] using h1
    have hc : cutE s b = ([], 2) := by simp only [cutE, h1, if_true]
    rw [hc]
    refine vp_of Tryz.func9 rfl Tryz.ntmps9 rfl Tryz.results9 fun B => ?_
    repeat' (first | fail | fail | refine nzl ?_ | refine nzd ?_ | ((first | with_reducible refine vl_id ?_ | with_reducible refine vd_id ?_); first | refine cz (cn) ?_ | refine cz (cm) ?_ | (refine vq_l (need_ok 2) ?_; first | refine vs_call (need_ok 2) ?_ | refine vs_pan (need_no 2) ?_ | (refine vs_cifp (need_if _ 2) ?_ ?_ <;> intro _ <;> (try (exfalso; omega))) | (refine vs_cif (need_if _ 2) ?_ ?_ <;> intro _)) | (refine vq_l (need_ok 3) ?_; first | refine vs_call (need_ok 3) ?_ | refine vs_pan (need_no 3) ?_ | (refine vs_cifp (need_if _ 3) ?_ ?_ <;> intro _ <;> (try (exfalso; omega))) | (refine vs_cif (need_if _ 3) ?_ ?_ <;> intro _)) | refine vs_vc (hc := vc_of Tryz.func40 rfl Tryz.ntmps40 Tryz.results40 fun _ => ?_) | refine vs_vc (hc := vc_of Tryz.func41 rfl Tryz.ntmps41 Tryz.results41 fun _ => ?_) | refine vs_vc (hc := vc_tries (fd := 89) Tryz.func39 rfl Tryz.ntmps39 Tryz.results39 fun _ => ?_)) | refine nzo ?_ | refine nc ?_ ?_ | (with_reducible intro _ <;> (try (exfalso; omega))) | refine vs_eqnil ?_ | refine vs_nenil ?_ | (refine nd ?_ ?_ <;> intro hg <;> (first | (exfalso; (try simp only [decide_eq_true_eq, decide_eq_false_iff_not] at hg); omega) | rw [hg])) | refine vdf_of Tryz.func89 rfl Tryz.ntmps89 Tryz.results89 ?_)
    all_goals first | (exfalso; have := hx (by assumption); omega) | (simp only [List.map_nil, leR]; infer_instance)
  | true =>
    obtain ⟨hn, hp⟩ : numB s = true ∧ 0 < b.length := by simpa using h1
    rw [hn] at cn
    by_cases h2 : manyN b ≤ 64
    · have hc : cutE s b = (pcsOf s b, 0) := by simp [cutE, h1, h2]
      rw [hc]
      refine vp_of Tryz.func9 rfl Tryz.ntmps9 rfl Tryz.results9 fun B => ?_
      repeat' (first | fail | fail | refine nzl ?_ | refine nzd ?_ | ((first | with_reducible refine vl_id ?_ | with_reducible refine vd_id ?_); first | refine cz (cn) ?_ | refine cz (cm) ?_ | (refine vq_l (need_ok 2) ?_; first | refine vs_call (need_ok 2) ?_ | refine vs_pan (need_no 2) ?_ | (refine vs_cifp (need_if _ 2) ?_ ?_ <;> intro _ <;> (try (exfalso; omega))) | (refine vs_cif (need_if _ 2) ?_ ?_ <;> intro _)) | (refine vq_l (need_ok 3) ?_; first | refine vs_call (need_ok 3) ?_ | refine vs_pan (need_no 3) ?_ | (refine vs_cifp (need_if _ 3) ?_ ?_ <;> intro _ <;> (try (exfalso; omega))) | (refine vs_cif (need_if _ 3) ?_ ?_ <;> intro _)) | refine vs_vc (hc := vc_of Tryz.func40 rfl Tryz.ntmps40 Tryz.results40 fun _ => ?_) | refine vs_vc (hc := vc_of Tryz.func41 rfl Tryz.ntmps41 Tryz.results41 fun _ => ?_) | refine vs_vc (hc := vc_of Tryz.func42 rfl Tryz.ntmps42 Tryz.results42 fun _ => ?_) | refine vs_vc (hc := vc_of Tryz.func91 rfl Tryz.ntmps91 Tryz.results91 fun _ => ?_) | refine vs_vc (hc := vc_of Tryz.func43 rfl Tryz.ntmps43 Tryz.results43 fun _ => ?_) | refine vs_vc (hc := vc_tries (fd := 89) Tryz.func39 rfl Tryz.ntmps39 Tryz.results39 fun _ => ?_)) | refine nzo ?_ | refine nc ?_ ?_ | (with_reducible intro _ <;> (try (exfalso; omega))) | refine vs_eqnil ?_ | refine vs_nenil ?_ | (refine nd ?_ ?_ <;> intro hg <;> (first | (exfalso; (try simp only [decide_eq_true_eq, decide_eq_false_iff_not] at hg); omega) | rw [hg])) | refine vdf_of Tryz.func89 rfl Tryz.ntmps89 Tryz.results89 ?_)
      refine vw_rng fun R1 T1 hOk1 => ?_
      refine vmb_of Tryz.func92 rfl Tryz.ntmps92 Tryz.results92 fun M2 => ?_
      repeat' (first | fail | fail | refine nzl ?_ | refine nzd ?_ | ((first | with_reducible refine vl_id ?_ | with_reducible refine vd_id ?_); first | refine cz (cm) ?_ | refine vs_vc (hc := vc_of Tryz.func93 rfl Tryz.ntmps93 Tryz.results93 fun _ => ?_)) | refine nzo ?_ | refine nc ?_ ?_ | (with_reducible intro _ <;> (try (exfalso; omega))) | refine vs_eqnil ?_ | refine vs_nenil ?_ | (refine nd ?_ ?_ <;> intro hg <;> (first | (exfalso; (try simp only [decide_eq_true_eq, decide_eq_false_iff_not] at hg); omega) | rw [hg])) | fail)
      refine vw_rng fun R2 T2 hOk2 => ?_
      refine vmb_of Tryz.func129 rfl Tryz.ntmps129 Tryz.results129 fun M3 => ?_
      repeat' (first | fail | fail | refine nzl ?_ | refine nzd ?_ | ((first | with_reducible refine vl_id ?_ | with_reducible refine vd_id ?_); first | fail) | refine nzo ?_ | refine nc ?_ ?_ | (with_reducible intro _ <;> (try (exfalso; omega))) | refine vs_eqnil ?_ | refine vs_nenil ?_ | (refine nd ?_ ?_ <;> intro hg <;> (first | (exfalso; (try simp only [decide_eq_true_eq, decide_eq_false_iff_not] at hg); omega) | rw [hg])) | fail)
      refine vw_nilC 6 0 35 4 rfl ?_
      refine vw_loop (fun i : Nat => ⟨[(4, I .i64 ((256 * i : Nat) : Int)), (0, .yl 13), (1, .ptr 11 0), (2, .ptr 12 0)],
        [.y 13 (some R2) T2 [(35, .yl 13), (5, .ptr 10 0), (4, .ptr 9 0), (3, .ptr 8 0), (2, .ptr 4 0), (1, .ptr 5 0)], .c 12 0 [.d (i64D 256)], .c 11 0 [.d (bsD b)], .c 10 0 [I .i64 (i : Int)], .c 9 0 [.d (i64D (manyN b))], .c 8 0 [.yl 7],
          .y 7 (some R1) T1 [(13, .yl 7), (2, .ptr 6 0)], .c 6 0 [.row 14 0], .c 5 0 [.d (bsD b)], .c 4 0 [.d (u64D s)], .c 3 0 [.d (i64D 0)], .c 2 0 [.d (.lit (.slice none 0 0))], .c 1 0 [.d (bsD b)], .c 0 0 [.d (u64D s)],
          .r true true 14 0 35 4 (((pcsOf s b).take i).map pcN)], 15⟩) (fun i => i ≤ manyN b) (fun i => manyN b - i) 0 (sub_zr [(14, _, _)]) (Nat.zero_le _) fun i hi => ?_
      have hD : cutL (some ((256 * i : Nat) : Int)) none (byD b) = byD (b.drop (256 * i)) := cutB _ b (256 * i)
      have hDl : (byD (b.drop (256 * i))).length = b.length - 256 * i := by rw [byD_len]; simp
      rcases Nat.lt_or_ge i (manyN b) with h | h
      · have hlt : 256 * i < b.length := by simp only [manyN] at h; omega
        have hX : cutL (some ((256 * i : Nat) : Int)) (some (((256 * i : Nat) : Int) + min 256 ((byD (b.drop (256 * i))).length : Int))) (byD b) = byD ((b.drop (256 * i)).take 256) := by
          rw [show ((256 * i : Nat) : Int) + min 256 ((byD (b.drop (256 * i))).length : Int) = ((256 * i + min 256 (b.length - 256 * i) : Nat) : Int) by rw [hDl]; omega]
          rw [cutA, List.drop_take, show 256 * i + min 256 (b.length - 256 * i) - 256 * i = min 256 (b.length - 256 * i) by omega]
          congr 1
          rw [List.take_eq_take_iff]; simp
        have hpc : (pcsOf s b)[i]? = some ⟨s, i, manyN b, (b.drop (256 * i)).take 256⟩ := by simp [pcsOf, pcAt, h]
        have htk : (pcsOf s b).take (i + 1) = (pcsOf s b).take i ++ [⟨s, i, manyN b, (b.drop (256 * i)).take 256⟩] := by rw [List.take_add_one, hpc]; rfl
        have hXl : ((b.drop (256 * i)).take 256).length ≤ 256 := by simp; omega
        have hXb := byD_len ((b.drop (256 * i)).take 256)
        have hpl : (((pcsOf s b).take i).map pcN).length ≤ 64 := by simp [pcsOf]; omega
        repeat' (first | rw [hD] | rw [hX] | fail | refine nzl ?_ | refine nzd ?_ | ((first | with_reducible refine vl_id ?_ | with_reducible refine vd_id ?_); first | fail) | refine nzo ?_ | refine nc ?_ ?_ | (with_reducible intro _ <;> (try (exfalso; omega))) | refine vs_eqnil ?_ | refine vs_nenil ?_ | (refine nd ?_ ?_ <;> intro hg <;> (first | (exfalso; (try simp only [decide_eq_true_eq, decide_eq_false_iff_not] at hg); omega) | rw [hg])) | fail)
        generalize (b.drop (256 * i)).take 256 = X at *
        refine vs_yield hOk2 fun _ _ => ?_
        repeat' (first | fail | fail | refine nzl ?_ | refine nzd ?_ | ((first | with_reducible refine vl_id ?_ | with_reducible refine vd_id ?_); first | fail) | ((fail_if_success (with_reducible refine vw_seq ?_)); refine nzo ?_) | refine nc ?_ ?_ | (with_reducible intro _ <;> (try (exfalso; omega))) | refine vs_eqnil ?_ | refine vs_nenil ?_ | (refine nd ?_ ?_ <;> intro hg <;> (first | (exfalso; (try simp only [decide_eq_true_eq, decide_eq_false_iff_not] at hg); omega) | rw [hg])) | fail)
        refine vw_seq ?_
        repeat' (first | fail | fail | refine nzl ?_ | refine nzd ?_ | ((first | with_reducible refine vl_id ?_ | with_reducible refine vd_id ?_); first | fail) | ((fail_if_success (with_reducible refine vw_seq ?_)); refine nzo ?_) | refine nc ?_ ?_ | (with_reducible intro _ <;> (try (exfalso; omega))) | refine vs_eqnil ?_ | refine vs_nenil ?_ | (refine nd ?_ ?_ <;> intro hg <;> (first | (exfalso; (try simp only [decide_eq_true_eq, decide_eq_false_iff_not] at hg); omega) | rw [hg])) | fail)
        refine vw_seq ?_
        repeat' (first | fail | fail | refine nzl ?_ | refine nzd ?_ | ((first | with_reducible refine vl_id ?_ | with_reducible refine vd_id ?_); first | fail) | ((fail_if_success (with_reducible refine vw_seq ?_)); refine nzo ?_) | refine nc ?_ ?_ | (with_reducible intro _ <;> (try (exfalso; omega))) | refine vs_eqnil ?_ | refine vs_nenil ?_ | (refine nd ?_ ?_ <;> intro hg <;> (first | (exfalso; (try simp only [decide_eq_true_eq, decide_eq_false_iff_not] at hg); omega) | rw [hg])) | fail)
        refine vw_frz 16 rfl ?_
        have hcX : cutL none (some ((byD X).length : Int)) (byD X) = byD X := by rw [cutL_eq]; simp; exact List.take_of_length_le (by simp)
        repeat' (first | rw [hcX] | fail | refine nzl ?_ | refine nzd ?_ | ((first | with_reducible refine vl_id ?_ | with_reducible refine vd_id ?_); first | refine vs_yield hOk1 fun _ _ => ?_) | refine nzo ?_ | refine nc ?_ ?_ | (with_reducible intro _ <;> (try (exfalso; omega))) | refine vs_eqnil ?_ | refine vs_nenil ?_ | (refine nd ?_ ?_ <;> intro hg <;> (first | (exfalso; (try simp only [decide_eq_true_eq, decide_eq_false_iff_not] at hg); omega) | rw [hg])) | fail)
        refine nx_loop (i + 1) (show i + 1 ≤ _ by omega) (show manyN b - (i + 1) < manyN b - i by omega) ?_
        rw [htk, show ((256 * (i + 1) : Nat) : Int) = ((256 * i : Nat) : Int) + 256 by omega, show ((i + 1 : Nat) : Int) = (i : Int) + 1 by omega]
        simp only [List.map_append, List.map_cons, List.map_nil]
        exact (sub_zr [(14, _, _)])
      · have hge : ¬ 256 * i < b.length := by simp only [manyN] at h; omega
        repeat' (first | fail | fail | refine nzl ?_ | refine nzd ?_ | ((first | with_reducible refine vl_id ?_ | with_reducible refine vd_id ?_); first | fail) | refine nzo ?_ | refine nc ?_ ?_ | (with_reducible intro _ <;> (try (exfalso; omega))) | refine vs_eqnil ?_ | refine vs_nenil ?_ | (refine nd ?_ ?_ <;> intro hg <;> (first | (exfalso; (try simp only [decide_eq_true_eq, decide_eq_false_iff_not] at hg); omega) | rw [hg])) | refine vdf_of Tryz.func89 rfl Tryz.ntmps89 Tryz.results89 ?_)
        rw [show (pcsOf s b).take i = pcsOf s b from List.take_of_length_le (by simp [pcsOf]; omega)]
        exact de_refl _
    · have hc : cutE s b = ([], 3) := by simp [cutE, h1, h2]
      rw [hc]
      refine vp_of Tryz.func9 rfl Tryz.ntmps9 rfl Tryz.results9 fun B => ?_
      repeat' (first | fail | fail | refine nzl ?_ | refine nzd ?_ | ((first | with_reducible refine vl_id ?_ | with_reducible refine vd_id ?_); first | refine cz (cn) ?_ | refine cz (cm) ?_ | (refine vq_l (need_ok 2) ?_; first | refine vs_call (need_ok 2) ?_ | refine vs_pan (need_no 2) ?_ | (refine vs_cifp (need_if _ 2) ?_ ?_ <;> intro _ <;> (try (exfalso; omega))) | (refine vs_cif (need_if _ 2) ?_ ?_ <;> intro _)) | (refine vq_l (need_ok 3) ?_; first | refine vs_call (need_ok 3) ?_ | refine vs_pan (need_no 3) ?_ | (refine vs_cifp (need_if _ 3) ?_ ?_ <;> intro _ <;> (try (exfalso; omega))) | (refine vs_cif (need_if _ 3) ?_ ?_ <;> intro _)) | refine vs_vc (hc := vc_of Tryz.func40 rfl Tryz.ntmps40 Tryz.results40 fun _ => ?_) | refine vs_vc (hc := vc_of Tryz.func41 rfl Tryz.ntmps41 Tryz.results41 fun _ => ?_) | refine vs_vc (hc := vc_tries (fd := 89) Tryz.func39 rfl Tryz.ntmps39 Tryz.results39 fun _ => ?_)) | refine nzo ?_ | refine nc ?_ ?_ | (with_reducible intro _ <;> (try (exfalso; omega))) | refine vs_eqnil ?_ | refine vs_nenil ?_ | (refine nd ?_ ?_ <;> intro hg <;> (first | (exfalso; (try simp only [decide_eq_true_eq, decide_eq_false_iff_not] at hg); omega) | rw [hg])) | refine vdf_of Tryz.func89 rfl Tryz.ntmps89 Tryz.results89 ?_)
      all_goals first | (exfalso; simp_all; omega) | (simp only [List.map_nil, leR]; infer_instance)
end Go.Proofs.YtkjpcjccddggoaaGreat

namespace Go.Proofs.YtkjpcjccddggoaaGreat
set_option maxRecDepth 100000
def wkS : Sn := ⟨⟨1, 1, [noTile]⟩, 3, 5, .zero⟩
theorem wk_64 : All64 wkS.c.L := by intro T hT; simp [wkS] at hT; subst hT; rfl
theorem wk_B : snB wkS = true := by decide +kernel
theorem wk_len : (snBy wkS).length = 83 := by decide +kernel
theorem wk_rd : snRd (snBy wkS) = some wkS := by decide +kernel
theorem wk_no : snRd ((snBy wkS).take 82) = none := by decide +kernel
def wkZ (n : Nat) : List UInt8 := List.replicate n 0
def wk0 : Pc := ⟨1, 0, 2, wkZ 256⟩
def wk1 : Pc := ⟨1, 1, 2, wkZ 44⟩
def wkP1 : Pi := ⟨1, 2, [[], wkZ 44]⟩
def wkP2 : Pi := ⟨1, 2, [wkZ 256, wkZ 44]⟩
def wk2 : Pc := ⟨2, 0, 3, wkZ 256⟩
def wkP3 : Pi := ⟨2, 3, [wkZ 256, [], []]⟩
theorem wk_cut : cutE 1 (wkZ 300) = ([wk0, wk1], 0) := by decide +kernel
theorem wk_puts : putsE .zero [wk1, wk1] = (wkP1, 1, 0) := by decide +kernel
theorem wk_n1 : nextE wkP1 = (0, true) := by decide +kernel
theorem wk_w1 : wholeE wkP1 = ([], false) := by decide +kernel
theorem wk_p2 : putE wkP1 wk0 = (wkP2, 0) := by decide +kernel
theorem wk_w2 : wholeE wkP2 = (wkZ 300, true) := by decide +kernel
theorem wk_p3 : putE wkP2 wk2 = (wkP3, 0) := by decide +kernel
theorem wk_n3 : nextE wkP3 = (1, true) := by decide +kernel
theorem wk_p4 : putE wkP3 wk0 = (.zero, 241) := by decide +kernel
end Go.Proofs.YtkjpcjccddggoaaGreat

namespace Go.Proofs.YtkjpcjccddggoaaGreat
open Go.RowKit
section
variable {P : Program} {cx : Cx}
theorem run_mkd {s : St} {g : G} {a : Act} {w : World} (hS : Sim cx g a w s) {t ty e : TypeId} {x y : Operand} {k1 k2 : IntKind} {n : Int} {ag : Bool} {sz by_ : Nat} {z : List Value} [hE : SlI P t e sz by_] [hT : TyI P e ag sz z] (hx : evalV s x = some (I k1 n)) (hy : evalV s y = some (I k2 n)) (h0 : 0 ≤ n) (hb : n * (by_ : Int) ≤ 140737488355328) (hp : 0 < by_) (hz : z.all (·.oneCell') = true) :
    ∃ u w', (execOp a.eval (bare (.makeSlice t x y) ty)).run P w = .ok (.value u) w' ∧ Below w.heap.size w w' ∧ drep cx.B g.prot w' (.sl false true (List.replicate n.toNat (z.map .lit))) u := by
  have hx' := hS.eval hx
  have hy' := hS.eval hy
  simp only [vrep, drep] at hx' hy'
  obtain ⟨i, zv, e1, e2, e3, e4⟩ := hT.size
  obtain ⟨i', z', q1, q2, q3, q4, q5⟩ := hE.elem.info
  rw [e1] at q1; cases q1
  rw [e3] at q2; cases q2
  have hnb : n.toNat * by_ ≤ 140737488355328 := by
    have : ((n.toNat * by_ : Nat) : Int) = n * by_ := by rw [Int.natCast_mul, Int.toNat_of_nonneg h0]
    omega
  have hn1 : n.toNat ≤ 140737488355328 := Nat.le_trans (Nat.le_mul_of_pos_right _ hp) hnb
  have hrun := run_make (P := P) w t e i zv hE.elem.und e1 e3 k1 k2 n n h0 (Int.le_refl _) (by
    rw [q4]
    have : ((n.toNat * by_ : Nat) : Int) = n * by_ := by rw [Int.natCast_mul, Int.toNat_of_nonneg h0]
    rw [Int.mul_comm]; omega) (by omega)
  rw [e2] at hrun
  have hzp : 0 < zv.cells.size := by rw [q5]; exact hE.elem.pos
  have hcells : (madeCells zv.cells (n.toNat * sz)).toList = (List.replicate n.toNat z).flatten := by
    rw [← q5, made_cells _ hzp, e4]
  have hzl : z.length = sz := by rw [← e4, ← q5]; simp
  have hfl : ((List.replicate n.toNat z).flatten).length = n.toNat * sz := by simp [hzl]
  have hbl : Below w.heap.size w (w.alloc (.cells (madeCells zv.cells (n.toNat * sz)) e)) := ⟨rfl, rfl, rfl, by simp, fun k hk => Below.heap_alloc w _ k hk⟩
  have hown : (w.alloc (.cells (madeCells zv.cells (n.toNat * sz)) e)).ownsRow 0 e sz (.slice (some ⟨w.heap.size, 0, none⟩) n.toNat n.toNat) (List.replicate n.toNat (z.map D.lit)).length (List.replicate n.toNat z).flatten := by
    rw [List.length_replicate]
    refine ⟨hfl, .inr ⟨w.heap.size, n.toNat, _, rfl, Nat.zero_le _, heap_alloc_new w _, Nat.le_refl _, by unfold maxLen; omega, size_madeCells _ _, ?_⟩⟩
    rw [hcells, List.take_of_length_le (by rw [hfl]; exact Nat.le_refl _)]
  have hd : dreps cx.B g.prot (w.alloc (.cells (madeCells zv.cells (n.toNat * sz)) e)) (z.map .lit) z := dreps_lit
  refine ⟨_, _, by simp [execOp, hx', hy', hrun], hbl, ownsRow_sl (drepss_replicate hd n.toNat) (fun x hx => by rw [List.eq_of_mem_replicate hx]; simp [hzl]) (fun u hu => by
      obtain ⟨l, hl, hu⟩ := List.mem_flatten.1 hu
      rw [List.eq_of_mem_replicate hl] at hu
      exact List.all_eq_true.1 hz u hu) hown (fun _ b hb' => ?_) fun b hb' => ?_⟩
  · simp [Value.ownBlock] at hb'; subst hb'; exact hS.inv.base
  · simp [Value.ownBlock] at hb'; subst hb'; exact prot_new hS.inv _ (.inr (Nat.le_refl _))
variable {Q : VE → St → Prop} {tm : List (Nat × V)} {st : List E} {nb : Nat}
/-- the row is that list -/
theorem vs_mkd {ops rest : List Oper} {d : Tmp} {t e ty : TypeId} {x y : Operand} {k1 k2 : IntKind} {n : Int} {ag : Bool} {sz by_ : Nat} {z : List Value} {pos : String} {af : Array Edge} {gd : Option (Nat × Bool)} (m : Int) (lm : List (List D)) [hE : SlI P t e sz by_] [hT : TyI P e ag sz z] (_ : m = n) (hlm : List.replicate n.toNat (z.map .lit) = lm) (k : VL P cx ops rest ⟨(d, .d (.sl false true lm)) :: tm, st, nb⟩ Q)
    (hx : evalV ⟨tm, st, nb⟩ x = some (I k1 n) := by rfl) (hy : evalV ⟨tm, st, nb⟩ y = some (I k2 n) := by rfl) (h0 : 0 ≤ n := by decide) (hb : n * (by_ : Int) ≤ 140737488355328 := by decide) (hp : 0 < by_ := by decide) (hz : z.all (·.oneCell') = true := by rfl)
    (hw : Wd ops tm gd := by first | exact trivial | exact wd_of rfl rfl (by with_reducible rfl)) (hd : Nat.blt d cx.N = true := by rfl) : VL P cx ops (⟨some d, .makeSlice t x y, ty, pos, af, gd⟩ :: rest) ⟨tm, st, nb⟩ Q :=
  vl_v (st' := st) (nb' := nb) (fun g a w hS => by
    obtain ⟨u, w', h1, h2, h3⟩ := run_mkd (P := P) (t := t) (ty := ty) (hE := hE) (hT := hT) hS hx hy h0 hb hp hz
    rw [hlm] at h3
    exact ⟨u, g, w', h1, Evo.of_below hS.inv h2, hS.st.below hS.inv h2, hS.inv.evo h2.size, by simp only [vrep]; exact h3⟩) hw hd rfl k
theorem OpN.mkd {tm : List (Nat × V)} {st : List E} {dst : Option Tmp} {t e ty : TypeId} {x y : Operand} {k1 k2 : IntKind} {n : Int} {ag : Bool} {sz by_ : Nat} {z : List Value} {pos : String} {af : Array Edge} {gd : Option (Nat × Bool)} {lm : List (List D)} [hE : SlI P t e sz by_] [hT : TyI P e ag sz z] (hlm : List.replicate n.toNat (z.map .lit) = lm) (hx : ∀ nb, evalV ⟨tm, st, nb⟩ x = some (I k1 n)) (hy : ∀ nb, evalV ⟨tm, st, nb⟩ y = some (I k2 n)) (h0 : 0 ≤ n) (hb : n * (by_ : Int) ≤ 140737488355328) (hp : 0 < by_) (hz : z.all (·.oneCell') = true) :
    OpN P cx ⟨dst, .makeSlice t x y, ty, pos, af, gd⟩ tm st none (.d (.sl false true lm)) [] := fun m nb g a w K Qx _ hS hK => by
  obtain ⟨u, w', h1, h2, h3⟩ := run_mkd (P := P) (t := t) (ty := ty) (hE := hE) (hT := hT) hS (hx nb) (hy nb) h0 hb hp hz
  rw [hlm] at h3
  refine ⟨fun _ _ => trivial, ?_⟩
  rw [Oper.semAt_plain (FW cx.rd) _ _ (by intro c e; cases e), execOp_bare, h1]
  exact hK u g w' ⟨Evo.of_below hS.inv h2, fun b hb' => h2.block b hb', fun _ _ => ⟨rfl, rfl, rfl⟩⟩ SimS.nil (hS.inv.evo h2.size) (by simp only [vrep]; exact h3)
theorem vd_mkd {l : List Oper} {tm0 : List (Nat × V)} {st0 stO : List E} {nb0 : Nat} {ds : List Nat} {hd tl : List Oper} {i : Nat} {acc : List Ac} {gd : Option (Nat × Bool)} {d : Tmp} {t e ty : TypeId} {x y : Operand} {k1 k2 : IntKind} {n : Int} {ag : Bool} {sz by_ : Nat} {z : List Value} {pos : String} {af : Array Edge} {vis : List E} {tmI : List (Nat × V)} (m : Int) (lm : List (List D)) [hE : SlI P t e sz by_] [hT : TyI P e ag sz z] (_ : m = n) (hlm : List.replicate n.toNat (z.map .lit) = lm)
    (k : VD P cx l tm0 st0 stO nb0 ds Q hd tl (i + 1) (⟨i, d, .d (.sl false true lm), [], vis, none, none, [], none⟩ :: acc) ((d, .d (.sl false true lm)) :: tm) st nb)
    (hsel : selT af.toList ds acc tm0 (gT l ⟨some d, .makeSlice t x y, ty, pos, af, gd⟩ ++ tmpsL (Op.makeSlice t x y).operands.toList) = some tmI := by rfl) (hvis : visF acc af.toList = some vis := by rfl) (hw : Wd l tmI gd := by first | exact trivial | exact wd_of rfl rfl (by with_reducible rfl))
    (hx : ∀ nb, evalV ⟨tmI, vis ++ st0, nb⟩ x = some (I k1 n) := by intro _; rfl) (hy : ∀ nb, evalV ⟨tmI, vis ++ st0, nb⟩ y = some (I k2 n) := by intro _; rfl) (h0 : 0 ≤ n := by decide) (hb : n * (by_ : Int) ≤ 140737488355328 := by decide) (hp : 0 < by_ := by decide) (hz : z.all (·.oneCell') = true := by rfl)
    (hd' : Nat.blt d cx.N = true := by rfl) (hds : memN d ds = true := by rfl) (hfa : findA d acc = none := by rfl) : VD P cx l tm0 st0 stO nb0 ds Q (⟨some d, .makeSlice t x y, ty, pos, af, gd⟩ :: hd) tl i acc tm st nb :=
  vd_step k (.inl ⟨rfl, Nat.le_of_ble_eq_true hd'⟩) hds hfa hsel hvis (OpI.of hw (OpN.mkd (P := P) (hE := hE) (hT := hT) hlm hx hy h0 hb hp hz)) (.inl ⟨rfl, rfl, rfl⟩) (.inl rfl) rfl (.inl rfl)
end
end Go.Proofs.YtkjpcjccddggoaaGreat

namespace Go.Proofs.YtkjpcjccddggoaaGreat
open Go.RowKit
theorem opwp_both {F : Fence} {n : Nat} {P : Program} {o : Oper} {a : Act} {w : World} {K K' : Act → World → Prop} {Q Q' : Exit → Act → World → Prop} (h : ∀ a w, K a w → K' a w) (hq : ∀ e a w, e ≠ .normal → Q e a w → Q' e a w)
    (hh : o.wpIn F n P a w K Q) : o.wpIn F n P a w K' Q' := by
  have hl : LetsOut Q → LetsOut Q' := fun ⟨a, w, hl⟩ => ⟨a, w, hq _ _ _ (by intro q; cases q) hl⟩
  unfold Oper.wpIn at *
  refine ⟨hh.1, ?_⟩
  have hh := hh.2
  generalize (o.semAt F.round a.eval).run P w = r at *
  cases r with
  | ok x w' =>
    cases x <;> simp only [Oper.uponIn] at hh ⊢ <;>
      first
        | exact h _ _ hh
        | exact ⟨hh.1, CallsIn.mono hh.2 (fun e w'' he => by cases e <;> first | exact h _ _ he | exact hq _ _ _ (by intro q; cases q) he | exact hl he)⟩
        | exact ⟨hh.1, RowsIn.mono hh.2 (fun _ _ he => h _ _ he)⟩
        | exact ⟨hh.1, RoundIn.mono hh.2 (fun e w'' he => by cases e <;> first | exact h _ _ he | exact hq _ _ _ (by intro q; cases q) he | exact hl he)⟩
  | halt x w' => cases x <;> simp only [Oper.uponIn] at hh ⊢ <;> first | exact hh | exact hq _ _ _ (by intro q; cases q) hh
/-- what is left of a region whose order is drawn -/
def VA (P : Program) (cx : Cx) (l : List Oper) (k : Nat) (listed : Array Bool) (s : St) (Q : VE → St → Prop) : Prop :=
  ∀ n g0 w0 g a w, Ext cx.sp cx.m g0 w0 g w → Sim cx g a w s → wpAnyIn (FW cx.rd) n P .any l.toArray (vpost cx g0 w0 Q) k listed a w
def anyV (P : Program) (cx : Cx) (l : List Oper) (k : Nat) (listed : Array Bool) (Q : VE → St → Prop) : VE → St → Prop
  | .normal, s => VA P cx l k listed s Q
  | e, s => Q e s
section
variable {P : Program} {cx : Cx} {s : St} {Q : VE → St → Prop} {l : List Oper}
theorem vw_any {id : Nat} (hm : P.follows .mixedOrders = true) (h : VA P cx l l.length (Array.replicate l.length false) s Q) : VW P cx (.region id l.toArray true) s Q := fun n g0 w0 g a w hE hS => by
  have hN : NewO cx.B g w g w.drew none := ⟨⟨rfl, rfl, rfl, Nat.le_refl _, fun h => h, fun h => h, fun _ _ h => ⟨h, rfl⟩, fun _ h => h, fun _ _ => rfl, .refl⟩, fun _ _ => rfl, fun _ _ => ⟨rfl, rfl, rfl⟩⟩
  refine wpIn_region_any hm ?_
  have := h n g0 w0 g a w.drew (hE.trans hN.evo) ⟨hS.size, fun ht => hN.evo.vrep (hS.tm ht), hS.st.newO hN hS.inv (fun _ h => by cases h), hS.inv.evo (w' := w.drew) (Nat.le_refl _), hS.defers.evo hN.evo⟩
  simpa using this
theorem va_sub {k : Nat} {listed : Array Bool} {s' : St} (h : Sub cx s s') (k' : VA P cx l k listed s' Q) : VA P cx l k listed s Q := fun n g0 w0 g a w hE hS =>
  let ⟨g', h1, h2⟩ := h g0 w0 g a w hE hS; k' n g0 w0 g' a w h1 h2
theorem va_cast {k : Nat} {listed : Array Bool} (listed' : Array Bool) (hl : listed' = listed) (h : VA P cx l k listed' s Q) : VA P cx l k listed s Q := hl ▸ h
/-- the rest stands in the text's own order -/
theorem va_seq (m : Nat) {k : Nat} {listed : Array Bool} {rest : List Oper} (hr : l.drop m = rest) (hk : rest.length = k) (hB : Region.seqB .any l.toArray k m listed = true) (h : VL P cx l rest s Q) : VA P cx l k listed s Q := fun n g0 w0 g a w hE hS => by
  subst hk
  exact wpAnyIn_of_seq rest m listed a w (fun j => by rw [← hr]; simp) hB (h n g0 w0 g a w hE hS)
/-- one of those that may come now -/
theorem va_step {k : Nat} {listed : Array Bool} {is : List Nat} (hr : Region.ready .any l.toArray listed = is) (hne : is ≠ []) (h : ∀ i ∈ is, ∃ o, l[i]? = some o ∧ VL P cx l [o] s (anyV P cx l k (listed.setIfInBounds i true) Q)) : VA P cx l (k + 1) listed s Q := fun n g0 w0 g a w hE hS => by
  refine ⟨fun e => (hne (hr.symm.trans e)).elim, fun i hi => ?_⟩
  rw [hr] at hi
  obtain ⟨o, ho, hv⟩ := h i hi
  have hv := hv n g0 w0 g a w hE hS
  have key : ∀ a' w', vpost cx g0 w0 (anyV P cx l k (listed.setIfInBounds i true) Q) .normal a' w' → wpAnyIn (FW cx.rd) n P .any l.toArray (vpost cx g0 w0 Q) k (listed.setIfInBounds i true) a' w' := fun a' w' hp => by
    obtain ⟨g', s', e', h1, h2, h3, h4⟩ := hp
    cases e' <;> simp only [erel] at h3 <;> first | exact h4 n g0 w0 g' a' w' h1 h2 | (simp at h3)
  have keyq : ∀ e a' w', e ≠ .normal → vpost cx g0 w0 (anyV P cx l k (listed.setIfInBounds i true) Q) e a' w' → vpost cx g0 w0 Q e a' w' := fun e a' w' hne hp => by
    obtain ⟨g', s', e', h1, h2, h3, h4⟩ := hp
    refine ⟨g', s', e', h1, h2, h3, ?_⟩
    cases e' <;> first | exact h4 | (simp only [erel] at h3; exact (hne h3).elim)
  unfold wpOpIn
  rw [List.getElem?_toArray, ho]
  simp only [wplIn] at hv ⊢
  split
  · rename_i hw
    rw [if_pos hw] at hv
    exact opwp_both key keyq hv
  · rename_i hw
    rw [if_neg hw] at hv
    exact ⟨hv.1, key _ _ hv.2⟩
theorem anyV_n {k : Nat} {listed : Array Bool} (h : VA P cx l k listed s Q) : anyV P cx l k listed Q .normal s := h
/-- what is left from a place on, from where many orders meet -/
theorem va_use {k : Nat} {listed : Array Bool} (s1 : St) (listed1 : Array Bool) (k1 : Nat) (h1 : VA P cx l k1 listed1 s1 Q) (h : VA P cx l k1 listed1 s1 Q → VA P cx l k listed s Q) : VA P cx l k listed s Q := h h1
theorem va_one {k : Nat} {listed : Array Bool} (i : Nat) (hr : Region.ready .any l.toArray listed = [i]) {o : Oper} (ho : l[i]? = some o) (h : VL P cx l [o] s (anyV P cx l k (listed.setIfInBounds i true) Q)) : VA P cx l (k + 1) listed s Q := va_step hr (by simp) fun j hj => by
  rw [List.mem_singleton] at hj
  subst hj
  exact ⟨o, ho, h⟩
theorem va_two {k : Nat} {listed : Array Bool} (i j : Nat) (hr : Region.ready .any l.toArray listed = [i, j]) {o o' : Oper} (ho : l[i]? = some o) (ho' : l[j]? = some o') (h : VL P cx l [o] s (anyV P cx l k (listed.setIfInBounds i true) Q)) (h' : VL P cx l [o'] s (anyV P cx l k (listed.setIfInBounds j true) Q)) : VA P cx l (k + 1) listed s Q := va_step hr (by simp) fun x hx => by
  simp only [List.mem_cons, List.not_mem_nil, or_false] at hx
  rcases hx with rfl | rfl
  · exact ⟨o, ho, h⟩
  · exact ⟨o', ho', h'⟩
end
end Go.Proofs.YtkjpcjccddggoaaGreat
