/- Walks by data and names, part 21: Layer 22, by V: DiskFalls. -/
import Derived.Test.YtjfaihpiohccbaaPk20
namespace Go.Proofs.Ytjfaihpiohccbaa
open Go.RowKit
set_option maxRecDepth 10000
set_option maxHeartbeats 4000000
theorem Dk.beq_self (d : Dk) : d.beq d = true := by simp [Dk.beq]
theorem own_len (x : Dk) : x.own.len 4194304 := by simp only [Dk.len, Dk.own, List.length_take]; omega
theorem arm_no {d : Dk} {n : Int} (h : checkB d = false) : d.arm n = (.zero, 320) := by simp [Dk.arm, h]
theorem arm_arg {d : Dk} {n : Int} (h : checkB d = true) (h2 : ¬ (0 ≤ n ∧ n ≤ 4096)) : d.arm n = (.zero, 2) := by simp only [Dk.arm, h, Bool.true_eq_false, if_false]; rw [if_pos]; simpa using h2
theorem arm_down {d : Dk} {n : Int} (h : checkB d = true) (h2 : 0 ≤ n ∧ n ≤ 4096) (h3 : d.down = true) : d.arm n = (.zero, 321) := by simp [Dk.arm, h, h2, h3]
theorem arm_up {d : Dk} {n : Int} (h : checkB d = true) (h2 : 0 ≤ n ∧ n ≤ 4096) (h3 : d.down = false) : d.arm n = ({ d with fuse := n }, 0) := by simp [Dk.arm, h, h2, h3]
theorem fall_no {d : Dk} {a b : Int} (h : checkB d = false) : d.fall a b = (.zero, 320) := by simp [Dk.fall, h]
abbrev twD (p : Int × Int) : List D := [.lit (.int .i64 p.1), .lit (.int .i64 p.2)]
abbrev fsT (l : List (Int × Int)) (c : Bool) (i : Int) : List (Nat × V) := [(29, .d (.lit (.int .i64 i))), (28, .d (.lit (.int .i64 (l.map twD).length))), (27, .d (.sl false false (l.map twD))), (6, .d (.lit (.bool c))), (5, .ptr 1 0), (2, .ptr 0 0)]
abbrev fsL (x d : Dk) : List E := [.c 1 0 ((dkN d).map .d), .c 0 0 ((dkD x).map .d)]
abbrev fsM (x d A F : Dk) (p : Int × Int) : List E := [.c 6 0 ((dkD F).map .d), .c 5 0 ((dkD A).map .d), .c 4 0 (poVs true (dkN F)), .c 3 0 (poVs true (dkN A)), .c 2 0 ((twD p).map .d), .c 1 0 ((dkN d).map .d), .c 0 0 ((dkD x).map .d)]
def lopC : Code → Code
  | .loop c => c
  | c => c
def blkC : Code → Code
  | .block _ c => c
  | c => c
theorem falls_end (B : Nat) (x d : Dk) (hd : x.own = d) : VW Try.prog ⟨135, none, B, 0, some B, []⟩ (sndC 5 (bodyC Try.f3)) ⟨[(6, .d (.lit (.bool (checkB d)))), (5, .ptr 1 0), (2, .ptr 0 0)], fsL x d, 2⟩ (retQ Try.prog [.tmp 4] (· = .ret (.lit (.bool true)))) := by
  have hwb := own_wb x
  have co := lown_v x
  rw [hd] at hwb co
  have cu := rise_v d hwb
  have cs := rsame_v d d
  have cze := rsame_v .zero .zero
  have cw := rsame_v { d with waits := [], down := false } { d with waits := [], down := false }
  rw [Dk.beq_self] at cs cze cw
  simp only [dkD, Dk.zero, dkN, List.map_nil, show byD ([] : List UInt8) = [] from rfl] at co cs cze cw
  cases hc : checkB d with
  | false =>
    rw [show d.rise = (.zero, 320) by simp [Dk.rise, hc]] at cu
    simp only [dkD, dkE, dkN, Dk.zero, List.map_nil, show byD ([] : List UInt8) = [] from rfl] at cu
    refine vw_seq ?_
    repeat' (first | fail | fail | refine nzl ?_ | refine nzd ?_ | ((first | with_reducible refine vl_id ?_ | with_reducible refine vd_id ?_); first | refine cz (co) ?_ | refine cz (cu) ?_ | refine cz (cze) ?_ | refine cz (cs) ?_) | refine nzo ?_ | refine nc ?_ ?_ | (with_reducible intro _ <;> (try (exfalso; omega))) | refine vs_eqnil ?_ | refine vs_nenil ?_ | (refine nd ?_ ?_ <;> intro hg <;> (first | (exfalso; (try simp only [decide_eq_true_eq, decide_eq_false_iff_not] at hg); omega) | rw [hg])) | fail)
    all_goals first | with_reducible rfl | (exfalso; omega) | (simp at hg; fail_if_success (focus skip)) | trace_state
  | true =>
    cases hdn : d.down with
    | true =>
      rw [show d.rise = ({ d with waits := [], down := false }, 0) by simp [Dk.rise, hc, hdn]] at cu
      simp only [dkD, dkE, dkN, fsL, hdn, List.map_nil] at cu cs co ⊢
      refine vw_seq ?_
      repeat' (first | fail | fail | refine nzl ?_ | refine nzd ?_ | ((first | with_reducible refine vl_id ?_ | with_reducible refine vd_id ?_); first | refine cz (co) ?_ | refine cz (cu) ?_ | refine cz (cw) ?_ | refine cz (cs) ?_) | refine nzo ?_ | refine nc ?_ ?_ | (with_reducible intro _ <;> (try (exfalso; omega))) | refine vs_eqnil ?_ | refine vs_nenil ?_ | (refine nd ?_ ?_ <;> intro hg <;> (first | (exfalso; (try simp only [decide_eq_true_eq, decide_eq_false_iff_not] at hg); omega) | rw [hg])) | fail)
      all_goals first | with_reducible rfl | (exfalso; omega) | (simp at hg; fail_if_success (focus skip)) | trace_state
    | false =>
      rw [show d.rise = (.zero, 4) by simp [Dk.rise, hc, hdn]] at cu
      simp only [dkD, dkE, dkN, fsL, Dk.zero, hdn, List.map_nil, show byD ([] : List UInt8) = [] from rfl] at cu cs co ⊢
      refine vw_seq ?_
      repeat' (first | fail | fail | refine nzl ?_ | refine nzd ?_ | ((first | with_reducible refine vl_id ?_ | with_reducible refine vd_id ?_); first | refine cz (co) ?_ | refine cz (cu) ?_ | refine cz (cze) ?_ | refine cz (cs) ?_) | refine nzo ?_ | refine nc ?_ ?_ | (with_reducible intro _ <;> (try (exfalso; omega))) | refine vs_eqnil ?_ | refine vs_nenil ?_ | (refine nd ?_ ?_ <;> intro hg <;> (first | (exfalso; (try simp only [decide_eq_true_eq, decide_eq_false_iff_not] at hg); omega) | rw [hg])) | fail)
      all_goals first | with_reducible rfl | (exfalso; omega) | (simp at hg; fail_if_success (focus skip)) | trace_state
noncomputable abbrev blkX : Code := blkC (fstC (sndC 2 (lopC (blkC (sndC 1 (fstC (sndC 4 (bodyC Try.f3))))))))
theorem falls_tail (B : Nat) (x d A F : Dk) (eA eF : Int) (p : Int × Int) (l : List (Int × Int)) (c : Bool) (i : Int) (Q : VE → St → Prop) (h : ∀ s, Sub ⟨135, none, B, 0, some B, []⟩ s ⟨fsT l c i, fsL x d, 2⟩ → Q .normal s) :
    VW Try.prog ⟨135, none, B, 0, some B, []⟩ (sndC 7 blkX) ⟨(16, .d (.lit (.int .i64 eF))) :: (15, .d (.lit (.int .i64 eA))) :: (14, .ptr 6 0) :: (13, .ptr 5 0) :: (12, .d (.lit (.int .i64 eF))) :: (11, .ptr 4 0) :: (10, .d (.lit (.int .i64 eA))) :: (9, .ptr 3 0) :: fsT l c i, fsM x d A F p, 7⟩ Q := by
  have cA := rsame_v A A
  have cF := rsame_v F F
  rw [Dk.beq_self] at cA cF
  have sA := spoil_s A
  have sF := spoil_s F
  simp only [dkD, dkN] at *
  refine vw_seq ?_
  repeat' (first | fail | fail | refine nzl ?_ | refine nzd ?_ | ((first | with_reducible refine vl_id ?_ | with_reducible refine vd_id ?_); first | refine cz (cA) ?_ | refine cz (cF) ?_ | (refine vs_spoil sA ?_; simp only [blurT, blurS, blurV, blurVs, List.map_cons, List.map_nil]) | (refine vs_spoil sF ?_; simp only [blurT, blurS, blurV, blurVs])) | refine nzo ?_ | refine nc ?_ ?_ | (with_reducible intro _ <;> (try (exfalso; omega))) | refine vs_eqnil ?_ | refine vs_nenil ?_ | (refine nd ?_ ?_ <;> intro hg <;> (first | (exfalso; (try simp only [decide_eq_true_eq, decide_eq_false_iff_not] at hg); omega) | rw [hg])) | fail)
  exact h _ (sub_z)
theorem falls_loop (B : Nat) (w d : Dk) (hd : w.own = d) (l : List (Int × Int)) (Q : VE → St → Prop) :
    VW Try.prog ⟨135, none, B, 0, some B, []⟩ (blkC (sndC 1 (fstC (sndC 4 (bodyC Try.f3))))) ⟨fsT l (checkB d) 0, fsL w d, 2⟩ (blockV 0 (cutV ⟨135, none, B, 0, some B, []⟩ (fun _ : Unit => ⟨[(6, .d (.lit (.bool (checkB d)))), (5, .ptr 1 0), (2, .ptr 0 0)], fsL w d, 2⟩) (fun _ => True) Q)) := by
  have hwb := own_wb w
  have co := lown_v w
  rw [hd] at hwb co
  refine vw_each 27 l twD (fun (i : Nat) (_ : Unit) => ⟨fsT l (checkB d) i, fsL w d, 2⟩) (fun _ _ => True) () (sub_z) trivial (fun i y x hT hi hx hx' hlt hlm hlen hdr => ?_) (fun y hT hlt hlm => ?_)
  · have ca := arm_v d x.1 hwb
    have cf := fall_v d x.1 x.2 hwb
    obtain ⟨⟨A, eA⟩, hA⟩ : ∃ z, d.arm x.1 = z := ⟨_, rfl⟩
    obtain ⟨⟨F, eF⟩, hF⟩ : ∃ z, d.fall x.1 x.2 = z := ⟨_, rfl⟩
    rw [hA] at ca
    rw [hF] at cf
    have htl := fun Q => falls_tail B w d A F eA eF x l (checkB d) i Q
    simp only [twD] at hx'
    simp only [dkD, dkN, dkE] at ca cf co
    by_cases h6 : i = 6
    · subst h6
      repeat' (first | fail | fail | refine nzl ?_ | refine nzd ?_ | ((first | with_reducible refine vl_id ?_ | with_reducible refine vd_id ?_); first | fail) | refine nzo ?_ | refine nc ?_ ?_ | (with_reducible intro _ <;> (try (exfalso; omega))) | refine vs_eqnil ?_ | refine vs_nenil ?_ | (refine nd ?_ ?_ <;> intro hg <;> (first | (exfalso; (try simp only [decide_eq_true_eq, decide_eq_false_iff_not] at hg); omega) | rw [hg])) | fail)
      exact nx_cut () trivial (sub_z)
    have h6' : ¬ (i : Int) = 6 := by omega
    have hpl : ∀ (u : Dk) (e : Int), poV true (.tup [.agg (dkN u), .lit (.int .i64 e)]) = .tup [.agg (poVs true (dkN u)), .d (.lit (.int .i64 e))] := fun _ _ => rfl
    simp only [dkN] at hpl
    refine vw_seq ?_
    repeat' (first | fail | fail | refine nzl ?_ | refine nzd ?_ | ((first | with_reducible refine vl_id ?_ | with_reducible refine vd_id ?_); first | fail) | ((fail_if_success (with_reducible refine vw_seq ?_)); refine nzo ?_) | refine nc ?_ ?_ | (with_reducible intro _ <;> (try (exfalso; omega))) | refine vs_eqnil ?_ | refine vs_nenil ?_ | (refine nd ?_ ?_ <;> intro hg <;> (first | (exfalso; (try simp only [decide_eq_true_eq, decide_eq_false_iff_not] at hg); omega) | rw [hg])) | fail)
    refine vw_seq ?_
    repeat' (first | fail | fail | refine nzl ?_ | refine nzd ?_ | ((first | with_reducible refine vl_id ?_ | with_reducible refine vd_id ?_); first | fail) | ((fail_if_success (with_reducible refine vw_seq ?_)); refine nzo ?_) | refine nc ?_ ?_ | (with_reducible intro _ <;> (try (exfalso; omega))) | refine vs_eqnil ?_ | refine vs_nenil ?_ | (refine nd ?_ ?_ <;> intro hg <;> (first | (exfalso; (try simp only [decide_eq_true_eq, decide_eq_false_iff_not] at hg); omega) | rw [hg])) | fail)
    refine vw_seq ?_
    repeat' (first | fail | fail | refine nzl ?_ | refine nzd ?_ | ((first | with_reducible refine vl_id ?_ | with_reducible refine vd_id ?_); first | fail) | ((fail_if_success (with_reducible refine vw_seq ?_)); refine nzo ?_) | refine nc ?_ ?_ | (with_reducible intro _ <;> (try (exfalso; omega))) | refine vs_eqnil ?_ | refine vs_nenil ?_ | (refine nd ?_ ?_ <;> intro hg <;> (first | (exfalso; (try simp only [decide_eq_true_eq, decide_eq_false_iff_not] at hg); omega) | rw [hg])) | fail)
    refine vw_seq ?_
    repeat' (first | fail | fail | refine nzl ?_ | refine nzd ?_ | ((first | with_reducible refine vl_id ?_ | with_reducible refine vd_id ?_); first | fail) | ((fail_if_success (with_reducible refine vw_seq ?_)); refine nzo ?_) | refine nc ?_ ?_ | (with_reducible intro _ <;> (try (exfalso; omega))) | refine vs_eqnil ?_ | refine vs_nenil ?_ | (refine nd ?_ ?_ <;> intro hg <;> (first | (exfalso; (try simp only [decide_eq_true_eq, decide_eq_false_iff_not] at hg); omega) | rw [hg])) | fail)
    refine vw_seq ?_
    repeat' (first | fail | fail | refine nzl ?_ | refine nzd ?_ | ((first | with_reducible refine vl_id ?_ | with_reducible refine vd_id ?_); first | fail) | ((fail_if_success (with_reducible refine vw_seq ?_)); refine nzo ?_) | refine nc ?_ ?_ | (with_reducible intro _ <;> (try (exfalso; omega))) | refine vs_eqnil ?_ | refine vs_nenil ?_ | (refine nd ?_ ?_ <;> intro hg <;> (first | (exfalso; (try simp only [decide_eq_true_eq, decide_eq_false_iff_not] at hg); omega) | rw [hg])) | fail)
    refine vw_seq ?_
    repeat' (first | fail | fail | refine nzl ?_ | refine nzd ?_ | ((first | with_reducible refine vl_id ?_ | with_reducible refine vd_id ?_); first | fail) | ((fail_if_success (with_reducible refine vw_seq ?_)); refine nzo ?_) | refine nc ?_ ?_ | (with_reducible intro _ <;> (try (exfalso; omega))) | refine vs_eqnil ?_ | refine vs_nenil ?_ | (refine nd ?_ ?_ <;> intro hg <;> (first | (exfalso; (try simp only [decide_eq_true_eq, decide_eq_false_iff_not] at hg); omega) | rw [hg])) | fail)
    refine vw_seq ?_
    repeat' (first | fail | fail | refine nzl ?_ | refine nzd ?_ | ((first | with_reducible refine vl_id ?_ | with_reducible refine vd_id ?_); first | (refine vs_pool ca ?_; rw [hpl])) | ((fail_if_success (with_reducible refine vw_seq ?_)); refine nzo ?_) | refine nc ?_ ?_ | (with_reducible intro _ <;> (try (exfalso; omega))) | refine vs_eqnil ?_ | refine vs_nenil ?_ | (refine nd ?_ ?_ <;> intro hg <;> (first | (exfalso; (try simp only [decide_eq_true_eq, decide_eq_false_iff_not] at hg); omega) | rw [hg])) | fail)
    refine vw_seq ?_
    repeat' (first | fail | fail | refine nzl ?_ | refine nzd ?_ | ((first | with_reducible refine vl_id ?_ | with_reducible refine vd_id ?_); first | (refine vs_pool cf ?_; rw [hpl])) | ((fail_if_success (with_reducible refine vw_seq ?_)); refine nzo ?_) | refine nc ?_ ?_ | (with_reducible intro _ <;> (try (exfalso; omega))) | refine vs_eqnil ?_ | refine vs_nenil ?_ | (refine nd ?_ ?_ <;> intro hg <;> (first | (exfalso; (try simp only [decide_eq_true_eq, decide_eq_false_iff_not] at hg); omega) | rw [hg])) | fail)
    refine vw_seq ?_
    repeat' (first | fail | fail | refine nzl ?_ | refine nzd ?_ | ((first | with_reducible refine vl_id ?_ | with_reducible refine vd_id ?_); first | fail) | ((fail_if_success (with_reducible refine vw_seq ?_)); refine nzo ?_) | refine nc ?_ ?_ | (with_reducible intro _ <;> (try (exfalso; omega))) | refine vs_eqnil ?_ | refine vs_nenil ?_ | (refine nd ?_ ?_ <;> intro hg <;> (first | (exfalso; (try simp only [decide_eq_true_eq, decide_eq_false_iff_not] at hg); omega) | rw [hg])) | fail)
    refine vw_seq ?_
    repeat' (first | fail | fail | refine nzl ?_ | refine nzd ?_ | ((first | with_reducible refine vl_id ?_ | with_reducible refine vd_id ?_); first | fail) | ((fail_if_success (with_reducible refine vw_seq ?_)); refine nzo ?_) | refine nc ?_ ?_ | (with_reducible intro _ <;> (try (exfalso; omega))) | refine vs_eqnil ?_ | refine vs_nenil ?_ | (refine nd ?_ ?_ <;> intro hg <;> (first | (exfalso; (try simp only [decide_eq_true_eq, decide_eq_false_iff_not] at hg); omega) | rw [hg])) | fail)
    refine vw_cut (fun _ : Unit => ⟨(16, .d (.lit (.int .i64 eF))) :: (15, .d (.lit (.int .i64 eA))) :: (14, .ptr 6 0) :: (13, .ptr 5 0) :: (12, .d (.lit (.int .i64 eF))) :: (11, .ptr 4 0) :: (10, .d (.lit (.int .i64 eA))) :: (9, .ptr 3 0) :: fsT l (checkB d) i, fsM w d A F x, 7⟩) (fun _ => True) ?_ fun _ _ => htl _ fun s hs => ?_
    · clear htl hwb hpl hx hi hlt hlm hlen hdr hT h6 h6'
      cases hc : checkB d with
      | false =>
        rw [arm_no hc] at hA
        rw [fall_no hc] at hF
        cases hA; cases hF
        clear ca cf co hx'
        repeat' (first | fail | fail | refine nzl ?_ | refine nzd ?_ | ((first | with_reducible refine vl_id ?_ | with_reducible refine vd_id ?_); first | fail) | refine nzo ?_ | refine nc ?_ ?_ | (with_reducible intro _ <;> (try (exfalso; omega))) | refine vs_eqnil ?_ | refine vs_nenil ?_ | (refine nd ?_ ?_ <;> intro hg <;> (first | (exfalso; (try simp only [decide_eq_true_eq, decide_eq_false_iff_not] at hg); omega) | rw [hg])) | fail)
        refine nx_cut () trivial ?_
        simp only [fsM, dkD, dkN, Dk.zero, List.map_nil, show byD ([] : List UInt8) = [] from rfl]
        exact (sub_z)
      | true =>
        by_cases h2 : 0 ≤ x.1 ∧ 0 ≤ x.2
        · have crf := rfall_v d x.1 x.2 hc h2.1 h2.2
          rw [fall_eq d hc, if_pos h2] at hF
          generalize d.doAll (keptL x.1 x.2 0 d.waits) = z at *
          cases hF
          simp only [dkD] at crf
          by_cases h1 : 0 ≤ x.1 ∧ x.1 ≤ 4096
          · cases hdn : d.down with
            | true =>
              rw [arm_down hc h1 hdn] at hA
              cases hA
              clear ca cf hx'
              repeat' (first | fail | fail | refine nzl ?_ | refine nzd ?_ | ((first | with_reducible refine vl_id ?_ | with_reducible refine vd_id ?_); first | refine cz (co) ?_ | refine cz (crf) ?_) | refine nzo ?_ | refine nc ?_ ?_ | (with_reducible intro _ <;> (try (exfalso; omega))) | refine vs_eqnil ?_ | refine vs_nenil ?_ | (refine nd ?_ ?_ <;> intro hg <;> (first | (exfalso; (try simp only [decide_eq_true_eq, decide_eq_false_iff_not] at hg); omega) | rw [hg])) | fail)
              all_goals first | (exfalso; omega) | (exfalso; simp_all; fail_if_success (focus skip)) | (refine nx_cut () trivial ?_; simp only [fsM, dkD, dkN, Dk.clear, List.map_nil, Dk.zero, show byD ([] : List UInt8) = [] from rfl]; exact (sub_z)) | trace_state
            | false =>
              rw [arm_up hc h1 hdn] at hA
              cases hA
              clear ca cf hx'
              repeat' (first | fail | fail | refine nzl ?_ | refine nzd ?_ | ((first | with_reducible refine vl_id ?_ | with_reducible refine vd_id ?_); first | refine cz (co) ?_ | refine cz (crf) ?_) | refine nzo ?_ | refine nc ?_ ?_ | (with_reducible intro _ <;> (try (exfalso; omega))) | refine vs_eqnil ?_ | refine vs_nenil ?_ | (refine nd ?_ ?_ <;> intro hg <;> (first | (exfalso; (try simp only [decide_eq_true_eq, decide_eq_false_iff_not] at hg); omega) | rw [hg])) | fail)
              all_goals first | (exfalso; omega) | (exfalso; simp_all; fail_if_success (focus skip)) | (refine nx_cut () trivial ?_; simp only [fsM, dkD, dkN, Dk.clear, List.map_nil]; exact (sub_z)) | trace_state
          · rw [arm_arg hc h1] at hA
            cases hA
            clear ca cf hx'
            repeat' (first | fail | fail | refine nzl ?_ | refine nzd ?_ | ((first | with_reducible refine vl_id ?_ | with_reducible refine vd_id ?_); first | refine cz (co) ?_ | refine cz (crf) ?_) | refine nzo ?_ | refine nc ?_ ?_ | (with_reducible intro _ <;> (try (exfalso; omega))) | refine vs_eqnil ?_ | refine vs_nenil ?_ | (refine nd ?_ ?_ <;> intro hg <;> (first | (exfalso; (try simp only [decide_eq_true_eq, decide_eq_false_iff_not] at hg); omega) | rw [hg])) | fail)
            all_goals first | (exfalso; omega) | (exfalso; simp_all; fail_if_success (focus skip)) | (refine nx_cut () trivial ?_; simp only [fsM, dkD, dkN, Dk.clear, List.map_nil, Dk.zero, show byD ([] : List UInt8) = [] from rfl]; exact (sub_z)) | trace_state
        · rw [fall_eq d hc, if_neg h2] at hF
          cases hF
          by_cases h1 : 0 ≤ x.1 ∧ x.1 ≤ 4096
          · cases hdn : d.down with
            | true =>
              rw [arm_down hc h1 hdn] at hA
              cases hA
              clear ca cf hx'
              repeat' (first | fail | fail | refine nzl ?_ | refine nzd ?_ | ((first | with_reducible refine vl_id ?_ | with_reducible refine vd_id ?_); first | refine cz (co) ?_) | refine nzo ?_ | refine nc ?_ ?_ | (with_reducible intro _ <;> (try (exfalso; omega))) | refine vs_eqnil ?_ | refine vs_nenil ?_ | (refine nd ?_ ?_ <;> intro hg <;> (first | (exfalso; (try simp only [decide_eq_true_eq, decide_eq_false_iff_not] at hg); omega) | rw [hg])) | fail)
              all_goals first | (exfalso; omega) | (exfalso; simp_all; fail_if_success (focus skip)) | (refine nx_cut () trivial ?_; simp only [fsM, dkD, dkN, Dk.zero, List.map_nil, show byD ([] : List UInt8) = [] from rfl]; exact (sub_z)) | trace_state
            | false =>
              rw [arm_up hc h1 hdn] at hA
              cases hA
              clear ca cf hx'
              repeat' (first | fail | fail | refine nzl ?_ | refine nzd ?_ | ((first | with_reducible refine vl_id ?_ | with_reducible refine vd_id ?_); first | refine cz (co) ?_) | refine nzo ?_ | refine nc ?_ ?_ | (with_reducible intro _ <;> (try (exfalso; omega))) | refine vs_eqnil ?_ | refine vs_nenil ?_ | (refine nd ?_ ?_ <;> intro hg <;> (first | (exfalso; (try simp only [decide_eq_true_eq, decide_eq_false_iff_not] at hg); omega) | rw [hg])) | fail)
              all_goals first | (exfalso; omega) | (exfalso; simp_all; fail_if_success (focus skip)) | (refine nx_cut () trivial ?_; simp only [fsM, dkD, dkN, Dk.zero, List.map_nil, show byD ([] : List UInt8) = [] from rfl]; exact (sub_z)) | trace_state
          · rw [arm_arg hc h1] at hA
            cases hA
            clear ca cf hx'
            repeat' (first | fail | fail | refine nzl ?_ | refine nzd ?_ | ((first | with_reducible refine vl_id ?_ | with_reducible refine vd_id ?_); first | refine cz (co) ?_) | refine nzo ?_ | refine nc ?_ ?_ | (with_reducible intro _ <;> (try (exfalso; omega))) | refine vs_eqnil ?_ | refine vs_nenil ?_ | (refine nd ?_ ?_ <;> intro hg <;> (first | (exfalso; (try simp only [decide_eq_true_eq, decide_eq_false_iff_not] at hg); omega) | rw [hg])) | fail)
            all_goals first | (exfalso; omega) | (exfalso; simp_all; fail_if_success (focus skip)) | (refine nx_cut () trivial ?_; simp only [fsM, dkD, dkN, Dk.zero, List.map_nil, show byD ([] : List UInt8) = [] from rfl]; exact (sub_z)) | trace_state
    · refine NX.go ?_; constructor
      refine vl_sub hs ?_
      repeat' (first | fail | fail | refine nzl ?_ | refine nzd ?_ | ((first | with_reducible refine vl_id ?_ | with_reducible refine vd_id ?_); first | fail) | refine nzo ?_ | refine nc ?_ ?_ | (with_reducible intro _ <;> (try (exfalso; omega))) | refine vs_eqnil ?_ | refine vs_nenil ?_ | (refine nd ?_ ?_ <;> intro hg <;> (first | (exfalso; (try simp only [decide_eq_true_eq, decide_eq_false_iff_not] at hg); omega) | rw [hg])) | fail)
      exact nx_each () hi trivial (sub_z)
  · repeat' (first | fail | fail | refine nzl ?_ | refine nzd ?_ | ((first | with_reducible refine vl_id ?_ | with_reducible refine vd_id ?_); first | fail) | refine nzo ?_ | refine nc ?_ ?_ | (with_reducible intro _ <;> (try (exfalso; omega))) | refine vs_eqnil ?_ | refine vs_nenil ?_ | (refine nd ?_ ?_ <;> intro hg <;> (first | (exfalso; (try simp only [decide_eq_true_eq, decide_eq_false_iff_not] at hg); omega) | rw [hg])) | fail)
    exact nx_cut () trivial (sub_z)
theorem falls_law (x : Dk) (l : List (Int × Int)) : VP Try.prog 3 [.agg (dkD x), .sl false false (l.map twD)] (· = .ret (.lit (.bool true))) := by
  have co := lown_v x
  have cr := rright_v x.own (own_len x) (own_wb x)
  have hend := fun B => falls_end B x x.own rfl
  have hloop := fun B Q => falls_loop B x x.own rfl l Q
  generalize x.own = d at *
  simp only [dkD, dkN] at co cr
  refine vp_of Try.func3 rfl Try.ntmps3 rfl Try.results3 fun B => ?_
  simp only [dkD]
  repeat' (first | fail | fail | refine nzl ?_ | refine nzd ?_ | ((first | with_reducible refine vl_id ?_ | with_reducible refine vd_id ?_); first | refine cz (wakes_v) ?_ | refine cz (co) ?_ | refine cz (cr) ?_) | refine nzo ?_ | refine nc ?_ ?_ | (with_reducible intro _ <;> (try (exfalso; omega))) | refine vs_eqnil ?_ | refine vs_nenil ?_ | (refine nd ?_ ?_ <;> intro hg <;> (first | (exfalso; (try simp only [decide_eq_true_eq, decide_eq_false_iff_not] at hg); omega) | rw [hg])) | fail)
  refine vw_join (fun _ : Unit => ⟨[(6, .d (.lit (.bool (checkB d)))), (5, .ptr 1 0), (2, .ptr 0 0)], fsL x d, 2⟩) (fun _ => True) ?_ fun _ _ => hend B
  exact vw_sub (sub_z) (hloop B _)
end Go.Proofs.Ytjfaihpiohccbaa
