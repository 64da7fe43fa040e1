/- Walks by data and names, part 20: Layer 22, by V: the reference's Right. Layer 22, by V: what is the same. Layer 22, by V: does the layer do anything? -/
import Derived.Test.YtjfaihpiohccbaaPk19
namespace Go.Proofs.Ytjfaihpiohccbaa
open Go.RowKit
set_option maxRecDepth 10000
set_option maxHeartbeats 4000000
theorem steps_no {s : S4} {o : DOp} {l : List DOp} (h : fits ((aft o s).get o.f) = false) : stepsOk s (o :: l) = false := by simp [stepsOk, h]
theorem steps_yes {s : S4} {o : DOp} {l : List DOp} (h : fits ((aft o s).get o.f) = true) : stepsOk s (o :: l) = stepsOk (aft o s) l := by simp [stepsOk, h]
theorem fits_no {n : Int} (h : 4194304 < n) : fits n = false := by
  cases hf : fits n with
  | false => rfl
  | true => have := (fits_iff n).1 hf; omega
theorem S4.g0 (a b c d : Int) : (S4.mk a b c d).get 0 = a := rfl
theorem S4.g1 (a b c d : Int) : (S4.mk a b c d).get 1 = b := rfl
theorem S4.g2 (a b c d : Int) : (S4.mk a b c d).get 2 = c := rfl
theorem S4.g3 (a b c d : Int) : (S4.mk a b c d).get 3 = d := rfl
abbrev rtS (d : Dk) (s : S4) (i : Int) : St := ⟨[(53, .d (.lit (.int .i64 i))), (52, .d (.lit (.int .i64 (d.waits.map opD).length))), (51, .d (.sl false false (d.waits.map opD))), (3, .ptr 1 0), (1, .ptr 0 0)], [.c 1 0 ((szD s).map .d), .c 0 0 ((dkD d).map .d)], 2⟩
theorem rright_end (d : Dk) (B : Nat) (s0 : S4) (hs0 : s0 = sz4 d) (hl : d.len 4194304) (hb : ∀ o ∈ d.waits, o.b.length ≤ 1000000000) : VW Try.prog ⟨92, none, B, 0, some B, []⟩ (sndC 4 (bodyC Try.f11)) ⟨[(3, .ptr 1 0), (1, .ptr 0 0)], [.c 1 0 ((szD s0).map .d), .c 0 0 ((dkD d).map .d)], 2⟩ (retQ Try.prog [.tmp 2] (· = .ret (.lit (.bool (d.waits.all mayD && stepsOk (sz4 d) d.waits))))) := by
  have hin : (sz4 d).in := by simp only [Dk.len] at hl; simp only [S4.in, sz4]; omega
  have l0 := byD_len d.f0
  have l1 := byD_len d.f1
  have l2 := byD_len d.f2
  have l3 := byD_len d.f3
  simp only [Dk.len] at hl
  refine vw_seq ?_
  repeat' (first | fail | fail | refine nzl ?_ | refine nzd ?_ | ((first | with_reducible refine vl_id ?_ | with_reducible refine vd_id ?_); first | fail) | refine nzo ?_ | refine nc ?_ ?_ | (with_reducible intro _ <;> (try (exfalso; omega))) | refine vs_eqnil ?_ | refine vs_nenil ?_ | (refine nd ?_ ?_ <;> intro hg <;> (first | (exfalso; (try simp only [decide_eq_true_eq, decide_eq_false_iff_not] at hg); omega) | rw [hg])) | fail)
  refine vw_join (fun _ : Unit => ⟨[(1, .ptr 0 0)], [.c 0 0 ((dkD d).map .d)], 2⟩) (fun _ => (d.waits.all mayD && stepsOk (sz4 d) d.waits) = true) ?_ fun _ hT => ?_
  · refine vw_each 51 d.waits opD (fun (i : Nat) (z : S4) => rtS d z i) (fun i z => z.in ∧ (d.waits.all mayD && stepsOk (sz4 d) d.waits) = ((d.waits.drop i).all mayD && stepsOk z (d.waits.drop i))) s0 (sub_z) ⟨hs0 ▸ hin, by rw [hs0]; rfl⟩ (fun i y x hT hi hx hx' hlt hlm hlen hdr => ?_) (fun y hT hlt hlm => ?_)
    · have hxb := hb x (List.mem_of_getElem? hx)
      have hT2 := hT.2
      rw [hdr] at hT2
      have hyi := hT.1
      have cm := rmay_d x
      have hbl := byD_len x.b
      rw [List.all_cons] at hT2
      cases hm : mayD x with
      | false =>
        rw [hm] at hT2 cm
        rw [hT2]
        simp only [opD] at cm hx'
        repeat' (first | fail | fail | refine nzl ?_ | refine nzd ?_ | ((first | with_reducible refine vl_id ?_ | with_reducible refine vd_id ?_); first | refine cz (cm) ?_) | refine nzo ?_ | refine nc ?_ ?_ | (with_reducible intro _ <;> (try (exfalso; omega))) | refine vs_eqnil ?_ | refine vs_nenil ?_ | (refine nd ?_ ?_ <;> intro hg <;> (first | (exfalso; (try simp only [decide_eq_true_eq, decide_eq_false_iff_not] at hg); omega) | rw [hg])) | fail)
        rfl
      | true =>
        rw [hm, Bool.true_and] at hT2
        rw [hm] at cm
        have hkf := may_kf x hm
        obtain ⟨k, f, b⟩ := x
        simp only at hkf hbl hxb
        simp only [S4.in] at hyi
        have h4 : f = 0 ∨ f = 1 ∨ f = 2 ∨ f = 3 := by omega
        rcases h4 with rfl | rfl | rfl | rfl
        · by_cases hk : k = 2
          · subst hk
            have ha : aft ⟨2, 0, b⟩ y = ⟨0 + ((byD b).length : Int), y.b, y.c, y.d⟩ := by simp [aft, aft1, hbl]
            simp only [opD] at cm hx'
            repeat' (first | fail | fail | refine nzl ?_ | refine nzd ?_ | ((first | with_reducible refine vl_id ?_ | with_reducible refine vd_id ?_); first | refine cz (cm) ?_) | refine nzo ?_ | refine nc ?_ ?_ | (with_reducible intro _ <;> (try (exfalso; omega))) | refine vs_eqnil ?_ | refine vs_nenil ?_ | (refine nd ?_ ?_ <;> intro hg <;> (first | (exfalso; (try simp only [decide_eq_true_eq, decide_eq_false_iff_not] at hg); omega) | rw [hg])) | fail)
            · rw [hT2, steps_no (by rw [ha]; refine fits_no ?_; rw [S4.g0]; omega), Bool.and_false]
            · exact nx_each ⟨0 + ((byD b).length : Int), y.b, y.c, y.d⟩ hi ⟨by simp only [S4.in]; omega, by rw [hT2, steps_yes (by rw [ha]; refine (fits_iff _).2 ?_; rw [S4.g0]; omega), ha]⟩ (sub_z)
          · skip
            have ha : aft ⟨k, 0, b⟩ y = ⟨y.a + ((byD b).length : Int), y.b, y.c, y.d⟩ := by simp [aft, aft1, hbl, hk]
            simp only [opD] at cm hx'
            repeat' (first | fail | fail | refine nzl ?_ | refine nzd ?_ | ((first | with_reducible refine vl_id ?_ | with_reducible refine vd_id ?_); first | refine cz (cm) ?_) | refine nzo ?_ | refine nc ?_ ?_ | (with_reducible intro _ <;> (try (exfalso; omega))) | refine vs_eqnil ?_ | refine vs_nenil ?_ | (refine nd ?_ ?_ <;> intro hg <;> (first | (exfalso; (try simp only [decide_eq_true_eq, decide_eq_false_iff_not] at hg); omega) | rw [hg])) | fail)
            · rw [hT2, steps_no (by rw [ha]; refine fits_no ?_; rw [S4.g0]; omega), Bool.and_false]
            · exact nx_each ⟨y.a + ((byD b).length : Int), y.b, y.c, y.d⟩ hi ⟨by simp only [S4.in]; omega, by rw [hT2, steps_yes (by rw [ha]; refine (fits_iff _).2 ?_; rw [S4.g0]; omega), ha]⟩ (sub_z)
        · by_cases hk : k = 2
          · subst hk
            have ha : aft ⟨2, 1, b⟩ y = ⟨y.a, 0 + ((byD b).length : Int), y.c, y.d⟩ := by simp [aft, aft1, hbl]
            simp only [opD] at cm hx'
            repeat' (first | fail | fail | refine nzl ?_ | refine nzd ?_ | ((first | with_reducible refine vl_id ?_ | with_reducible refine vd_id ?_); first | refine cz (cm) ?_) | refine nzo ?_ | refine nc ?_ ?_ | (with_reducible intro _ <;> (try (exfalso; omega))) | refine vs_eqnil ?_ | refine vs_nenil ?_ | (refine nd ?_ ?_ <;> intro hg <;> (first | (exfalso; (try simp only [decide_eq_true_eq, decide_eq_false_iff_not] at hg); omega) | rw [hg])) | fail)
            · rw [hT2, steps_no (by rw [ha]; refine fits_no ?_; rw [S4.g1]; omega), Bool.and_false]
            · exact nx_each ⟨y.a, 0 + ((byD b).length : Int), y.c, y.d⟩ hi ⟨by simp only [S4.in]; omega, by rw [hT2, steps_yes (by rw [ha]; refine (fits_iff _).2 ?_; rw [S4.g1]; omega), ha]⟩ (sub_z)
          · skip
            have ha : aft ⟨k, 1, b⟩ y = ⟨y.a, y.b + ((byD b).length : Int), y.c, y.d⟩ := by simp [aft, aft1, hbl, hk]
            simp only [opD] at cm hx'
            repeat' (first | fail | fail | refine nzl ?_ | refine nzd ?_ | ((first | with_reducible refine vl_id ?_ | with_reducible refine vd_id ?_); first | refine cz (cm) ?_) | refine nzo ?_ | refine nc ?_ ?_ | (with_reducible intro _ <;> (try (exfalso; omega))) | refine vs_eqnil ?_ | refine vs_nenil ?_ | (refine nd ?_ ?_ <;> intro hg <;> (first | (exfalso; (try simp only [decide_eq_true_eq, decide_eq_false_iff_not] at hg); omega) | rw [hg])) | fail)
            · rw [hT2, steps_no (by rw [ha]; refine fits_no ?_; rw [S4.g1]; omega), Bool.and_false]
            · exact nx_each ⟨y.a, y.b + ((byD b).length : Int), y.c, y.d⟩ hi ⟨by simp only [S4.in]; omega, by rw [hT2, steps_yes (by rw [ha]; refine (fits_iff _).2 ?_; rw [S4.g1]; omega), ha]⟩ (sub_z)
        · by_cases hk : k = 2
          · subst hk
            have ha : aft ⟨2, 2, b⟩ y = ⟨y.a, y.b, 0 + ((byD b).length : Int), y.d⟩ := by simp [aft, aft1, hbl]
            simp only [opD] at cm hx'
            repeat' (first | fail | fail | refine nzl ?_ | refine nzd ?_ | ((first | with_reducible refine vl_id ?_ | with_reducible refine vd_id ?_); first | refine cz (cm) ?_) | refine nzo ?_ | refine nc ?_ ?_ | (with_reducible intro _ <;> (try (exfalso; omega))) | refine vs_eqnil ?_ | refine vs_nenil ?_ | (refine nd ?_ ?_ <;> intro hg <;> (first | (exfalso; (try simp only [decide_eq_true_eq, decide_eq_false_iff_not] at hg); omega) | rw [hg])) | fail)
            · rw [hT2, steps_no (by rw [ha]; refine fits_no ?_; rw [S4.g2]; omega), Bool.and_false]
            · exact nx_each ⟨y.a, y.b, 0 + ((byD b).length : Int), y.d⟩ hi ⟨by simp only [S4.in]; omega, by rw [hT2, steps_yes (by rw [ha]; refine (fits_iff _).2 ?_; rw [S4.g2]; omega), ha]⟩ (sub_z)
          · skip
            have ha : aft ⟨k, 2, b⟩ y = ⟨y.a, y.b, y.c + ((byD b).length : Int), y.d⟩ := by simp [aft, aft1, hbl, hk]
            simp only [opD] at cm hx'
            repeat' (first | fail | fail | refine nzl ?_ | refine nzd ?_ | ((first | with_reducible refine vl_id ?_ | with_reducible refine vd_id ?_); first | refine cz (cm) ?_) | refine nzo ?_ | refine nc ?_ ?_ | (with_reducible intro _ <;> (try (exfalso; omega))) | refine vs_eqnil ?_ | refine vs_nenil ?_ | (refine nd ?_ ?_ <;> intro hg <;> (first | (exfalso; (try simp only [decide_eq_true_eq, decide_eq_false_iff_not] at hg); omega) | rw [hg])) | fail)
            · rw [hT2, steps_no (by rw [ha]; refine fits_no ?_; rw [S4.g2]; omega), Bool.and_false]
            · exact nx_each ⟨y.a, y.b, y.c + ((byD b).length : Int), y.d⟩ hi ⟨by simp only [S4.in]; omega, by rw [hT2, steps_yes (by rw [ha]; refine (fits_iff _).2 ?_; rw [S4.g2]; omega), ha]⟩ (sub_z)
        · by_cases hk : k = 2
          · subst hk
            have ha : aft ⟨2, 3, b⟩ y = ⟨y.a, y.b, y.c, 0 + ((byD b).length : Int)⟩ := by simp [aft, aft1, hbl]
            simp only [opD] at cm hx'
            repeat' (first | fail | fail | refine nzl ?_ | refine nzd ?_ | ((first | with_reducible refine vl_id ?_ | with_reducible refine vd_id ?_); first | refine cz (cm) ?_) | refine nzo ?_ | refine nc ?_ ?_ | (with_reducible intro _ <;> (try (exfalso; omega))) | refine vs_eqnil ?_ | refine vs_nenil ?_ | (refine nd ?_ ?_ <;> intro hg <;> (first | (exfalso; (try simp only [decide_eq_true_eq, decide_eq_false_iff_not] at hg); omega) | rw [hg])) | fail)
            · rw [hT2, steps_no (by rw [ha]; refine fits_no ?_; rw [S4.g3]; omega), Bool.and_false]
            · exact nx_each ⟨y.a, y.b, y.c, 0 + ((byD b).length : Int)⟩ hi ⟨by simp only [S4.in]; omega, by rw [hT2, steps_yes (by rw [ha]; refine (fits_iff _).2 ?_; rw [S4.g3]; omega), ha]⟩ (sub_z)
          · skip
            have ha : aft ⟨k, 3, b⟩ y = ⟨y.a, y.b, y.c, y.d + ((byD b).length : Int)⟩ := by simp [aft, aft1, hbl, hk]
            simp only [opD] at cm hx'
            repeat' (first | fail | fail | refine nzl ?_ | refine nzd ?_ | ((first | with_reducible refine vl_id ?_ | with_reducible refine vd_id ?_); first | refine cz (cm) ?_) | refine nzo ?_ | refine nc ?_ ?_ | (with_reducible intro _ <;> (try (exfalso; omega))) | refine vs_eqnil ?_ | refine vs_nenil ?_ | (refine nd ?_ ?_ <;> intro hg <;> (first | (exfalso; (try simp only [decide_eq_true_eq, decide_eq_false_iff_not] at hg); omega) | rw [hg])) | fail)
            · rw [hT2, steps_no (by rw [ha]; refine fits_no ?_; rw [S4.g3]; omega), Bool.and_false]
            · exact nx_each ⟨y.a, y.b, y.c, y.d + ((byD b).length : Int)⟩ hi ⟨by simp only [S4.in]; omega, by rw [hT2, steps_yes (by rw [ha]; refine (fits_iff _).2 ?_; rw [S4.g3]; omega), ha]⟩ (sub_z)
    · repeat' (first | fail | fail | refine nzl ?_ | refine nzd ?_ | ((first | with_reducible refine vl_id ?_ | with_reducible refine vd_id ?_); first | fail) | refine nzo ?_ | refine nc ?_ ?_ | (with_reducible intro _ <;> (try (exfalso; omega))) | refine vs_eqnil ?_ | refine vs_nenil ?_ | (refine nd ?_ ?_ <;> intro hg <;> (first | (exfalso; (try simp only [decide_eq_true_eq, decide_eq_false_iff_not] at hg); omega) | rw [hg])) | fail)
      refine nx_cut () ?_ (sub_z)
      have := hT.2
      rw [List.drop_eq_nil_of_le (Nat.le_refl _)] at this
      rw [this]; rfl
  · repeat' (first | fail | fail | refine nzl ?_ | refine nzd ?_ | ((first | with_reducible refine vl_id ?_ | with_reducible refine vd_id ?_); first | fail) | refine nzo ?_ | refine nc ?_ ?_ | (with_reducible intro _ <;> (try (exfalso; omega))) | refine vs_eqnil ?_ | refine vs_nenil ?_ | (refine nd ?_ ?_ <;> intro hg <;> (first | (exfalso; (try simp only [decide_eq_true_eq, decide_eq_false_iff_not] at hg); omega) | rw [hg])) | fail)
    refine vw_rounds 5 ?_
    repeat' (first | fail | fail | refine nzl ?_ | refine nzd ?_ | ((first | with_reducible refine vl_id ?_ | with_reducible refine vd_id ?_); first | fail) | refine nzo ?_ | refine nc ?_ ?_ | (with_reducible intro _ <;> (try (exfalso; omega))) | refine vs_eqnil ?_ | refine vs_nenil ?_ | (refine nd ?_ ?_ <;> intro hg <;> (first | (exfalso; (try simp only [decide_eq_true_eq, decide_eq_false_iff_not] at hg); omega) | rw [hg])) | fail)
    rw [hT]
/-- what is right of a short disk -/
theorem rright_v (d : Dk) (hl : d.len 4194304) (hb : ∀ o ∈ d.waits, o.b.length ≤ 1000000000) : VP Try.prog 11 [.agg (dkD d)] (· = .ret (.lit (.bool (checkB d)))) := by
  have hin : (sz4 d).in := by simp only [Dk.len] at hl; simp only [S4.in, sz4]; omega
  have hf4 : fits4 (sz4 d) = true := in_fits4 hin
  have hck : checkB d = (flatK d && (d.waits.all mayD && stepsOk (sz4 d) d.waits)) := by simp only [checkB, hf4, Bool.and_true, Bool.and_assoc]
  have hwm : (d.waits.map opD).length = d.waits.length := List.length_map _
  have l0 := byD_len d.f0
  have l1 := byD_len d.f1
  have l2 := byD_len d.f2
  have l3 := byD_len d.f3
  have cfl := rfile_v d.head
  have hend := fun B => rright_end d B ⟨(byD d.f0).length, (byD d.f1).length, (byD d.f2).length, (byD d.f3).length⟩ (by simp only [sz4, l0, l1, l2, l3]) hl hb
  simp only [Dk.len] at hl
  rw [hck]
  cases hfk : flatK d with
  | true =>
    rw [Bool.true_and]
    simp only [flatK, Bool.and_eq_true, decide_eq_true_eq] at hfk
    obtain ⟨⟨⟨⟨g1, g2⟩, g3⟩, g4⟩, g5⟩ := hfk
    have hdn : d.down = true → d.fuse = 0 := fun h => by rw [h] at g5; simpa using g5
    rw [g1] at cfl
    clear hck hf4 hin g5 hb
    refine vp_of Try.func11 rfl Try.ntmps11 rfl Try.results11 fun B => ?_
    simp only [dkD]
    have hend := hend B
    cases hdd : d.down with
    | true =>
      have hf0 := hdn hdd
      simp only [hdd, hf0, dkD] at hend ⊢
      repeat' (first | fail | fail | refine nzl ?_ | refine nzd ?_ | ((first | with_reducible refine vl_id ?_ | with_reducible refine vd_id ?_); first | refine cz (cfl) ?_) | refine nzo ?_ | refine nc ?_ ?_ | (with_reducible intro _ <;> (try (exfalso; omega))) | refine vs_eqnil ?_ | refine vs_nenil ?_ | (refine nd ?_ ?_ <;> intro hg <;> (first | (exfalso; (try simp only [decide_eq_true_eq, decide_eq_false_iff_not] at hg); omega) | rw [hg])) | fail)
      refine vw_join (fun _ : Unit => ⟨[(3, .ptr 1 0), (1, .ptr 0 0)], _, 2⟩) (fun _ => True) ?_ fun _ _ => hend
      refine vw_rounds 5 ?_
      repeat' (first | fail | fail | refine nzl ?_ | refine nzd ?_ | ((first | with_reducible refine vl_id ?_ | with_reducible refine vd_id ?_); first | fail) | refine nzo ?_ | refine nc ?_ ?_ | (with_reducible intro _ <;> (try (exfalso; omega))) | refine vs_eqnil ?_ | refine vs_nenil ?_ | (refine nd ?_ ?_ <;> intro hg <;> (first | (exfalso; (try simp only [decide_eq_true_eq, decide_eq_false_iff_not] at hg); omega) | rw [hg])) | fail)
      exact nx_cut () trivial (sub_z)
    | false =>
      simp only [hdd, dkD] at hend ⊢
      repeat' (first | fail | fail | refine nzl ?_ | refine nzd ?_ | ((first | with_reducible refine vl_id ?_ | with_reducible refine vd_id ?_); first | refine cz (cfl) ?_) | refine nzo ?_ | refine nc ?_ ?_ | (with_reducible intro _ <;> (try (exfalso; omega))) | refine vs_eqnil ?_ | refine vs_nenil ?_ | (refine nd ?_ ?_ <;> intro hg <;> (first | (exfalso; (try simp only [decide_eq_true_eq, decide_eq_false_iff_not] at hg); omega) | rw [hg])) | fail)
      refine vw_join (fun _ : Unit => ⟨[(3, .ptr 1 0), (1, .ptr 0 0)], _, 2⟩) (fun _ => True) ?_ fun _ _ => hend
      refine vw_rounds 5 ?_
      repeat' (first | fail | fail | refine nzl ?_ | refine nzd ?_ | ((first | with_reducible refine vl_id ?_ | with_reducible refine vd_id ?_); first | fail) | refine nzo ?_ | refine nc ?_ ?_ | (with_reducible intro _ <;> (try (exfalso; omega))) | refine vs_eqnil ?_ | refine vs_nenil ?_ | (refine nd ?_ ?_ <;> intro hg <;> (first | (exfalso; (try simp only [decide_eq_true_eq, decide_eq_false_iff_not] at hg); omega) | rw [hg])) | fail)
      exact nx_cut () trivial (sub_z)
  | false =>
    rw [Bool.false_and]
    clear hend hck
    refine vp_of Try.func11 rfl Try.ntmps11 rfl Try.results11 fun B => ?_
    simp only [dkD]
    cases hdd : d.down with
    | true =>
      cases g1 : isFile d.head <;> rw [g1] at cfl
      · repeat' (first | fail | fail | refine nzl ?_ | refine nzd ?_ | ((first | with_reducible refine vl_id ?_ | with_reducible refine vd_id ?_); first | refine cz (cfl) ?_) | refine nzo ?_ | refine nc ?_ ?_ | (with_reducible intro _ <;> (try (exfalso; omega))) | refine vs_eqnil ?_ | refine vs_nenil ?_ | (refine nd ?_ ?_ <;> intro hg <;> (first | (exfalso; (try simp only [decide_eq_true_eq, decide_eq_false_iff_not] at hg); omega) | rw [hg])) | fail)
        all_goals rfl
      · simp only [flatK, g1, hdd, Bool.true_and, Bool.not_true, Bool.false_or] at hfk
        have h3 : ¬ (d.waits.length ≤ 4096 ∧ 0 ≤ d.fuse ∧ d.fuse ≤ 4096 ∧ d.fuse = 0) := fun h => by simp [h.1, h.2.2.2] at hfk
        repeat' (first | fail | fail | refine nzl ?_ | refine nzd ?_ | ((first | with_reducible refine vl_id ?_ | with_reducible refine vd_id ?_); first | refine cz (cfl) ?_) | refine nzo ?_ | refine nc ?_ ?_ | (with_reducible intro _ <;> (try (exfalso; omega))) | refine vs_eqnil ?_ | refine vs_nenil ?_ | (refine nd ?_ ?_ <;> intro hg <;> (first | (exfalso; (try simp only [decide_eq_true_eq, decide_eq_false_iff_not] at hg); omega) | rw [hg])) | fail)
        all_goals first | rfl | (exfalso; omega)
    | false =>
      cases g1 : isFile d.head <;> rw [g1] at cfl
      · repeat' (first | fail | fail | refine nzl ?_ | refine nzd ?_ | ((first | with_reducible refine vl_id ?_ | with_reducible refine vd_id ?_); first | refine cz (cfl) ?_) | refine nzo ?_ | refine nc ?_ ?_ | (with_reducible intro _ <;> (try (exfalso; omega))) | refine vs_eqnil ?_ | refine vs_nenil ?_ | (refine nd ?_ ?_ <;> intro hg <;> (first | (exfalso; (try simp only [decide_eq_true_eq, decide_eq_false_iff_not] at hg); omega) | rw [hg])) | fail)
        all_goals rfl
      · simp only [flatK, g1, hdd, Bool.true_and, Bool.not_false, Bool.true_or, Bool.and_true] at hfk
        have h3 : ¬ (d.waits.length ≤ 4096 ∧ 0 ≤ d.fuse ∧ d.fuse ≤ 4096) := fun h => by simp [h.1, h.2.1, h.2.2] at hfk
        repeat' (first | fail | fail | refine nzl ?_ | refine nzd ?_ | ((first | with_reducible refine vl_id ?_ | with_reducible refine vd_id ?_); first | refine cz (cfl) ?_) | refine nzo ?_ | refine nc ?_ ?_ | (with_reducible intro _ <;> (try (exfalso; omega))) | refine vs_eqnil ?_ | refine vs_nenil ?_ | (refine nd ?_ ?_ <;> intro hg <;> (first | (exfalso; (try simp only [decide_eq_true_eq, decide_eq_false_iff_not] at hg); omega) | rw [hg])) | fail)
        all_goals first | rfl | (exfalso; omega)
end Go.Proofs.Ytjfaihpiohccbaa

namespace Go.Proofs.Ytjfaihpiohccbaa
open Go.RowKit
set_option maxRecDepth 10000
set_option maxHeartbeats 4000000
theorem equal_v (a b : List UInt8) : VP Try.prog 32 [.sl false false (byD a), .sl false false (byD b)] (· = .ret (.lit (.bool (decide (a = b))))) := by
  refine vp_of Try.func32 rfl Try.ntmps32 rfl Try.results32 fun B => ?_
  have hb := byD_len b
  have ha := byD_len a
  repeat' (first | fail | fail | refine nzl ?_ | refine nzd ?_ | ((first | with_reducible refine vl_id ?_ | with_reducible refine vd_id ?_); first | fail) | refine nzo ?_ | refine nc ?_ ?_ | (with_reducible intro _ <;> (try (exfalso; omega))) | refine vs_eqnil ?_ | refine vs_nenil ?_ | (refine nd ?_ ?_ <;> intro hg <;> (first | (exfalso; (try simp only [decide_eq_true_eq, decide_eq_false_iff_not] at hg); omega) | rw [hg])) | fail)
  · rw [decide_eq_false (fun h => by subst h; omega)]
  · refine vw_each 0 a (fun x => [.lit (vb x)]) (fun (i : Nat) (_ : Unit) => ⟨[(13, I .i64 i), (12, I .i64 (byD a).length), (0, .d (.sl false false (byD a))), (1, .d (.sl false false (byD b)))], [], 0⟩) (fun i _ => decide (a = b) = decide (a.drop i = b.drop i)) () (sub_z) rfl (fun i y x hT hi hx hx' hlt hlm hlen hdr => ?_) (fun y hT hlt hlm => ?_)
    · have hlb : i < b.length := by omega
      have hb' : b[i]? = some b[i] := List.getElem?_eq_getElem hlb
      have hbd := List.drop_eq_getElem_cons hlb
      generalize b[i] = z at *
      have hbx : (byD b)[((i : Nat) : Int).toNat]? = some [.lit (vb z)] := by simp [hb']
      rw [hdr, hbd] at hT
      repeat' (first | fail | fail | refine nzl ?_ | refine nzd ?_ | ((first | with_reducible refine vl_id ?_ | with_reducible refine vd_id ?_); first | fail) | refine nzo ?_ | refine nc ?_ ?_ | (with_reducible intro _ <;> (try (exfalso; omega))) | refine vs_eqnil ?_ | refine vs_nenil ?_ | (refine nd ?_ ?_ <;> intro hg <;> (first | (exfalso; (try simp only [decide_eq_true_eq, decide_eq_false_iff_not] at hg); omega) | rw [hg])) | fail)
      · rename_i hne; rw [hT, decide_eq_false (fun h => u8_ne hne (List.cons.inj h).1)]
      · rename_i heq; refine nx_each () hi ?_ (sub_z)
        rw [hT, u8_eq heq]; simp
    · repeat' (first | fail | fail | refine nzl ?_ | refine nzd ?_ | ((first | with_reducible refine vl_id ?_ | with_reducible refine vd_id ?_); first | fail) | refine nzo ?_ | refine nc ?_ ?_ | (with_reducible intro _ <;> (try (exfalso; omega))) | refine vs_eqnil ?_ | refine vs_nenil ?_ | (refine nd ?_ ?_ <;> intro hg <;> (first | (exfalso; (try simp only [decide_eq_true_eq, decide_eq_false_iff_not] at hg); omega) | rw [hg])) | fail)
      rw [hT, List.drop_of_length_le (Nat.le_refl _), List.drop_of_length_le (by omega), decide_eq_true rfl]
theorem beq_v (a b : List UInt8) : VP Try.prog 21 [.sl false false (byD a), .sl false false (byD b)] (· = .ret (.lit (.bool (decide (a = b))))) := by
  refine vp_of Try.func21 rfl Try.ntmps21 rfl Try.results21 fun B => ?_
  repeat' (first | fail | fail | refine nzl ?_ | refine nzd ?_ | ((first | with_reducible refine vl_id ?_ | with_reducible refine vd_id ?_); first | fail) | refine nzo ?_ | refine nc ?_ ?_ | (with_reducible intro _ <;> (try (exfalso; omega))) | refine vs_eqnil ?_ | refine vs_nenil ?_ | (refine nd ?_ ?_ <;> intro hg <;> (first | (exfalso; (try simp only [decide_eq_true_eq, decide_eq_false_iff_not] at hg); omega) | rw [hg])) | fail)
  all_goals rfl
theorem prefix_v (a b : List UInt8) : VP Try.prog 23 [.sl false false (byD a), .sl false false (byD b)] (· = .ret (.lit (.bool (decide (b <+: a))))) := by
  refine vp_of Try.func23 rfl Try.ntmps23 rfl Try.results23 fun B => ?_
  have hb := byD_len b
  have ha := byD_len a
  have hc : cutL none (some ((byD b).length : Int)) (byD a) = byD (a.take b.length) := by
    rw [cutL_eq, hb]; simp [byD, List.map_take]
  repeat' (first | fail | fail | refine nzl ?_ | refine nzd ?_ | ((first | with_reducible refine vl_id ?_ | with_reducible refine vd_id ?_); first | (rw [hc]; first | refine cz (beq_v (a.take b.length) b) ?_)) | refine nzo ?_ | refine nc ?_ ?_ | (with_reducible intro _ <;> (try (exfalso; omega))) | refine vs_eqnil ?_ | refine vs_nenil ?_ | (refine nd ?_ ?_ <;> intro hg <;> (first | (exfalso; (try simp only [decide_eq_true_eq, decide_eq_false_iff_not] at hg); omega) | rw [hg])) | fail)
  · simp only [R.ret.injEq, D.lit.injEq, Value.bool.injEq, decide_eq_decide]; rw [List.prefix_iff_eq_take]; exact eq_comm
  · rw [decide_eq_false (fun h => by have := h.length_le; omega)]
theorem same1_v (x y : DOp) : VP Try.prog 61 [.agg (opD x), .agg (opD y)] (· = .ret (.lit (.bool (decide (x = y) && true)))) := by
  have c := equal_v x.b y.b
  have hxz : x = y ↔ x.k = y.k ∧ x.f = y.f ∧ x.b = y.b := by cases x; cases y; simp
  simp only [opD]
  refine vp_of Try.func61 rfl Try.ntmps61 rfl Try.results61 fun B => ?_
  repeat' (first | fail | fail | refine nzl ?_ | refine nzd ?_ | ((first | with_reducible refine vl_id ?_ | with_reducible refine vd_id ?_); first | refine cz (c) ?_) | refine nzo ?_ | refine nc ?_ ?_ | (with_reducible intro _ <;> (try (exfalso; omega))) | refine vs_eqnil ?_ | refine vs_nenil ?_ | (refine nd ?_ ?_ <;> intro hg <;> (first | (exfalso; (try simp only [decide_eq_true_eq, decide_eq_false_iff_not] at hg); omega) | rw [hg])) | fail)
  all_goals simp [*]
theorem same2_v (x y : List UInt8) : VP Try.prog 62 [.sl false false (byD x), .sl false false (byD y)] (· = .ret (.lit (.bool (decide (x = y))))) := by
  have c := equal_v x y
  refine vp_of Try.func62 rfl Try.ntmps62 rfl Try.results62 fun B => ?_
  repeat' (first | fail | fail | refine nzl ?_ | refine nzd ?_ | ((first | with_reducible refine vl_id ?_ | with_reducible refine vd_id ?_); first | refine cz (c) ?_) | refine nzo ?_ | refine nc ?_ ?_ | (with_reducible intro _ <;> (try (exfalso; omega))) | refine vs_eqnil ?_ | refine vs_nenil ?_ | (refine nd ?_ ?_ <;> intro hg <;> (first | (exfalso; (try simp only [decide_eq_true_eq, decide_eq_false_iff_not] at hg); omega) | rw [hg])) | fail)
  all_goals rfl
theorem eqf_v {f : FuncId} (p : DOp → DOp → Bool) (l m : List DOp) (hc : ∀ x y, VP Try.prog f [.agg (opD x), .agg (opD y)] (· = .ret (.lit (.bool (p x y))))) :
    VP Try.prog 30 [.sl false false (l.map opD), .sl false false (m.map opD), .fn f [] []] (· = .ret (.lit (.bool (eqF p l m)))) := by
  refine vp_of Try.func30 rfl Try.ntmps30 rfl Try.results30 fun B => ?_
  have hl : (l.map opD).length = l.length := List.length_map _
  have hm : (m.map opD).length = m.length := List.length_map _
  repeat' (first | fail | fail | refine nzl ?_ | refine nzd ?_ | ((first | with_reducible refine vl_id ?_ | with_reducible refine vd_id ?_); first | fail) | refine nzo ?_ | refine nc ?_ ?_ | (with_reducible intro _ <;> (try (exfalso; omega))) | refine vs_eqnil ?_ | refine vs_nenil ?_ | (refine nd ?_ ?_ <;> intro hg <;> (first | (exfalso; (try simp only [decide_eq_true_eq, decide_eq_false_iff_not] at hg); omega) | rw [hg])) | fail)
  · rw [eqF_len (by omega)]
  · refine vw_each 15 l opD (fun (i : Nat) (_ : Unit) => ⟨[(17, I .i64 i), (16, I .i64 (l.map opD).length), (15, .d (.sl false false (l.map opD))), (1, .d (.sl false false (m.map opD))), (2, .d (.fn f [] []))], [], 0⟩) (fun i _ => eqF p l m = eqF p (l.drop i) (m.drop i)) () (sub_z) rfl (fun i y x hT hi hx hx' hlt hlm hlen hdr => ?_) (fun y hT hlt hlm => ?_)
    · have hlb : i < m.length := by omega
      have hb' : m[i]? = some m[i] := List.getElem?_eq_getElem hlb
      have hbd := List.drop_eq_getElem_cons hlb
      generalize m[i] = z at *
      have hbx : (m.map opD)[((i : Nat) : Int).toNat]? = some (opD z) := by simp [hb']
      rw [hdr, hbd] at hT
      have c := hc x z
      simp only [opD] at c hx' hbx ⊢
      repeat' (first | fail | fail | refine nzl ?_ | refine nzd ?_ | ((first | with_reducible refine vl_id ?_ | with_reducible refine vd_id ?_); first | refine cz (c) ?_) | refine nzo ?_ | refine nc ?_ ?_ | (with_reducible intro _ <;> (try (exfalso; omega))) | refine vs_eqnil ?_ | refine vs_nenil ?_ | (refine nd ?_ ?_ <;> intro hg <;> (first | (exfalso; (try simp only [decide_eq_true_eq, decide_eq_false_iff_not] at hg); omega) | rw [hg])) | fail)
      · rw [hT]; simp_all [eqF]
      · refine nx_each () hi ?_ (sub_z); rw [hT]; simp_all [eqF]
    · repeat' (first | fail | fail | refine nzl ?_ | refine nzd ?_ | ((first | with_reducible refine vl_id ?_ | with_reducible refine vd_id ?_); first | fail) | refine nzo ?_ | refine nc ?_ ?_ | (with_reducible intro _ <;> (try (exfalso; omega))) | refine vs_eqnil ?_ | refine vs_nenil ?_ | (refine nd ?_ ?_ <;> intro hg <;> (first | (exfalso; (try simp only [decide_eq_true_eq, decide_eq_false_iff_not] at hg); omega) | rw [hg])) | fail)
      rw [hT, List.drop_of_length_le (Nat.le_refl _), List.drop_of_length_le (by omega)]; rfl
abbrev fsD (l : List (List UInt8)) : List (List D) := l.map fun b => [.sl false false (byD b)]
theorem eqfs_v (l m : List (List UInt8)) :
    VP Try.prog 63 [.sl false false (fsD l), .sl false false (fsD m), .fn 62 [] []] (· = .ret (.lit (.bool (decide (l = m))))) := by
  refine vp_of Try.func63 rfl Try.ntmps63 rfl Try.results63 fun B => ?_
  have hl : (fsD l).length = l.length := List.length_map _
  have hm : (fsD m).length = m.length := List.length_map _
  rw [← eqF_eq]
  repeat' (first | fail | fail | refine nzl ?_ | refine nzd ?_ | ((first | with_reducible refine vl_id ?_ | with_reducible refine vd_id ?_); first | fail) | refine nzo ?_ | refine nc ?_ ?_ | (with_reducible intro _ <;> (try (exfalso; omega))) | refine vs_eqnil ?_ | refine vs_nenil ?_ | (refine nd ?_ ?_ <;> intro hg <;> (first | (exfalso; (try simp only [decide_eq_true_eq, decide_eq_false_iff_not] at hg); omega) | rw [hg])) | fail)
  · rw [eqF_len (by omega)]
  · refine vw_each 15 l (fun b => [.sl false false (byD b)]) (fun (i : Nat) (_ : Unit) => ⟨[(17, I .i64 i), (16, I .i64 (fsD l).length), (15, .d (.sl false false (fsD l))), (1, .d (.sl false false (fsD m))), (2, .d (.fn 62 [] []))], [], 0⟩) (fun i _ => eqF (fun x y => decide (x = y)) l m = eqF (fun x y => decide (x = y)) (l.drop i) (m.drop i)) () (sub_z) rfl (fun i y x hT hi hx hx' hlt hlm hlen hdr => ?_) (fun y hT hlt hlm => ?_)
    · have hlb : i < m.length := by omega
      have hb' : m[i]? = some m[i] := List.getElem?_eq_getElem hlb
      have hbd := List.drop_eq_getElem_cons hlb
      generalize m[i] = z at *
      have hbx : (fsD m)[((i : Nat) : Int).toNat]? = some [.sl false false (byD z)] := by simp [hb']
      rw [hdr, hbd] at hT
      have c := same2_v x z
      repeat' (first | fail | fail | refine nzl ?_ | refine nzd ?_ | ((first | with_reducible refine vl_id ?_ | with_reducible refine vd_id ?_); first | refine cz (c) ?_) | refine nzo ?_ | refine nc ?_ ?_ | (with_reducible intro _ <;> (try (exfalso; omega))) | refine vs_eqnil ?_ | refine vs_nenil ?_ | (refine nd ?_ ?_ <;> intro hg <;> (first | (exfalso; (try simp only [decide_eq_true_eq, decide_eq_false_iff_not] at hg); omega) | rw [hg])) | fail)
      · rw [hT]; simp_all [eqF]
      · refine nx_each () hi ?_ (sub_z); rw [hT]; simp_all [eqF]
    · repeat' (first | fail | fail | refine nzl ?_ | refine nzd ?_ | ((first | with_reducible refine vl_id ?_ | with_reducible refine vd_id ?_); first | fail) | refine nzo ?_ | refine nc ?_ ?_ | (with_reducible intro _ <;> (try (exfalso; omega))) | refine vs_eqnil ?_ | refine vs_nenil ?_ | (refine nd ?_ ?_ <;> intro hg <;> (first | (exfalso; (try simp only [decide_eq_true_eq, decide_eq_false_iff_not] at hg); omega) | rw [hg])) | fail)
      rw [hT, List.drop_of_length_le (Nat.le_refl _), List.drop_of_length_le (by omega)]; rfl
theorem same_v (d e : Dk) : VP Try.prog 33 [.agg (dkD d), .agg (dkD e)] (· = .ret (.lit (.bool (d.beq e)))) := by
  have c1 := eqfs_v [d.f0, d.f1, d.f2, d.f3] [e.f0, e.f1, e.f2, e.f3]
  have c2 := eqf_v (fun x y => decide (x = y) && true) d.waits e.waits same1_v
  simp only [fsD, List.map_cons, List.map_nil] at c1
  have hde : d = e ↔ d.f0 = e.f0 ∧ d.f1 = e.f1 ∧ d.f2 = e.f2 ∧ d.f3 = e.f3 ∧ d.head = e.head ∧ d.waits = e.waits ∧ d.down = e.down ∧ d.fuse = e.fuse := by cases d; cases e; simp
  have hew : eqF (fun x y : DOp => decide (x = y) && true) d.waits e.waits = decide (d.waits = e.waits) := by simp only [Bool.and_true]; exact eqF_eq
  rw [hew] at c2
  clear hew
  refine vp_of Try.func33 rfl Try.ntmps33 rfl Try.results33 fun B => ?_
  simp only [dkD]
  repeat' (first | fail | fail | refine nzl ?_ | refine nzd ?_ | ((first | with_reducible refine vl_id ?_ | with_reducible refine vd_id ?_); first | refine cz (c1) ?_ | refine cz (c2) ?_) | refine nzo ?_ | refine nc ?_ ?_ | (with_reducible intro _ <;> (try (exfalso; omega))) | refine vs_eqnil ?_ | refine vs_nenil ?_ | (refine nd ?_ ?_ <;> intro hg <;> (first | (exfalso; (try simp only [decide_eq_true_eq, decide_eq_false_iff_not] at hg); omega) | rw [hg])) | fail)
  all_goals simp only [Dk.beq, Bool.and_true, hde]
  all_goals (try (simp_all; done))
end Go.Proofs.Ytjfaihpiohccbaa

namespace Go.Proofs.Ytjfaihpiohccbaa
open Go.RowKit
set_option maxRecDepth 10000
set_option maxHeartbeats 4000000
abbrev w0 : Dk := Dk.zero
abbrev w1 : Dk := ⟨[1, 2], [], [], [], 0, [⟨1, 0, [3, 4]⟩, ⟨3, 1, []⟩], false, 0⟩
abbrev w2 : Dk := ⟨[1, 2, 3], [], [], [], 0, [], true, 0⟩
abbrev w3 : Dk := ⟨[1, 2, 3], [], [], [], 0, [], false, 0⟩
abbrev w4 : Dk := ⟨[], [], [], [], 0, [], false, 2⟩
abbrev w5 : Dk := ⟨[], [], [], [], 0, [⟨1, 0, [1]⟩], true, 0⟩
theorem e_run1 : w0.run [⟨1, 0, [1, 2]⟩, ⟨4, 0, []⟩, ⟨1, 0, [3, 4]⟩, ⟨3, 1, []⟩] = (w1, 4, 0) := by decide
theorem e_read1 : w1.readE 0 = ([1, 2, 3, 4], 0) := by decide
theorem e_fall : w1.fall 0 1 = (w2, 0) := by decide
theorem e_rise : w2.rise = (w3, 0) := by decide
theorem e_read3 : w3.readE 0 = ([1, 2, 3], 0) := by decide
theorem e_arm : w0.arm 2 = (w4, 0) := by decide
theorem e_run4 : w4.run [⟨1, 0, [1]⟩, ⟨1, 0, [2]⟩] = (w5, 1, 321) := by decide
theorem e_do : w1.doOp ⟨1, 0, []⟩ = (w0, 2) := by decide
theorem e_head1 : w1.headI = 1 := by decide
theorem e_head3 : w3.headI = 0 := by decide
theorem wakes_v : VP Try.prog 9 [] (· = .ret (.lit (.bool true))) := by
  have q1 := lput_v [1, 2]
  have q2 := lput_v [3, 4]
  have q3 := lput_v [1]
  have q4 := lput_v [2]
  have q5 := lput_v []
  have c1 := run_v w0 [⟨1, 0, [1, 2]⟩, ⟨4, 0, []⟩, ⟨1, 0, [3, 4]⟩, ⟨3, 1, []⟩] (by simp [Dk.zero]) (by simp) (by simp)
  have c2 := read_v w1 0 (by simp)
  have c3 := fall_v w1 0 1 (by simp)
  have c4 := rise_v w2 (by simp)
  have c5 := read_v w3 0 (by simp)
  have c6 := arm_v w0 2 (by simp [Dk.zero])
  have c7 := run_v w4 [⟨1, 0, [1]⟩, ⟨1, 0, [2]⟩] (by simp) (by simp) (by simp)
  have c8 := do_v w1 ⟨1, 0, []⟩ (by simp) (by simp)
  have c9 := head_v w1 (by simp)
  have c10 := head_v w3 (by simp)
  have c11 := equal_v [1, 2, 3, 4] [1, 2, 3, 4]
  have c12 := equal_v [1, 2, 3] [1, 2, 3]
  rw [e_run1] at c1
  rw [e_read1] at c2
  rw [e_fall] at c3
  rw [e_rise] at c4
  rw [e_read3] at c5
  rw [e_arm] at c6
  rw [e_run4] at c7
  rw [e_do] at c8
  rw [e_head1] at c9
  rw [e_head3] at c10
  simp only [dkE, dkE3, dkD, dkN, Dk.zero, opD, opN, byD, vb, List.map_cons, List.map_nil, show ((UInt8.toNat 1 : Nat) : Int) = 1 from rfl, show ((UInt8.toNat 2 : Nat) : Int) = 2 from rfl, show ((UInt8.toNat 3 : Nat) : Int) = 3 from rfl, show ((UInt8.toNat 4 : Nat) : Int) = 4 from rfl, decide_true, show ((4 : Nat) : Int) = 4 from rfl, show ((1 : Nat) : Int) = 1 from rfl] at q1 q2 q3 q4 q5 c1 c2 c3 c4 c5 c6 c7 c8 c9 c10 c11 c12
  refine vp_of Try.func9 rfl Try.ntmps9 rfl Try.results9 fun B => ?_
  repeat' (first | refine vs_bsd ?_ | refine vd_bsd ?_ | fail | refine nzl ?_ | refine nzd ?_ | ((first | with_reducible refine vl_id ?_ | with_reducible refine vd_id ?_); first | refine cz (q1) ?_ | refine cz (q2) ?_ | refine cz (q3) ?_ | refine cz (q4) ?_ | refine cz (q5) ?_ | refine cz (lsync_v) ?_ | refine cz (new_v) ?_ | refine cz (c1) ?_ | refine cz (c2) ?_ | refine cz (c3) ?_ | refine cz (c4) ?_ | refine cz (c5) ?_ | refine cz (c6) ?_ | refine cz (c7) ?_ | refine cz (c8) ?_ | refine cz (c9) ?_ | refine cz (c10) ?_ | refine cz (c11) ?_ | refine cz (c12) ?_) | refine nzo ?_ | refine nc ?_ ?_ | (with_reducible intro _ <;> (try (exfalso; omega))) | refine vs_eqnil ?_ | refine vs_nenil ?_ | (refine nd ?_ ?_ <;> intro hg <;> (first | (exfalso; (try simp only [decide_eq_true_eq, decide_eq_false_iff_not] at hg); omega) | rw [hg])) | fail)
  all_goals rfl
end Go.Proofs.Ytjfaihpiohccbaa

namespace Go.Proofs.Ytjfaihpiohccbaa
open Go.RowKit
set_option maxRecDepth 10000
set_option maxHeartbeats 4000000
theorem byD_at (b : List UInt8) (i : Nat) (h : i < b.length) : ∃ n, (byD b)[((i : Nat) : Int).toNat]? = some [.lit (.int .u8 n)] := ⟨b[i].toNat, by simp [byD, h, vb]⟩
abbrev spF (d : Dk) : List V := [.po false (.sl false true (byD d.f0)), .po false (.sl false true (byD d.f1)), .po false (.sl false true (byD d.f2)), .po false (.sl false true (byD d.f3))]
abbrev spC (d : Dk) : List V := [.po false (.sl false true (byD d.f0)), .po false (.sl false true (byD d.f1)), .po false (.sl false true (byD d.f2)), .po false (.sl false true (byD d.f3)), .d (.lit (.int .i64 d.head)), .po false (.sl false true (d.waits.map opN)), .d (.lit (.bool d.down)), .d (.lit (.int .i64 d.fuse))]
abbrev spI (d : Dk) (b : List UInt8) (j : Int) (i : Nat) : St := ⟨[(15, .d (.lit (.int .i64 i))), (14, .d (.lit (.int .i64 (byD b).length))), (3, .po false (.sl false true (byD b))), (10, .d (.lit (.int .i64 j))), (9, .agg (spF d)), (1, .ptr 0 0)], [.c 0 0 (spC d)], 1⟩
abbrev spJ (d : Dk) (x : DOp) (j i : Nat) : St := ⟨[(36, .d (.lit (.int .i64 i))), (35, .d (.lit (.int .i64 (byD x.b).length))), (34, .po false (.sl false true (byD x.b))), (6, .ptr 1 0), (29, .d (.lit (.int .i64 j))), (28, .d (.lit (.int .i64 (d.waits.map opN).length))), (27, .po false (.sl false true (d.waits.map opN))), (1, .ptr 0 0)], [.c 1 0 [.d (.lit (.int .i64 x.k)), .d (.lit (.int .i64 x.f)), .po false (.sl false true (byD x.b))], .c 0 0 (spC d)], 2⟩
theorem vw_plen {P : Program} {cx : Cx} {s : St} {Q : VE → St → Prop} (t : Tmp) {e c f : Bool} {l : List (List D)} (h : lookT t s.tm = some (.po e (.sl c f l))) {x : Code} (k : l.length ≤ 9223372036854775807 → VW P cx x s Q) : VW P cx x s Q := fun n g0 w0 g a w hE hS => by
  have h1 := hS.tm h
  simp only [vrep] at h1
  obtain ⟨y, hy, h1⟩ := h1
  obtain ⟨m, rfl, hm, _⟩ := blurE_sl hy
  simp only [drep] at h1
  obtain ⟨a', cap, cs, _, h2, h3, _⟩ := h1
  rw [blurDss_len hm] at h2
  exact k (by unfold maxLen at h3; omega) n g0 w0 g a w hE hS
theorem spoil_s (d : Dk) : VS Try.prog 16 [.agg (dkN d)] := by
  refine vs_of Try.func16 rfl Try.ntmps16 rfl ?_
  have l0 := byD_len d.f0
  have l1 := byD_len d.f1
  have l2 := byD_len d.f2
  have l3 := byD_len d.f3
  simp only [poVs, poV, u8V]
  repeat' (first | (refine vs_pol8 (fun _ => ?_)) | (refine vs_poset ?_; simp only [blurT, blurS, blurV, blurVs]) | refine vs_po ?_ | fail | refine nzl ?_ | refine nzd ?_ | ((first | with_reducible refine vl_id ?_ | with_reducible refine vd_id ?_); first | fail) | refine nzo ?_ | refine nc ?_ ?_ | (with_reducible intro _ <;> (try (exfalso; omega))) | refine vs_eqnil ?_ | refine vs_nenil ?_ | (refine nd ?_ ?_ <;> intro hg <;> (first | (exfalso; (try simp only [decide_eq_true_eq, decide_eq_false_iff_not] at hg); omega) | rw [hg])) | fail)
  refine vw_join (fun _ : Unit => ⟨[(1, .ptr 0 0)], [.c 0 0 (spC d)], 1⟩) (fun _ => True) ?_ fun _ _ => ?_
  · refine vw_rounds 5 ?_
    repeat' (first | (refine vs_pol8 (fun _ => ?_)) | (refine vs_poset ?_; simp only [blurT, blurS, blurV, blurVs]) | refine vs_po ?_ | fail | refine nzl ?_ | refine nzd ?_ | ((first | with_reducible refine vl_id ?_ | with_reducible refine vd_id ?_); first | fail) | refine nzo ?_ | refine nc ?_ ?_ | (with_reducible intro _ <;> (try (exfalso; omega))) | refine vs_eqnil ?_ | refine vs_nenil ?_ | (refine nd ?_ ?_ <;> intro hg <;> (first | (exfalso; (try simp only [decide_eq_true_eq, decide_eq_false_iff_not] at hg); omega) | rw [hg])) | fail)
    refine vw_loop (fun i : Nat => spI d d.f0 0 i) (fun i => i ≤ (d.f0).length) (fun i => (d.f0).length - i) 0 (sub_z) (Nat.zero_le _) fun i hi => ?_
    refine vw_plen 3 rfl fun hlen => ?_
    rcases Nat.lt_or_ge i (d.f0).length with h | h
    · obtain ⟨n, hx'⟩ := byD_at d.f0 i h
      have hlt : (i : Int) < ((byD (d.f0)).length : Int) := by rw [byD_len]; omega
      repeat' (first | (refine vs_pol8 (fun _ => ?_)) | (refine vs_poset ?_; simp only [blurT, blurS, blurV, blurVs]) | refine vs_po ?_ | fail | refine nzl ?_ | refine nzd ?_ | ((first | with_reducible refine vl_id ?_ | with_reducible refine vd_id ?_); first | fail) | refine nzo ?_ | refine nc ?_ ?_ | (with_reducible intro _ <;> (try (exfalso; omega))) | refine vs_eqnil ?_ | refine vs_nenil ?_ | (refine nd ?_ ?_ <;> intro hg <;> (first | (exfalso; (try simp only [decide_eq_true_eq, decide_eq_false_iff_not] at hg); omega) | rw [hg])) | fail)
      exact nx_loop (i + 1) (by omega) (by omega) (sub_z)
    have hlt : ¬ (i : Int) < ((byD (d.f0)).length : Int) := by rw [byD_len]; omega
    repeat' (first | (refine vs_pol8 (fun _ => ?_)) | (refine vs_poset ?_; simp only [blurT, blurS, blurV, blurVs]) | refine vs_po ?_ | fail | refine nzl ?_ | refine nzd ?_ | ((first | with_reducible refine vl_id ?_ | with_reducible refine vd_id ?_); first | fail) | refine nzo ?_ | refine nc ?_ ?_ | (with_reducible intro _ <;> (try (exfalso; omega))) | refine vs_eqnil ?_ | refine vs_nenil ?_ | (refine nd ?_ ?_ <;> intro hg <;> (first | (exfalso; (try simp only [decide_eq_true_eq, decide_eq_false_iff_not] at hg); omega) | rw [hg])) | fail)
    refine vw_loop (fun i : Nat => spI d d.f1 (0 + 1) i) (fun i => i ≤ (d.f1).length) (fun i => (d.f1).length - i) 0 (sub_z) (Nat.zero_le _) fun i hi => ?_
    refine vw_plen 3 rfl fun hlen => ?_
    rcases Nat.lt_or_ge i (d.f1).length with h | h
    · obtain ⟨n, hx'⟩ := byD_at d.f1 i h
      have hlt : (i : Int) < ((byD (d.f1)).length : Int) := by rw [byD_len]; omega
      repeat' (first | (refine vs_pol8 (fun _ => ?_)) | (refine vs_poset ?_; simp only [blurT, blurS, blurV, blurVs]) | refine vs_po ?_ | fail | refine nzl ?_ | refine nzd ?_ | ((first | with_reducible refine vl_id ?_ | with_reducible refine vd_id ?_); first | fail) | refine nzo ?_ | refine nc ?_ ?_ | (with_reducible intro _ <;> (try (exfalso; omega))) | refine vs_eqnil ?_ | refine vs_nenil ?_ | (refine nd ?_ ?_ <;> intro hg <;> (first | (exfalso; (try simp only [decide_eq_true_eq, decide_eq_false_iff_not] at hg); omega) | rw [hg])) | fail)
      exact nx_loop (i + 1) (by omega) (by omega) (sub_z)
    have hlt : ¬ (i : Int) < ((byD (d.f1)).length : Int) := by rw [byD_len]; omega
    repeat' (first | (refine vs_pol8 (fun _ => ?_)) | (refine vs_poset ?_; simp only [blurT, blurS, blurV, blurVs]) | refine vs_po ?_ | fail | refine nzl ?_ | refine nzd ?_ | ((first | with_reducible refine vl_id ?_ | with_reducible refine vd_id ?_); first | fail) | refine nzo ?_ | refine nc ?_ ?_ | (with_reducible intro _ <;> (try (exfalso; omega))) | refine vs_eqnil ?_ | refine vs_nenil ?_ | (refine nd ?_ ?_ <;> intro hg <;> (first | (exfalso; (try simp only [decide_eq_true_eq, decide_eq_false_iff_not] at hg); omega) | rw [hg])) | fail)
    refine vw_loop (fun i : Nat => spI d d.f2 (0 + 1 + 1) i) (fun i => i ≤ (d.f2).length) (fun i => (d.f2).length - i) 0 (sub_z) (Nat.zero_le _) fun i hi => ?_
    refine vw_plen 3 rfl fun hlen => ?_
    rcases Nat.lt_or_ge i (d.f2).length with h | h
    · obtain ⟨n, hx'⟩ := byD_at d.f2 i h
      have hlt : (i : Int) < ((byD (d.f2)).length : Int) := by rw [byD_len]; omega
      repeat' (first | (refine vs_pol8 (fun _ => ?_)) | (refine vs_poset ?_; simp only [blurT, blurS, blurV, blurVs]) | refine vs_po ?_ | fail | refine nzl ?_ | refine nzd ?_ | ((first | with_reducible refine vl_id ?_ | with_reducible refine vd_id ?_); first | fail) | refine nzo ?_ | refine nc ?_ ?_ | (with_reducible intro _ <;> (try (exfalso; omega))) | refine vs_eqnil ?_ | refine vs_nenil ?_ | (refine nd ?_ ?_ <;> intro hg <;> (first | (exfalso; (try simp only [decide_eq_true_eq, decide_eq_false_iff_not] at hg); omega) | rw [hg])) | fail)
      exact nx_loop (i + 1) (by omega) (by omega) (sub_z)
    have hlt : ¬ (i : Int) < ((byD (d.f2)).length : Int) := by rw [byD_len]; omega
    repeat' (first | (refine vs_pol8 (fun _ => ?_)) | (refine vs_poset ?_; simp only [blurT, blurS, blurV, blurVs]) | refine vs_po ?_ | fail | refine nzl ?_ | refine nzd ?_ | ((first | with_reducible refine vl_id ?_ | with_reducible refine vd_id ?_); first | fail) | refine nzo ?_ | refine nc ?_ ?_ | (with_reducible intro _ <;> (try (exfalso; omega))) | refine vs_eqnil ?_ | refine vs_nenil ?_ | (refine nd ?_ ?_ <;> intro hg <;> (first | (exfalso; (try simp only [decide_eq_true_eq, decide_eq_false_iff_not] at hg); omega) | rw [hg])) | fail)
    refine vw_loop (fun i : Nat => spI d d.f3 (0 + 1 + 1 + 1) i) (fun i => i ≤ (d.f3).length) (fun i => (d.f3).length - i) 0 (sub_z) (Nat.zero_le _) fun i hi => ?_
    refine vw_plen 3 rfl fun hlen => ?_
    rcases Nat.lt_or_ge i (d.f3).length with h | h
    · obtain ⟨n, hx'⟩ := byD_at d.f3 i h
      have hlt : (i : Int) < ((byD (d.f3)).length : Int) := by rw [byD_len]; omega
      repeat' (first | (refine vs_pol8 (fun _ => ?_)) | (refine vs_poset ?_; simp only [blurT, blurS, blurV, blurVs]) | refine vs_po ?_ | fail | refine nzl ?_ | refine nzd ?_ | ((first | with_reducible refine vl_id ?_ | with_reducible refine vd_id ?_); first | fail) | refine nzo ?_ | refine nc ?_ ?_ | (with_reducible intro _ <;> (try (exfalso; omega))) | refine vs_eqnil ?_ | refine vs_nenil ?_ | (refine nd ?_ ?_ <;> intro hg <;> (first | (exfalso; (try simp only [decide_eq_true_eq, decide_eq_false_iff_not] at hg); omega) | rw [hg])) | fail)
      exact nx_loop (i + 1) (by omega) (by omega) (sub_z)
    have hlt : ¬ (i : Int) < ((byD (d.f3)).length : Int) := by rw [byD_len]; omega
    repeat' (first | (refine vs_pol8 (fun _ => ?_)) | (refine vs_poset ?_; simp only [blurT, blurS, blurV, blurVs]) | refine vs_po ?_ | fail | refine nzl ?_ | refine nzd ?_ | ((first | with_reducible refine vl_id ?_ | with_reducible refine vd_id ?_); first | fail) | refine nzo ?_ | refine nc ?_ ?_ | (with_reducible intro _ <;> (try (exfalso; omega))) | refine vs_eqnil ?_ | refine vs_nenil ?_ | (refine nd ?_ ?_ <;> intro hg <;> (first | (exfalso; (try simp only [decide_eq_true_eq, decide_eq_false_iff_not] at hg); omega) | rw [hg])) | fail)
    exact nx_cut () trivial (sub_z)
  · repeat' (first | (refine vs_pol8 (fun _ => ?_)) | (refine vs_poset ?_; simp only [blurT, blurS, blurV, blurVs]) | refine vs_po ?_ | fail | refine nzl ?_ | refine nzd ?_ | ((first | with_reducible refine vl_id ?_ | with_reducible refine vd_id ?_); first | fail) | refine nzo ?_ | refine nc ?_ ?_ | (with_reducible intro _ <;> (try (exfalso; omega))) | refine vs_eqnil ?_ | refine vs_nenil ?_ | (refine nd ?_ ?_ <;> intro hg <;> (first | (exfalso; (try simp only [decide_eq_true_eq, decide_eq_false_iff_not] at hg); omega) | rw [hg])) | fail)
    refine vw_loop (fun j : Nat => ⟨[(29, .d (.lit (.int .i64 j))), (28, .d (.lit (.int .i64 (d.waits.map opN).length))), (27, .po false (.sl false true (d.waits.map opN))), (1, .ptr 0 0)], [.c 0 0 (spC d)], 1⟩) (fun j => j ≤ d.waits.length) (fun j => d.waits.length - j) 0 (sub_z) (Nat.zero_le _) fun j hj => ?_
    refine vw_plen 27 rfl fun hlen => ?_
    have hlm : (d.waits.map opN).length = d.waits.length := List.length_map _
    rcases Nat.lt_or_ge j d.waits.length with h | h
    · have hx : (d.waits.map opN)[((j : Nat) : Int).toNat]? = some (opN d.waits[j]) := by simp [h]
      have hlt : (j : Int) < ((d.waits.map opN).length : Int) := by rw [hlm]; omega
      generalize d.waits[j] = x at *
      simp only [opN] at hx
      repeat' (first | (refine vs_pol8 (fun _ => ?_)) | (refine vs_poset ?_; simp only [blurT, blurS, blurV, blurVs]) | refine vs_po ?_ | fail | refine nzl ?_ | refine nzd ?_ | ((first | with_reducible refine vl_id ?_ | with_reducible refine vd_id ?_); first | fail) | refine nzo ?_ | refine nc ?_ ?_ | (with_reducible intro _ <;> (try (exfalso; omega))) | refine vs_eqnil ?_ | refine vs_nenil ?_ | (refine nd ?_ ?_ <;> intro hg <;> (first | (exfalso; (try simp only [decide_eq_true_eq, decide_eq_false_iff_not] at hg); omega) | rw [hg])) | fail)
      refine vw_loop (fun i : Nat => spJ d x j i) (fun i => i ≤ x.b.length) (fun i => x.b.length - i) 0 (sub_z) (Nat.zero_le _) fun i hi => ?_
      have hxl := byD_len x.b
      show VW _ _ _ (spJ d x j i) _
      refine vw_plen 34 rfl fun hlen2 => ?_
      rcases Nat.lt_or_ge i x.b.length with h2 | h2
      · obtain ⟨n, hx'⟩ := byD_at x.b i h2
        have hlt2 : (i : Int) < ((byD x.b).length : Int) := by rw [byD_len]; omega
        repeat' (first | (refine vs_pol8 (fun _ => ?_)) | (refine vs_poset ?_; simp only [blurT, blurS, blurV, blurVs]) | refine vs_po ?_ | fail | refine nzl ?_ | refine nzd ?_ | ((first | with_reducible refine vl_id ?_ | with_reducible refine vd_id ?_); first | fail) | refine nzo ?_ | refine nc ?_ ?_ | (with_reducible intro _ <;> (try (exfalso; omega))) | refine vs_eqnil ?_ | refine vs_nenil ?_ | (refine nd ?_ ?_ <;> intro hg <;> (first | (exfalso; (try simp only [decide_eq_true_eq, decide_eq_false_iff_not] at hg); omega) | rw [hg])) | fail)
        exact nx_loop (i + 1) (by omega) (by omega) (sub_z)
      · have hlt2 : ¬ (i : Int) < ((byD x.b).length : Int) := by rw [byD_len]; omega
        repeat' (first | (refine vs_pol8 (fun _ => ?_)) | (refine vs_poset ?_; simp only [blurT, blurS, blurV, blurVs]) | refine vs_po ?_ | fail | refine nzl ?_ | refine nzd ?_ | ((first | with_reducible refine vl_id ?_ | with_reducible refine vd_id ?_); first | fail) | refine nzo ?_ | refine nc ?_ ?_ | (with_reducible intro _ <;> (try (exfalso; omega))) | refine vs_eqnil ?_ | refine vs_nenil ?_ | (refine nd ?_ ?_ <;> intro hg <;> (first | (exfalso; (try simp only [decide_eq_true_eq, decide_eq_false_iff_not] at hg); omega) | rw [hg])) | fail)
        exact nx_loop (j + 1) (by omega) (by omega) (sub_z)
    · have hlt : ¬ (j : Int) < ((d.waits.map opN).length : Int) := by rw [hlm]; omega
      repeat' (first | (refine vs_pol8 (fun _ => ?_)) | (refine vs_poset ?_; simp only [blurT, blurS, blurV, blurVs]) | refine vs_po ?_ | fail | refine nzl ?_ | refine nzd ?_ | ((first | with_reducible refine vl_id ?_ | with_reducible refine vd_id ?_); first | fail) | refine nzo ?_ | refine nc ?_ ?_ | (with_reducible intro _ <;> (try (exfalso; omega))) | refine vs_eqnil ?_ | refine vs_nenil ?_ | (refine nd ?_ ?_ <;> intro hg <;> (first | (exfalso; (try simp only [decide_eq_true_eq, decide_eq_false_iff_not] at hg); omega) | rw [hg])) | fail)
      rfl
end Go.Proofs.Ytjfaihpiohccbaa
