/- Walks by data and names, part 19: Layer 22, by V: the law's own functions. Layer 22: what is kept, plainly. Layer 22: fuses, and fronts, plainly. -/
import Derived.Test.YtjfaihpiohccbaaPk18
namespace Go.Proofs.Ytjfaihpiohccbaa
open Go.RowKit
set_option maxRecDepth 10000
set_option maxHeartbeats 4000000
theorem lsync_v : VP Try.prog 19 [] (· = .ret (.agg [.lit (.int .i64 4), .lit (.int .i64 0), .lit (.slice none 0 0)])) := by
  refine vp_of Try.func19 rfl Try.ntmps19 rfl Try.results19 fun B => ?_
  repeat' (first | fail | fail | refine nzl ?_ | refine nzd ?_ | ((first | with_reducible refine vl_id ?_ | with_reducible refine vd_id ?_); first | fail) | refine nzo ?_ | refine nc ?_ ?_ | (with_reducible intro _ <;> (try (exfalso; omega))) | refine vs_eqnil ?_ | refine vs_nenil ?_ | (refine nd ?_ ?_ <;> intro hg <;> (first | (exfalso; (try simp only [decide_eq_true_eq, decide_eq_false_iff_not] at hg); omega) | rw [hg])) | fail)
  all_goals rfl
theorem lput_v (b : List UInt8) : VP Try.prog 37 [.sl false false (byD b)] (· = .ret (.agg [.lit (.int .i64 1), .lit (.int .i64 0), .sl false false (byD b)])) := by
  refine vp_of Try.func37 rfl Try.ntmps37 rfl Try.results37 fun B => ?_
  repeat' (first | fail | fail | refine nzl ?_ | refine nzd ?_ | ((first | with_reducible refine vl_id ?_ | with_reducible refine vd_id ?_); first | fail) | refine nzo ?_ | refine nc ?_ ?_ | (with_reducible intro _ <;> (try (exfalso; omega))) | refine vs_eqnil ?_ | refine vs_nenil ?_ | (refine nd ?_ ?_ <;> intro hg <;> (first | (exfalso; (try simp only [decide_eq_true_eq, decide_eq_false_iff_not] at hg); omega) | rw [hg])) | fail)
  all_goals rfl
theorem new_v : VP Try.prog 35 [] (· = .ret (.agg [.lit (.slice none 0 0), .lit (.slice none 0 0), .lit (.slice none 0 0), .lit (.slice none 0 0), .lit (.int .i64 0), .lit (.slice none 0 0), .lit (.bool false), .lit (.int .i64 0)])) := by
  refine vp_of Try.func35 rfl Try.ntmps35 rfl Try.results35 fun B => ?_
  repeat' (first | fail | fail | refine nzl ?_ | refine nzd ?_ | ((first | with_reducible refine vl_id ?_ | with_reducible refine vd_id ?_); first | fail) | refine nzo ?_ | refine nc ?_ ?_ | (with_reducible intro _ <;> (try (exfalso; omega))) | refine vs_eqnil ?_ | refine vs_nenil ?_ | (refine nd ?_ ?_ <;> intro hg <;> (first | (exfalso; (try simp only [decide_eq_true_eq, decide_eq_false_iff_not] at hg); omega) | rw [hg])) | fail)
  all_goals rfl
theorem clone_v (b : List UInt8) (hb : b.length ≤ 1000000000) : VP Try.prog 38 [.sl false false (byD b)] (· = .ret (.sl false true (byD b))) := by
  have hl := byD_len b
  refine VP.le ?_
  refine vp_of Try.func38 rfl Try.ntmps38 rfl Try.results38 fun B => ?_
  repeat' (first | fail | fail | refine nzl ?_ | refine nzd ?_ | ((first | with_reducible refine vl_id ?_ | with_reducible refine vd_id ?_); first | fail) | refine nzo ?_ | refine nc ?_ ?_ | (with_reducible intro _ <;> (try (exfalso; omega))) | refine vs_eqnil ?_ | refine vs_nenil ?_ | (refine nd ?_ ?_ <;> intro hg <;> (first | (exfalso; (try simp only [decide_eq_true_eq, decide_eq_false_iff_not] at hg); omega) | rw [hg])) | fail)
  · rename_i h1 h2
    have : b = [] := List.eq_nil_of_length_eq_zero (by have := h1 h2; omega)
    subst this; exact de_nil
  · exact de_refl _
def cutOp (o : DOp) : DOp := { o with b := o.b.take 100 }
def cutOps (l : List DOp) : List DOp := (l.take 30).map cutOp
theorem cutOp_len (o : DOp) : (cutOp o).b.length ≤ 100 := by simp only [cutOp, List.length_take]; omega
theorem cutOps_len (l : List DOp) : ∀ o ∈ cutOps l, o.b.length ≤ 100 := fun o ho => by
  obtain ⟨x, _, rfl⟩ := List.mem_map.1 ho; exact cutOp_len x
theorem cutOps_few (l : List DOp) : (cutOps l).length ≤ 30 := by simp [cutOps]; omega
theorem cutT (b : List UInt8) (n : Nat) : cutL none (some (min (b.length : Int) (n : Int))) (byD b) = byD (b.take n) := by
  have := cutL_take b (n : Int) (by omega)
  rw [Int.min_comm] at this
  simpa using this
theorem cutM {α : Type} (f : α → List D) (l : List α) (n : Nat) : cutL none (some (min ((l.map f).length : Int) (n : Int))) (l.map f) = (l.take n).map f := by
  rw [cutL_eq]
  simp only [Option.getD_some, Option.getD_none, Int.toNat_zero, List.drop_zero, ← List.map_take, List.length_map]
  congr 1
  rw [show (min (l.length : Int) (n : Int)).toNat = min n l.length by omega]
  simp [List.take_eq_take_iff]
theorem lops_v (l : List DOp) : VP Try.prog 22 [.sl false false (l.map opD)] (· = .ret (.sl false true ((cutOps l).map opN))) := by
  refine VP.le ?_
  refine vp_of Try.func22 rfl Try.ntmps22 rfl Try.results22 fun B => ?_
  have hlm : (l.map opD).length = l.length := List.length_map _
  have hcut := cutM opD l 30
  have hml : (l.take 30).length ≤ 30 := by simp; omega
  unfold cutOps
  repeat' (first | fail | fail | refine nzl ?_ | refine nzd ?_ | ((first | with_reducible refine vl_id ?_ | with_reducible refine vd_id ?_); first | fail) | refine nzo ?_ | refine nc ?_ ?_ | (with_reducible intro _ <;> (try (exfalso; omega))) | refine vs_eqnil ?_ | refine vs_nenil ?_ | (refine nd ?_ ?_ <;> intro hg <;> (first | (exfalso; (try simp only [decide_eq_true_eq, decide_eq_false_iff_not] at hg); omega) | rw [hg])) | fail)
  rw [show ((30 : Nat) : Int) = 30 from rfl] at hcut
  simp only [hcut]
  clear hcut
  generalize l.take 30 = m at *
  refine vw_nilT 3 opT 3 rfl ?_
  refine vw_each 10 m opD (fun (i : Nat) (_ : Unit) => ⟨[(12, I .i64 i), (11, I .i64 (m.map opD).length), (10, .d (.sl false false (m.map opD))), (3, .row 0 0)], [.r true true 0 0 opT 3 (((m.take i).map cutOp).map opN)], 1⟩) (fun i _ => True) () (sub_z) trivial (fun i y x hT hi hx hx' hlt hlm hlen hdr => ?_) (fun y hT hlt hlm => ?_)
  · have htk : m.take (i + 1) = m.take i ++ [x] := by rw [List.take_add_one, hx]; rfl
    have htl : (((m.take i).map cutOp).map opN).length ≤ 30 := by simp; omega
    have hbl := byD_len x.b
    have hct := cutT x.b 100
    rw [← hbl, show ((100 : Nat) : Int) = 100 from rfl] at hct
    have c := clone_v (x.b.take 100) (by simp; omega)
    simp only [opD] at hx'
    repeat' (first | fail | fail | refine nzl ?_ | refine nzd ?_ | ((first | with_reducible refine vl_id ?_ | with_reducible refine vd_id ?_); first | (rw [hct]; first | refine cz (c) ?_)) | refine nzo ?_ | refine nc ?_ ?_ | (with_reducible intro _ <;> (try (exfalso; omega))) | refine vs_eqnil ?_ | refine vs_nenil ?_ | (refine nd ?_ ?_ <;> intro hg <;> (first | (exfalso; (try simp only [decide_eq_true_eq, decide_eq_false_iff_not] at hg); omega) | rw [hg])) | fail)
    refine nx_each () hi trivial ?_
    simp only [htk, List.map_append, List.map_cons, List.map_nil]
    exact (sub_zr [(0, _, _)])
  · repeat' (first | fail | fail | refine nzl ?_ | refine nzd ?_ | ((first | with_reducible refine vl_id ?_ | with_reducible refine vd_id ?_); first | fail) | refine nzo ?_ | refine nc ?_ ?_ | (with_reducible intro _ <;> (try (exfalso; omega))) | refine vs_eqnil ?_ | refine vs_nenil ?_ | (refine nd ?_ ?_ <;> intro hg <;> (first | (exfalso; (try simp only [decide_eq_true_eq, decide_eq_false_iff_not] at hg); omega) | rw [hg])) | fail)
    rw [List.take_of_length_le (Nat.le_refl _)]
    exact de_refl _
def Dk.own (d : Dk) : Dk := ⟨d.f0.take 300, d.f1.take 300, d.f2.take 300, d.f3.take 300, d.head, cutOps d.waits, d.down, d.fuse⟩
theorem lown_v (d : Dk) : VP Try.prog 10 [.agg (dkD d)] (· = .ret (.agg (dkN d.own))) := by
  refine vp_of Try.func10 rfl Try.ntmps10 rfl Try.results10 fun B => ?_
  have h0 := byD_len d.f0
  have h1 := byD_len d.f1
  have h2 := byD_len d.f2
  have h3 := byD_len d.f3
  have t0 := cutT d.f0 300
  have t1 := cutT d.f1 300
  have t2 := cutT d.f2 300
  have t3 := cutT d.f3 300
  rw [← h0, show ((300 : Nat) : Int) = 300 from rfl] at t0
  rw [← h1, show ((300 : Nat) : Int) = 300 from rfl] at t1
  rw [← h2, show ((300 : Nat) : Int) = 300 from rfl] at t2
  rw [← h3, show ((300 : Nat) : Int) = 300 from rfl] at t3
  have c0 := clone_v (d.f0.take 300) (by simp; omega)
  have c1 := clone_v (d.f1.take 300) (by simp; omega)
  have c2 := clone_v (d.f2.take 300) (by simp; omega)
  have c3 := clone_v (d.f3.take 300) (by simp; omega)
  have co := lops_v d.waits
  simp only [dkD]
  repeat' (first | fail | fail | refine nzl ?_ | refine nzd ?_ | ((first | with_reducible refine vl_id ?_ | with_reducible refine vd_id ?_); first | refine cz (co) ?_) | refine nzo ?_ | refine nc ?_ ?_ | (with_reducible intro _ <;> (try (exfalso; omega))) | refine vs_eqnil ?_ | refine vs_nenil ?_ | (refine nd ?_ ?_ <;> intro hg <;> (first | (exfalso; (try simp only [decide_eq_true_eq, decide_eq_false_iff_not] at hg); omega) | rw [hg])) | fail)
  refine vw_rounds 5 ?_
  repeat' (first | fail | fail | refine nzl ?_ | refine nzd ?_ | ((first | with_reducible refine vl_id ?_ | with_reducible refine vd_id ?_); first | (rw [t0]; first | refine cz (c0) ?_) | (rw [t1]; first | refine cz (c1) ?_) | (rw [t2]; first | refine cz (c2) ?_) | (rw [t3]; first | refine cz (c3) ?_)) | refine nzo ?_ | refine nc ?_ ?_ | (with_reducible intro _ <;> (try (exfalso; omega))) | refine vs_eqnil ?_ | refine vs_nenil ?_ | (refine nd ?_ ?_ <;> intro hg <;> (first | (exfalso; (try simp only [decide_eq_true_eq, decide_eq_false_iff_not] at hg); omega) | rw [hg])) | fail)
  all_goals rfl
end Go.Proofs.Ytjfaihpiohccbaa

namespace Go.Proofs.Ytjfaihpiohccbaa
open Go.RowKit
set_option maxRecDepth 10000
set_option maxHeartbeats 4000000
theorem file4 {P : Int → Prop} (h0 : P 0) (h1 : P 1) (h2 : P 2) (h3 : P 3) : ∀ f, 0 ≤ f → f < 4 → P f := fun f a b => by
  have h4 : f = 0 ∨ f = 1 ∨ f = 2 ∨ f = 3 := by omega
  rcases h4 with rfl | rfl | rfl | rfl <;> assumption
theorem done_file (d : Dk) (o : DOp) (hf : 0 ≤ o.f ∧ o.f < 4) : ∀ f, 0 ≤ f → f < 4 → (d.done o).file f = if o.f = f then (if o.k = 1 then d.file f ++ o.b else if o.k = 2 then [] else d.file f) else d.file f := fun f h0 h1 => by
  obtain ⟨k, g, b⟩ := o
  simp only at hf ⊢
  have hg : g = 0 ∨ g = 1 ∨ g = 2 ∨ g = 3 := by omega
  have h4 : f = 0 ∨ f = 1 ∨ f = 2 ∨ f = 3 := by omega
  by_cases k1 : k = 1
  · subst k1; rcases hg with rfl | rfl | rfl | rfl <;> rcases h4 with rfl | rfl | rfl | rfl <;> simp [Dk.done, Dk.put, Dk.file]
  · by_cases k2 : k = 2
    · subst k2; rcases hg with rfl | rfl | rfl | rfl <;> rcases h4 with rfl | rfl | rfl | rfl <;> simp [Dk.done, Dk.empty, Dk.file]
    · rcases hg with rfl | rfl | rfl | rfl <;> rcases h4 with rfl | rfl | rfl | rfl <;> simp [Dk.done, Dk.file, k1, k2]
theorem done_pre (d : Dk) (o : DOp) (hf : 0 ≤ o.f ∧ o.f < 4) {f : Int} (h0 : 0 ≤ f) (h1 : f < 4) {w : List UInt8} (h : w <+: d.file f) (ho : ¬ (o.k = 2 ∧ o.f = f)) : w <+: (d.done o).file f := by
  rw [done_file d o hf f h0 h1]
  split
  · rename_i e
    split
    · exact h.trans (List.prefix_append _ _)
    · split
      · rename_i k; exact absurd ⟨k, e⟩ ho
      · exact h
  · exact h
theorem doAll_pre {f : Int} (h0 : 0 ≤ f) (h1 : f < 4) {w : List UInt8} : ∀ (l : List DOp) (d : Dk), (∀ o ∈ l, (0 ≤ o.f ∧ o.f < 4) ∧ ¬ (o.k = 2 ∧ o.f = f)) → w <+: d.file f → w <+: (d.doAll l).file f
  | [], d, _, h => h
  | o :: l, d, hl, h => doAll_pre h0 h1 l (d.done o) (fun o ho => hl o (by simp [ho])) (done_pre d o (hl o (by simp)).1 h0 h1 h (hl o (by simp)).2)
/-- the operation that a fall tears -/
def tornL (k : Nat) (torn : Int) (l : List DOp) : List DOp := match l[k]? with
  | some o => if o.k = 1 then [o.cut torn] else []
  | none => []
theorem keptL_eq (torn : Int) (k : Nat) : ∀ (l : List DOp) (i : Nat), i ≤ k → keptL k torn i l = l.take (k - i) ++ tornL (k - i) torn l
  | [], i, _ => by simp [keptL, tornL]
  | o :: l, i, h => by
    simp only [keptL]
    by_cases e : i = k
    · subst e; simp [tornL]
    · rw [if_neg (by omega), if_neg (by omega), keptL_eq torn k l (i + 1) (by omega), show k - i = k - (i + 1) + 1 by omega]
      simp [tornL]
theorem keptL_nat (keep torn : Int) (h : 0 ≤ keep) (l : List DOp) : keptL keep torn 0 l = l.take keep.toNat ++ tornL keep.toNat torn l := by
  have := keptL_eq torn keep.toNat l 0 (Nat.zero_le _)
  rw [show ((keep.toNat : Nat) : Int) = keep by omega] at this
  simpa using this
theorem tornL_mem {k : Nat} {torn : Int} {l : List DOp} {o : DOp} (h : o ∈ tornL k torn l) : ∃ x ∈ l, l[k]? = some x ∧ x.k = 1 ∧ o = x.cut torn := by
  unfold tornL at h
  split at h
  · rename_i x hx
    split at h
    · rename_i hk; simp at h; exact ⟨x, List.mem_of_getElem? hx, hx, hk, h⟩
    · simp at h
  · simp at h
theorem keptL_mem {keep torn : Int} (hk : 0 ≤ keep) {l : List DOp} {o : DOp} (h : o ∈ keptL keep torn 0 l) : ∃ x ∈ l, o.k = x.k ∧ o.f = x.f := by
  rw [keptL_nat keep torn hk] at h
  rcases List.mem_append.1 h with h | h
  · exact ⟨o, List.mem_of_mem_take h, rfl, rfl⟩
  · obtain ⟨x, h1, _, _, rfl⟩ := tornL_mem h; exact ⟨x, h1, rfl, rfl⟩
theorem steps_take : ∀ (l : List DOp) (s : S4) (n : Nat), stepsOk s l = true → stepsOk s (l.take n) = true
  | [], s, n, _ => by simp [stepsOk]
  | o :: l, s, 0, _ => rfl
  | o :: l, s, n + 1, h => by
    simp only [stepsOk, List.take_succ_cons, Bool.and_eq_true] at h ⊢
    exact ⟨h.1, steps_take l _ n h.2⟩
theorem doAll_app (d : Dk) (l m : List DOp) : d.doAll (l ++ m) = (d.doAll l).doAll m := by simp [Dk.doAll, List.foldl_append]
theorem all_take {l : List DOp} (h : l.all mayD = true) (n : Nat) : (l.take n).all mayD = true := by
  rw [List.all_eq_true] at h ⊢; exact fun o ho => h o (List.mem_of_mem_take ho)
theorem done_sz1 (d : Dk) (o : DOp) (hk : o.k = 1) (hf : 0 ≤ o.f ∧ o.f < 4) : sz4 (d.done o) = aft o (sz4 d) := by
  obtain ⟨k, f, b⟩ := o
  simp only at hf hk
  subst hk
  have h4 : f = 0 ∨ f = 1 ∨ f = 2 ∨ f = 3 := by omega
  rcases h4 with rfl | rfl | rfl | rfl <;> simp [Dk.done, Dk.put, sz4, aft, aft1]
theorem aft_cut_in (s : S4) (o : DOp) (t : Int) (hk : o.k = 1) (hf : 0 ≤ o.f ∧ o.f < 4) (hs : s.in) (h : (aft o s).in) : (aft (o.cut t) s).in := by
  obtain ⟨k, f, b⟩ := o
  simp only at hf hk
  subst hk
  have h4 : f = 0 ∨ f = 1 ∨ f = 2 ∨ f = 3 := by omega
  have hl : (b.take t.toNat).length ≤ b.length := by simp; omega
  rcases h4 with rfl | rfl | rfl | rfl <;> simp only [DOp.cut, aft, aft1, S4.in, if_true, if_false, Int.reduceEq, show ¬ ((1 : Int) = 2) by omega] at h hs ⊢ <;> omega
theorem steps_at : ∀ (l : List DOp) (s : S4) (n : Nat) (o : DOp), stepsOk s l = true → l[n]? = some o → fits ((aft o (aftL s (l.take n))).get o.f) = true
  | [], s, n, o, _, h => by simp at h
  | x :: l, s, 0, o, hs, h => by simp at h; subst h; simp only [stepsOk, Bool.and_eq_true] at hs; exact hs.1
  | x :: l, s, n + 1, o, hs, h => by
    simp only [stepsOk, Bool.and_eq_true] at hs
    exact steps_at l _ n o hs.2 (by simpa using h)
/-- what a fall leaves is no more than may be -/
theorem kept_in (d : Dk) (h : checkB d = true) (keep torn : Int) (hk : 0 ≤ keep) : (sz4 (d.doAll (keptL keep torn 0 d.waits))).in ∧ isFile (d.doAll (keptL keep torn 0 d.waits)).head = true := by
  have hc := h
  simp only [checkB, flatK, Bool.and_eq_true, decide_eq_true_eq] at h
  have hin := fits4_in d h.1.2
  have hm : d.waits.all mayD = true := h.1.1.2
  rw [keptL_nat keep torn hk, doAll_app]
  have h1 := doAll_sz (d.waits.take keep.toNat) d (all_take hm _)
  have h2 := aftL_in _ _ hin (all_take hm keep.toNat) (steps_take _ _ keep.toNat h.2)
  have h3 := doAll_head _ d (all_take hm keep.toNat) h.1.1.1.1.1.1.1
  cases ht : tornL keep.toNat torn d.waits with
  | nil =>
    refine ⟨?_, h3⟩
    show (sz4 (d.doAll _)).in
    rw [h1]; exact h2
  | cons o r =>
    obtain ⟨x, hx, hx2, hx3, rfl⟩ := tornL_mem (o := o) (by rw [ht]; simp)
    have hr : r = [] := by
      unfold tornL at ht
      rw [hx2] at ht
      simp only [hx3, if_true] at ht
      injection ht with _ ht; exact ht.symm
    subst hr
    have hkf := (may_kf x (check_may d hc x hx)).2
    show (sz4 ((d.doAll _).done (x.cut torn))).in ∧ isFile ((d.doAll _).done (x.cut torn)).head = true
    rw [done_sz1 _ (x.cut torn) hx3 hkf, h1]
    refine ⟨aft_cut_in _ x torn hx3 hkf h2 (aft_in _ x h2 (steps_at _ _ _ x h.2 hx2) hkf), ?_⟩
    simp only [Dk.done, DOp.cut, hx3, if_true, Dk.put]
    split <;> (try split) <;> (try split) <;> exact h3
/-- a disk that fell, and rose -/
def Dk.rose (d : Dk) (keep torn : Int) : Dk := { (d.doAll (keptL keep torn 0 d.waits)).clear with down := false, fuse := 0 }
theorem rose_check (d : Dk) (h : checkB d = true) (keep torn : Int) (hk : 0 ≤ keep) : checkB (d.rose keep torn) = true := by
  obtain ⟨h1, h2⟩ := kept_in d h keep torn hk
  exact check_mk _ (by simp [flatK, Dk.rose, Dk.clear, h2]) rfl h1 rfl
theorem fell_check (d : Dk) (h : checkB d = true) (keep torn : Int) (hk : 0 ≤ keep) : checkB { (d.doAll (keptL keep torn 0 d.waits)).clear with down := true, fuse := 0 } = true := by
  obtain ⟨h1, h2⟩ := kept_in d h keep torn hk
  exact check_mk _ (by simp [flatK, Dk.clear, h2]) rfl h1 rfl
theorem fall_eq (d : Dk) (h : checkB d = true) (keep torn : Int) : d.fall keep torn = if 0 ≤ keep ∧ 0 ≤ torn then ({ (d.doAll (keptL keep torn 0 d.waits)).clear with down := true, fuse := 0 }, 0) else (.zero, 2) := by
  unfold Dk.fall
  rw [h]
  by_cases h1 : 0 ≤ keep <;> by_cases h2 : 0 ≤ torn <;> simp [h1, h2]
theorem rise_eq (d : Dk) (h : checkB d = true) (keep torn : Int) (hk : 0 ≤ keep) : Dk.rise { (d.doAll (keptL keep torn 0 d.waits)).clear with down := true, fuse := 0 } = (d.rose keep torn, 0) := by
  unfold Dk.rise
  rw [fell_check d h keep torn hk]
  rfl
theorem read_still (d : Dk) (h : checkB d = true) (hw : d.waits = []) : ∀ f, 0 ≤ f → f < 4 → d.readE f = (d.file f, 0) := fun f h0 h1 => by
  have hf : isFile f = true := by simp [isFile]; omega
  simp only [Dk.readE, h, hf, Dk.seen, hw]
  simp only [Bool.true_eq_false, if_false]
  rfl
structure KInv (w d : Dk) (em : S4) : Prop where
  ck : checkB d = true
  pre : ∀ f, 0 ≤ f → f < 4 → em.get f = 0 → w.file f <+: d.file f ∧ ∀ o ∈ d.waits, ¬ (o.k = 2 ∧ o.f = f)
theorem KInv.here {w : Dk} {em : S4} (h : checkB w = true) (hw : w.waits = []) : KInv w w em := ⟨h, fun f _ _ _ => ⟨List.prefix_refl _, by rw [hw]; simp⟩⟩
theorem do_ok {d n : Dk} {o : DOp} {e : Int} (hc : checkB d = true) (h : d.doOp o = (n, e)) (he : e = 321 ∨ e = 0) : ∃ up, d.step o = .ok up n ∧ (e = 0 ↔ up = true) := by
  unfold Dk.doOp at h
  rw [hc] at h
  simp only [Bool.true_eq_false, if_false] at h
  split at h
  · rename_i e' hs
    cases h
    exfalso
    unfold Dk.step at hs
    split at hs
    · cases hs; omega
    · split at hs
      · cases hs
      · split at hs
        · cases hs; omega
        · split at hs
          · cases hs
          · split at hs <;> cases hs
  · rename_i up d' hs
    cases h
    exact ⟨up, hs, by cases up <;> simp⟩
theorem step_shape {d n : Dk} {o : DOp} {up : Bool} (_ : checkB d = true) (h : d.step o = .ok up n) : (up = false ∧ n.waits = d.waits ∧ (∀ f, n.file f = d.file f)) ∨
    (up = true ∧ syncB o = true ∧ n.waits = [] ∧ ∀ f, n.file f = (d.doAll d.waits).file f) ∨ (up = true ∧ mayD o = true ∧ n.waits = d.waits ++ [o] ∧ ∀ f, n.file f = d.file f) := by
  unfold Dk.step at h
  split at h
  · cases h
  · rename_i hm
    split at h
    · cases h; exact .inl ⟨rfl, rfl, fun _ => rfl⟩
    · split at h
      · cases h
      · split at h
        · cases h; exact .inl ⟨rfl, rfl, fun _ => rfl⟩
        · split at h
          · rename_i hs
            cases h
            refine .inr (.inl ⟨rfl, hs, rfl, fun f => ?_⟩)
            rw [keptL_all _ _ _ _ (by omega)]
            have key : ∀ (l : List DOp) (d : Dk) (z : Int), (Dk.doAll { d with fuse := z } l) = { d.doAll l with fuse := z } := by
              intro l
              induction l with
              | nil => intro d z; rfl
              | cons o l ih =>
                intro d z
                show (Dk.doAll (Dk.done { d with fuse := z } o) l) = _
                have : Dk.done { d with fuse := z } o = { d.done o with fuse := z } := by
                  simp only [Dk.done, Dk.put, Dk.empty]
                  split <;> (try split) <;> (try split) <;> (try split) <;> (try split) <;> rfl
                rw [this, ih]; rfl
            rw [key]; rfl
          · rename_i hs
            cases h
            refine .inr (.inr ⟨rfl, ?_, rfl, fun _ => rfl⟩)
            simp only [Bool.not_eq_true] at hs
            rw [hs] at hm
            simpa using hm
theorem KInv.step {w d n : Dk} {em em' : S4} {o : DOp} {e : Int} (h : KInv w d em) (he : d.doOp o = (n, e)) (h2 : e = 321 ∨ e = 0) (hem : ∀ f, 0 ≤ f → f < 4 → em'.get f = 0 → em.get f = 0 ∧ ¬ (o.k = 2 ∧ o.f = f)) : KInv w n em' := by
  obtain ⟨up, hs, _⟩ := do_ok h.ck he h2
  refine ⟨step_check d o up n h.ck hs, fun f h0 h1 hz => ?_⟩
  obtain ⟨k1, k2⟩ := hem f h0 h1 hz
  obtain ⟨p1, p2⟩ := h.pre f h0 h1 k1
  rcases step_shape h.ck hs with ⟨_, e1, e2⟩ | ⟨_, _, e1, e2⟩ | ⟨_, _, e1, e2⟩
  · rw [e1, e2]; exact ⟨p1, p2⟩
  · rw [e1, e2]; exact ⟨doAll_pre h0 h1 _ _ (fun x hx => ⟨(may_kf x (check_may d h.ck x hx)).2, p2 x hx⟩) p1, by simp⟩
  · rw [e1, e2]
    refine ⟨p1, fun x hx => ?_⟩
    rcases List.mem_append.1 hx with hx | hx
    · exact p2 x hx
    · simp at hx; subst hx; exact k2
theorem KInv.rose {w d : Dk} {em : S4} (h : KInv w d em) (keep torn : Int) (hk : 0 ≤ keep) : ∀ f, 0 ≤ f → f < 4 → em.get f = 0 → w.file f <+: (d.rose keep torn).file f := fun f h0 h1 hz => by
  obtain ⟨p1, p2⟩ := h.pre f h0 h1 hz
  show _ <+: (d.doAll (keptL keep torn 0 d.waits)).file f
  refine doAll_pre h0 h1 _ _ (fun o ho => ?_) p1
  obtain ⟨x, hx, e1, e2⟩ := keptL_mem hk ho
  rw [e1, e2]
  exact ⟨(may_kf x (check_may d h.ck x hx)).2, p2 x hx⟩
/-- synced -/
theorem sync_ok {d n : Dk} (hc : checkB d = true) (h : d.doOp ⟨4, 0, []⟩ = (n, 0)) : checkB n = true ∧ n.waits = [] := by
  obtain ⟨up, hs, hu⟩ := do_ok hc h (.inr rfl)
  have : up = true := hu.1 rfl
  subst this
  refine ⟨step_check _ _ _ _ hc hs, ?_⟩
  rcases step_shape hc hs with ⟨h, _⟩ | ⟨_, _, e1, _⟩ | ⟨_, h, _⟩
  · cases h
  · exact e1
  · simp [mayD, mayOp] at h
theorem do_none {d n : Dk} {o : DOp} {e : Int} (hc : checkB d = false) (h : d.doOp o = (n, e)) : e = 320 := by
  unfold Dk.doOp at h
  rw [hc] at h
  simp at h; omega
theorem own_wb (x : Dk) : ∀ o ∈ x.own.waits, o.b.length ≤ 1000000000 := fun o ho => by have := cutOps_len x.waits o ho; omega
end Go.Proofs.Ytjfaihpiohccbaa

namespace Go.Proofs.Ytjfaihpiohccbaa
open Go.RowKit
set_option maxRecDepth 10000
set_option maxHeartbeats 4000000
theorem done_fuse (d : Dk) (o : DOp) (z : Int) (u : Bool) (W : List DOp) : Dk.done { d with waits := W, down := u, fuse := z } o = { d.done o with waits := W, down := u, fuse := z } := by
  simp only [Dk.done, Dk.put, Dk.empty]
  split <;> (try split) <;> (try split) <;> (try split) <;> (try split) <;> rfl
theorem doAll_fuse (z : Int) (u : Bool) (W : List DOp) : ∀ (l : List DOp) (d : Dk), Dk.doAll { d with waits := W, down := u, fuse := z } l = { d.doAll l with waits := W, down := u, fuse := z }
  | [], d => rfl
  | o :: l, d => by
    show Dk.doAll (Dk.done _ o) l = { (d.done o).doAll l with waits := W, down := u, fuse := z }
    rw [done_fuse, doAll_fuse z u W l]
/-- an operation of a disk whose fuse does not burn -/
theorem step_free {d : Dk} (hd : d.down = false) (hf : d.fuse = 0) (o : DOp) : (∃ e, d.step o = .pan e ∧ ∀ m, Dk.step { d with fuse := m } o = .pan e) ∨
    ∃ d', d.step o = .ok true d' ∧ d'.down = false ∧ d'.fuse = 0 ∧ Dk.step { d with fuse := 1 } o = .ok false { d with down := true, fuse := 0 } ∧ ∀ m, 1 < m → Dk.step { d with fuse := m } o = .ok true { d' with fuse := m - 1 } := by
  obtain ⟨f0, f1, f2, f3, head, w, dn, fu⟩ := d
  simp only at hd hf
  subst hd hf
  obtain ⟨ff, hfit⟩ : ∃ ff, ∀ m, Dk.fits ⟨f0, f1, f2, f3, head, w, false, m⟩ o = ff := ⟨Dk.fits ⟨f0, f1, f2, f3, head, w, false, 0⟩ o, fun _ => rfl⟩
  obtain ⟨dd, hkey⟩ : ∃ dd : Dk, ∀ m, Dk.doAll ⟨f0, f1, f2, f3, head, w, false, m⟩ (keptL w.length 0 0 w) = { dd with waits := w, down := false, fuse := m } := ⟨Dk.doAll ⟨f0, f1, f2, f3, head, w, false, 0⟩ (keptL w.length 0 0 w), fun m => doAll_fuse m false w _ ⟨f0, f1, f2, f3, head, w, false, 0⟩⟩
  unfold Dk.step
  simp only [hfit, hkey]
  cases hA : (mayD o || syncB o) with
  | false => exact .inl ⟨2, by simp, fun m => by simp⟩
  | true =>
    cases hS : syncB o with
    | true =>
      right
      refine ⟨{ dd with waits := [], down := false, fuse := 0 }, by simp [Dk.clear, show max (-1 : Int) 0 = 0 from rfl], rfl, rfl, by simp, fun m hm => ?_⟩
      have h1 : ¬ m = 1 := by omega
      have h2 : max (m - 1) 0 = m - 1 := by omega
      simp [h1, h2, Dk.clear]
    | false =>
      cases ff with
      | false => exact .inl ⟨6, by simp, fun m => by simp⟩
      | true =>
        right
        refine ⟨⟨f0, f1, f2, f3, head, w ++ [o], false, 0⟩, by simp [show max (-1 : Int) 0 = 0 from rfl], rfl, rfl, by simp, fun m hm => ?_⟩
        have h1 : ¬ m = 1 := by omega
        have h2 : max (m - 1) 0 = m - 1 := by omega
        simp [h1, h2]
/-- what happens to a disk that is armed, by what happens to one that is not -/
theorem run_fuse : ∀ (l : List DOp) (d : Dk) (i : Nat) (m : Nat), d.down = false → d.fuse = 0 → 1 ≤ m → ∀ a k g, d.runL l i = (a, k, g) → i ≤ k ∧ g ≠ 321 ∧
    (k < i + m → ∃ b, Dk.runL { d with fuse := m } l i = (b, k, g) ∧ (g = 0 → b = { a with fuse := (i + m - k : Nat) } ∧ a.down = false)) ∧
    (i + m ≤ k → ∃ b, Dk.runL { d with fuse := m } l i = ({ b with down := true }, i + m - 1, 321) ∧ d.runL (l.take (m - 1)) i = (b, i + m - 1, 0))
  | [], d, i, m, hd, hf, hm, a, k, g, h => by
    simp only [Dk.runL, Prod.mk.injEq] at h
    obtain ⟨rfl, rfl, rfl⟩ := h
    refine ⟨Nat.le_refl _, by omega, fun _ => ⟨_, rfl, fun _ => ⟨?_, hd⟩⟩, fun h => by omega⟩
    rw [show i + m - i = m by omega]
  | o :: l, d, i, m, hd, hf, hm, a, k, g, h => by
    rcases step_free hd hf o with ⟨e, h1, h2⟩ | ⟨d', h1, h2, h3, h4, h5⟩
    · simp only [Dk.runL, h1, Prod.mk.injEq] at h
      obtain ⟨rfl, rfl, rfl⟩ := h
      have hne : e = 2 ∨ e = 6 := by
        unfold Dk.step at h1
        split at h1
        · cases h1; exact .inl rfl
        · split at h1
          · cases h1
          · split at h1
            · cases h1; exact .inr rfl
            · split at h1
              · cases h1
              · split at h1 <;> cases h1
      refine ⟨Nat.le_refl _, by omega, fun _ => ⟨_, by simp only [Dk.runL, h2 m]; rfl, fun hg => by omega⟩, fun h => by omega⟩
    · simp only [Dk.runL, h1, if_true] at h
      rcases Nat.lt_or_ge 1 m with hm1 | hm1
      · obtain ⟨k1, k2, k3, k4⟩ := run_fuse l d' (i + 1) (m - 1) h2 h3 (by omega) a k g h
        have hs := h5 m (by omega)
        have hr : Dk.runL { d with fuse := (m : Int) } (o :: l) i = Dk.runL { d' with fuse := ((m - 1 : Nat) : Int) } l (i + 1) := by
          simp only [Dk.runL, hs, if_true]
          rw [show (m : Int) - 1 = ((m - 1 : Nat) : Int) by omega]
        refine ⟨by omega, k2, fun hk => ?_, fun hk => ?_⟩
        · rw [hr]
          obtain ⟨b, q1, q2⟩ := k3 (by omega)
          refine ⟨b, q1, fun hg => ?_⟩
          obtain ⟨q3, q4⟩ := q2 hg
          rw [show i + 1 + (m - 1) - k = i + m - k by omega] at q3
          exact ⟨q3, q4⟩
        · rw [hr]
          obtain ⟨b, q1, q2⟩ := k4 (by omega)
          refine ⟨b, by rw [q1, show i + 1 + (m - 1) - 1 = i + m - 1 by omega], ?_⟩
          rw [show m - 1 = (m - 1 - 1) + 1 by omega, List.take_succ_cons]
          simp only [Dk.runL, h1, if_true]
          rw [q2]; exact congrArg (fun n => (b, n, (0 : Int))) (by omega)
      · have hm' : m = 1 := by omega
        subst hm'
        have hik : i + 1 ≤ k := by
          have := run_fuse l d' (i + 1) 1 h2 h3 (by omega) a k g h
          exact this.1
        have hg : g ≠ 321 := (run_fuse l d' (i + 1) 1 h2 h3 (by omega) a k g h).2.1
        refine ⟨by omega, hg, fun hk => by omega, fun _ => ⟨d, ?_, ?_⟩⟩
        · have h4' : Dk.step { d with fuse := ((1 : Nat) : Int) } o = .ok false { d with down := true, fuse := 0 } := h4
          simp only [Dk.runL, h4']
          rw [show i + 1 - 1 = i by omega]
          cases d; simp only at hf ⊢; subst hf; rfl
        · simp only [Nat.sub_self, List.take_zero, Dk.runL]
          rw [show i + 1 - 1 = i by omega]
end Go.Proofs.Ytjfaihpiohccbaa

namespace Go.Proofs.Ytjfaihpiohccbaa
open Go.RowKit
set_option maxRecDepth 10000
set_option maxHeartbeats 4000000
theorem sync_seen (d : Dk) (hc : checkB d = true) (hd : d.down = false) (hf : d.fuse = 0) : d.doOp ⟨4, 0, []⟩ = (d.seen, 0) := by
  have hs : d.step ⟨4, 0, []⟩ = .ok true d.seen := by
    have h1 : mayD ⟨4, 0, []⟩ = false := by decide
    have h2 : syncB ⟨4, 0, []⟩ = true := by decide
    have e : ({ d with fuse := max (d.fuse - 1) 0 } : Dk) = d := by
      cases d; simp only at hf; subst hf; rfl
    unfold Dk.step
    rw [e]
    simp only [h1, h2, hd, hf]
    rw [keptL_all _ _ _ _ (by omega)]
    simp [Dk.seen]
  simp only [Dk.doOp, hc, hs]; simp
theorem seen_flat (d : Dk) (h : d.waits = []) : d.seen = d := by
  unfold Dk.seen Dk.clear Dk.doAll
  rw [h]
  cases d; simp only at h; subst h; rfl
theorem head_of {d : Dk} (hc : checkB d = true) : d.headI = d.seen.head := by simp [Dk.headI, hc]
theorem read_of {d : Dk} (hc : checkB d = true) (f : Int) (h0 : 0 ≤ f) (h4 : f < 4) : d.readE f = (d.seen.file f, 0) := by
  have hf : isFile f = true := by simp [isFile]; omega
  simp only [Dk.readE, hc, hf]; simp
/-- with other operations that wait -/
def Dk.on (d : Dk) (W : List DOp) : Dk := { d with waits := W }
theorem on_seen (d : Dk) (W : List DOp) : (d.on W).seen = (d.doAll W).clear := by
  have h := doAll_fuse d.fuse d.down W W d
  obtain ⟨f1, f2, f3⟩ := doAll_flat W d
  show (Dk.doAll (d.on W) W).clear = _
  have e : d.on W = { d with waits := W, down := d.down, fuse := d.fuse } := rfl
  rw [e, h]
  simp only [Dk.clear, ← f2, ← f3]
theorem on_check {d : Dk} (hc : checkB d = true) (n : Nat) : checkB (d.on (d.waits.take n)) = true := by
  have h := hc
  simp only [checkB, flatK, Bool.and_eq_true, decide_eq_true_eq] at h
  refine check_mk _ ?_ (all_take h.1.1.2 n) (fits4_in d h.1.2) (steps_take _ _ n h.2)
  have g1 := h.1.1.1.1.1.1.1
  have g2 := h.1.1.1.1.1.1.2
  have g3 := h.1.1.1.1.1.2
  have g4 := h.1.1.1.1.2
  have g5 := h.1.1.1.2
  simp only [flatK, Dk.on, g1, g3, g4, decide_true, Bool.true_and, Bool.and_true]
  have : (d.waits.take n).length ≤ 4096 := by simp; omega
  simp only [this, decide_true, Bool.true_and]
  exact g5
theorem on_do {d : Dk} {W : List DOp} {o : DOp} (hc : checkB (d.on W) = true) (hd : d.down = false) (hf : d.fuse = 0) (hm : mayD o = true) (hw : W.length < 4096) (hs : fits ((aft o (aftL (sz4 d) W)).get o.f) = true) : (d.on W).doOp o = (d.on (W ++ [o]), 0) := by
  have hsy : syncB o = false := by
    have := (may_kf o hm).1
    simp [syncB]; omega
  have hfit : (d.on W).fits o = true := by
    have h2 := (fits_iff _).1 hs
    have h3 : (aftL (sz4 d) (W ++ [o])).get o.f ≤ 4194304 := by simpa [aftL] using h2
    have h4 : sz4 (d.on W) = sz4 d := rfl
    simp only [Dk.fits, h4, show (d.on W).waits = W from rfl, hw, h3, decide_true, Bool.and_self]
  have hst : (d.on W).step o = .ok true (d.on (W ++ [o])) := by
    obtain ⟨f0, f1, f2, f3, head, w, dn, fu⟩ := d
    simp only at hd hf
    subst hd hf
    unfold Dk.step
    rw [hfit, hsy, hm]
    simp only [Dk.on]
    simp
    rfl
  simp only [Dk.doOp, hc, hst]; simp
theorem on_take {d : Dk} (hc : checkB d = true) (hd : d.down = false) (hf : d.fuse = 0) {n : Nat} {o : DOp} (ho : d.waits[n]? = some o) : (d.on (d.waits.take n)).doOp o = (d.on (d.waits.take (n + 1)), 0) := by
  have h := hc
  simp only [checkB, flatK, Bool.and_eq_true, decide_eq_true_eq] at h
  have hn := (List.getElem?_eq_some_iff.1 ho).1
  have hl := h.1.1.1.1.1.1.2
  rw [on_do (on_check hc n) hd hf (check_may d hc o (List.mem_of_getElem? ho)) (by simp; omega) (steps_at _ _ _ o h.2 ho), List.take_add_one, ho]
  rfl
theorem on_torn {d : Dk} (hc : checkB d = true) (hd : d.down = false) (hf : d.fuse = 0) {n : Nat} {o : DOp} (ho : d.waits[n]? = some o) (hk : o.k = 1) {t : Int} (ht : 0 < t) : (d.on (d.waits.take n)).doOp (o.cut t) = (d.on (d.waits.take n ++ [o.cut t]), 0) := by
  have h := hc
  simp only [checkB, flatK, Bool.and_eq_true, decide_eq_true_eq] at h
  have hn := (List.getElem?_eq_some_iff.1 ho).1
  have hl := h.1.1.1.1.1.1.2
  have hm := check_may d hc o (List.mem_of_getElem? ho)
  have hkf := (may_kf o hm).2
  have hin := aftL_in _ _ (fits4_in d h.1.2) (all_take h.1.1.2 n) (steps_take _ _ n h.2)
  refine on_do (on_check hc n) hd hf ?_ (by simp; omega) ?_
  · rcases may_cases o hm with ⟨_, h⟩ | ⟨h, _⟩ | ⟨h, _⟩
    · simp only [mayD, mayOp, DOp.cut, hk, isFile]
      simp; omega
    · omega
    · omega
  · have := aft_cut_in _ o t hk hkf hin (aft_in _ o hin (steps_at _ _ _ o h.2 ho) hkf)
    exact (fits_iff _).2 (S4.get_in this _).2
/-- what a front has that a fall leaves -/
def frontL (k : Nat) (torn : Int) (l : List DOp) : List DOp := l.take k ++ if torn = 0 then [] else tornL k torn l
theorem done_none (d : Dk) (f : Int) (h : 0 ≤ f ∧ f < 4) : d.done ⟨1, f, []⟩ = d := by
  have h4 : f = 0 ∨ f = 1 ∨ f = 2 ∨ f = 3 := by omega
  cases d
  rcases h4 with rfl | rfl | rfl | rfl <;> simp [Dk.done, Dk.put]
theorem front_kept {d : Dk} (hc : checkB d = true) (keep torn : Int) (hk : 0 ≤ keep) : d.doAll (keptL keep torn 0 d.waits) = d.doAll (frontL keep.toNat torn d.waits) := by
  rw [keptL_nat keep torn hk, frontL]
  by_cases ht : torn = 0
  · rw [if_pos ht, List.append_nil, doAll_app]
    unfold tornL
    split
    · rename_i o ho
      split
      · rename_i hk1
        have hm := may_kf o (check_may d hc o (List.mem_of_getElem? ho))
        show Dk.done _ (o.cut torn) = _
        have : o.cut torn = ⟨1, o.f, []⟩ := by simp [DOp.cut, ht, hk1]
        rw [this, done_none _ _ hm.2]
      · rfl
    · rfl
  · rw [if_neg ht]
theorem front_check {d : Dk} (hc : checkB d = true) (hd : d.down = false) (hf : d.fuse = 0) (k : Nat) (torn : Int) (ht : 0 ≤ torn) : checkB (d.on (frontL k torn d.waits)) = true := by
  unfold frontL
  by_cases h0 : torn = 0
  · rw [if_pos h0, List.append_nil]; exact on_check hc k
  · rw [if_neg h0]
    unfold tornL
    split
    · rename_i o ho
      split
      · rename_i hk1
        have h1 := on_torn hc hd hf ho hk1 (t := torn) (by omega)
        obtain ⟨up, hs, _⟩ := do_ok (on_check hc k) h1 (.inr rfl)
        exact step_check _ _ _ _ (on_check hc k) hs
      · rw [List.append_nil]; exact on_check hc k
    · rw [List.append_nil]; exact on_check hc k
/-- how far the front is -/
def FrT (d : Dk) (k : Nat) (torn : Int) (i : Nat) (W : List DOp) : Prop := (i ≤ k → W = d.waits.take i) ∧ (k < i → W = frontL k torn d.waits)
theorem FrT.zero (d : Dk) (k : Nat) (torn : Int) : FrT d k torn 0 [] := ⟨fun _ => by simp, fun h => by omega⟩
theorem FrT.end' {d : Dk} {k : Nat} {torn : Int} {W : List DOp} (h : FrT d k torn d.waits.length W) : W = frontL k torn d.waits := by
  rcases Nat.lt_or_ge k d.waits.length with hk | hk
  · exact h.2 hk
  · rw [h.1 hk, frontL, List.take_of_length_le (Nat.le_refl _), List.take_of_length_le hk]
    have : tornL k torn d.waits = [] := by
      unfold tornL
      rw [List.getElem?_eq_none hk]
    rw [this]; simp
theorem FrT.stop {d : Dk} {k : Nat} {torn : Int} {W : List DOp} {o : DOp} (h : FrT d k torn k W) (ho : d.waits[k]? = some o) (hs : o.k ≠ 1 ∨ torn = 0) : W = frontL k torn d.waits := by
  rw [h.1 (Nat.le_refl _), frontL]
  rcases hs with hs | hs
  · have : tornL k torn d.waits = [] := by
      unfold tornL
      rw [ho]; simp [hs]
    rw [this]; simp
  · simp [hs]
theorem FrT.go {d : Dk} {k : Nat} {torn : Int} {i : Nat} (h : i < k) : FrT d k torn (i + 1) (d.waits.take (i + 1)) := ⟨fun _ => rfl, fun h => by omega⟩
theorem FrT.cut {d : Dk} {k : Nat} {torn : Int} {o : DOp} (ho : d.waits[k]? = some o) (hk : o.k = 1) (ht : torn ≠ 0) : FrT d k torn (k + 1) (d.waits.take k ++ [o.cut torn]) := ⟨fun h => by omega, fun _ => by
  have : tornL k torn d.waits = [o.cut torn] := by
    unfold tornL
    rw [ho]; simp [hk]
  rw [frontL, if_neg ht, this]⟩
end Go.Proofs.Ytjfaihpiohccbaa

namespace Go.Proofs.Ytjfaihpiohccbaa
open Go.RowKit
set_option maxRecDepth 10000
set_option maxHeartbeats 4000000
instance dl_nilopsD {c f : Bool} : DL (.lit (.slice none 0 0)) (.sl c f (([] : List DOp).map opD)) := (inferInstance : DL (.lit (.slice none 0 0)) (.sl c f []))
/-- as it is when it has fallen -/
def Dk.low (d : Dk) : Dk := { d with waits := [], down := true, fuse := 0 }
abbrev lowD (d : Dk) : List D := [.sl false false (byD d.f0), .sl false false (byD d.f1), .sl false false (byD d.f2), .sl false false (byD d.f3), .lit (.int .i64 d.head), .sl false false (([] : List DOp).map opD), .lit (.bool true), .lit (.int .i64 0)]
theorem low_done (d : Dk) (o : DOp) : d.low.done o = (d.done o).low := done_fuse d o 0 true []
theorem cutJ {α : Type} (f : α → List D) (l : List α) (n : Int) : cutL none (some n) (l.map f) = (l.take n.toNat).map f := by
  rw [cutL_eq]; simp
theorem kept_past (keep torn : Int) (i : Nat) (l : List DOp) (h : keep < i) : keptL keep torn i l = [] := by
  cases l with
  | nil => rfl
  | cons o r => simp only [keptL]; rw [if_neg (by omega), if_pos h]
theorem Dk.len.mono {d : Dk} {n m : Nat} (h : d.len n) (hnm : n ≤ m) : d.len m := by simp only [Dk.len] at *; omega
theorem rfall_v (d : Dk) (keep torn : Int) (hc : checkB d = true) (_ : 0 ≤ keep) (ht : 0 ≤ torn) : VP Try.prog 14 [.agg (dkD d), .lit (.int .i64 keep), .lit (.int .i64 torn)] (· = .ret (.agg (lowD (d.doAll (keptL keep torn 0 d.waits))))) := by
  have hwb := check_wb d hc
  have hln := check_len d hc
  have hmay := check_may d hc
  have hfu := check_fuse d hc
  refine vp_of Try.func14 rfl Try.ntmps14 rfl Try.results14 fun B => ?_
  simp only [dkD]
  repeat' (first | fail | fail | refine nzl ?_ | refine nzd ?_ | ((first | with_reducible refine vl_id ?_ | with_reducible refine vd_id ?_); first | fail) | refine nzo ?_ | refine nc ?_ ?_ | (with_reducible intro _ <;> (try (exfalso; omega))) | refine vs_eqnil ?_ | refine vs_nenil ?_ | (refine nd ?_ ?_ <;> intro hg <;> (first | (exfalso; (try simp only [decide_eq_true_eq, decide_eq_false_iff_not] at hg); omega) | rw [hg])) | fail)
  refine vw_each 15 d.waits opD (fun (i : Nat) (z : Dk) => ⟨[(17, I .i64 i), (16, I .i64 (d.waits.map opD).length), (15, .d (.sl false false (d.waits.map opD))), (3, .ptr 0 0), (6, .ptr 1 0), (1, .d (.lit (.int .i64 keep))), (2, .d (.lit (.int .i64 torn)))], [.c 0 0 ((lowD z).map .d), .c 1 0 zcV], 2⟩) (fun i z => d.doAll (keptL keep torn 0 d.waits) = z.doAll (keptL keep torn i (d.waits.drop i)) ∧ z.len (4194304 + i * 1000000000)) d (sub_z) ⟨rfl, by simpa using hln⟩ (fun i y x hT hi hx hx' hlt hlm hlen hdr => ?_) (fun y hT hlt hlm => ?_)
  · have hkf := may_kf x (hmay x (List.mem_of_getElem? hx))
    have hxb := hwb x (List.mem_of_getElem? hx)
    have hyl : y.len 10000000000000 := by have := hT.2; simp only [Dk.len] at this ⊢; omega
    have c := rdone_v y.low x (by omega) hkf.2 hyl hxb
    have c2 := rdone_v y.low (x.cut torn) (by simp only [DOp.cut]; omega) hkf.2 hyl (by simp only [DOp.cut, List.length_take]; omega)
    rw [low_done] at c c2
    have hl2 := Dk.done_len y x _ _ hT.2 hxb
    have hl3 := Dk.done_len y (x.cut torn) _ _ hT.2 (show _ ≤ 1000000000 by simp only [DOp.cut, List.length_take]; omega)
    have hl4 : y.len (4194304 + (i + 1) * 1000000000) := hT.2.mono (by omega)
    have hT1 := hT.1
    rw [hdr] at hT1
    have hbl := byD_len x.b
    have hcut : cutL none (some torn) (byD x.b) = byD (x.b.take torn.toNat) := cutJ (fun u : UInt8 => [D.lit (vb u)]) x.b torn
    have hfull : torn ≥ x.b.length → x.cut torn = x := fun h => by
      cases x; simp only [DOp.cut] at h ⊢; rw [List.take_of_length_le (by omega)]
    simp only [dkD, opD, Dk.low, DOp.cut] at c c2
    simp only [opD] at hx'
    rcases Int.lt_trichotomy i keep with h | h | h
    · have e : keptL keep torn i (x :: d.waits.drop (i + 1)) = x :: keptL keep torn (i + 1) (d.waits.drop (i + 1)) := by simp only [keptL]; rw [if_neg (by omega), if_neg (by omega)]
      rw [e] at hT1
      repeat' (first | fail | fail | refine nzl ?_ | refine nzd ?_ | ((first | with_reducible refine vl_id ?_ | with_reducible refine vd_id ?_); first | refine cz (c) ?_) | refine nzo ?_ | refine nc ?_ ?_ | (with_reducible intro _ <;> (try (exfalso; omega))) | refine vs_eqnil ?_ | refine vs_nenil ?_ | (refine nd ?_ ?_ <;> intro hg <;> (first | (exfalso; (try simp only [decide_eq_true_eq, decide_eq_false_iff_not] at hg); omega) | rw [hg])) | fail)
      exact nx_each (y.done x) hi ⟨hT1, by rw [Nat.add_mul]; simpa [Nat.add_assoc] using hl2⟩ (sub_z)
    · by_cases h1 : x.k = 1
      · have e : keptL keep torn i (x :: d.waits.drop (i + 1)) = [x.cut torn] := by simp only [keptL]; rw [if_pos h, if_pos h1]
        rw [e] at hT1
        have hlast : ∀ z : Dk, z = z.doAll (keptL keep torn (i + 1) (d.waits.drop (i + 1))) := fun z => by rw [kept_past _ _ _ _ (by omega)]; rfl
        by_cases h3 : torn < x.b.length
        · repeat' (first | fail | fail | refine nzl ?_ | refine nzd ?_ | ((first | with_reducible refine vl_id ?_ | with_reducible refine vd_id ?_); first | (rw [hcut]; first | refine cz (c2) ?_)) | refine nzo ?_ | refine nc ?_ ?_ | (with_reducible intro _ <;> (try (exfalso; omega))) | refine vs_eqnil ?_ | refine vs_nenil ?_ | (refine nd ?_ ?_ <;> intro hg <;> (first | (exfalso; (try simp only [decide_eq_true_eq, decide_eq_false_iff_not] at hg); omega) | rw [hg])) | fail)
          exact nx_each (y.done (x.cut torn)) hi ⟨hT1.trans (hlast _), by rw [Nat.add_mul]; simpa [Nat.add_assoc] using hl3⟩ (sub_z)
        · rw [hfull (by omega)] at hT1
          repeat' (first | fail | fail | refine nzl ?_ | refine nzd ?_ | ((first | with_reducible refine vl_id ?_ | with_reducible refine vd_id ?_); first | refine cz (c) ?_) | refine nzo ?_ | refine nc ?_ ?_ | (with_reducible intro _ <;> (try (exfalso; omega))) | refine vs_eqnil ?_ | refine vs_nenil ?_ | (refine nd ?_ ?_ <;> intro hg <;> (first | (exfalso; (try simp only [decide_eq_true_eq, decide_eq_false_iff_not] at hg); omega) | rw [hg])) | fail)
          exact nx_each (y.done x) hi ⟨hT1.trans (hlast _), by rw [Nat.add_mul]; simpa [Nat.add_assoc] using hl2⟩ (sub_z)
      · have e : keptL keep torn i (x :: d.waits.drop (i + 1)) = [] := by simp only [keptL]; rw [if_pos h, if_neg h1]
        rw [e] at hT1
        repeat' (first | fail | fail | refine nzl ?_ | refine nzd ?_ | ((first | with_reducible refine vl_id ?_ | with_reducible refine vd_id ?_); first | fail) | refine nzo ?_ | refine nc ?_ ?_ | (with_reducible intro _ <;> (try (exfalso; omega))) | refine vs_eqnil ?_ | refine vs_nenil ?_ | (refine nd ?_ ?_ <;> intro hg <;> (first | (exfalso; (try simp only [decide_eq_true_eq, decide_eq_false_iff_not] at hg); omega) | rw [hg])) | fail)
        exact nx_each y hi ⟨by rw [hT1, kept_past _ _ _ _ (by omega)], hl4⟩ (sub_z)
    · rw [kept_past _ _ _ _ h] at hT1
      repeat' (first | fail | fail | refine nzl ?_ | refine nzd ?_ | ((first | with_reducible refine vl_id ?_ | with_reducible refine vd_id ?_); first | fail) | refine nzo ?_ | refine nc ?_ ?_ | (with_reducible intro _ <;> (try (exfalso; omega))) | refine vs_eqnil ?_ | refine vs_nenil ?_ | (refine nd ?_ ?_ <;> intro hg <;> (first | (exfalso; (try simp only [decide_eq_true_eq, decide_eq_false_iff_not] at hg); omega) | rw [hg])) | fail)
      all_goals exact nx_each y hi ⟨by rw [hT1, kept_past _ _ _ _ (by omega)], hl4⟩ (sub_z)
  · repeat' (first | fail | fail | refine nzl ?_ | refine nzd ?_ | ((first | with_reducible refine vl_id ?_ | with_reducible refine vd_id ?_); first | fail) | refine nzo ?_ | refine nc ?_ ?_ | (with_reducible intro _ <;> (try (exfalso; omega))) | refine vs_eqnil ?_ | refine vs_nenil ?_ | (refine nd ?_ ?_ <;> intro hg <;> (first | (exfalso; (try simp only [decide_eq_true_eq, decide_eq_false_iff_not] at hg); omega) | rw [hg])) | fail)
    have hT1 := hT.1
    rw [List.drop_eq_nil_of_le (Nat.le_refl _)] at hT1
    rw [hT1]; rfl
end Go.Proofs.Ytjfaihpiohccbaa
