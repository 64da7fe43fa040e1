/- SnapCuts: for every input the law returns true, and turns nothing that was there; no condition. -/
import Derived.Test.YtkjpcjccddggoaaGreatRows
import Derived.Test.YtkjpcjccddggoaaGreatPkSnapCutsProofa
import Derived.Test.YtkjpcjccddggoaaGreatPk52
import Derived.Test.YtkjpcjccddggoaaGreatPk44
namespace Go.Proofs.YtkjpcjccddggoaaGreat
open Go.RowKit
set_option maxRecDepth 10000
set_option maxHeartbeats 4000000
instance dlss_pcN (l : List Pc) : DLss (l.map pcN) (l.map pcD) := dlss_map l _ _ (fun _ => inferInstance) (fun _ => rfl)
/-- a piece whose bytes are whatever they are -/
def pcX (s i m : Int) (n : Nat) : Bool := numB s && decide (1 ≤ m) && decide (m ≤ 64) && decide (0 ≤ i) && decide (i < m) && partB i m n
theorem piece_x (s i m : Int) (l : List (List D)) : VP Tryz.prog 29 [.agg [u64D s, i64D i, i64D m, .sl false false l]] (· = .ret (i64D (if pcX s i m l.length then 0 else 311))) := by
  by_cases hm : 1 ≤ m ∧ m ≤ 64
  · have cf := fits_v i m l.length (by omega) (by omega)
    refine vp_of Tryz.func29 rfl Tryz.ntmps29 rfl Tryz.results29 fun B => ?_
    repeat' (first | fail | fail | refine nzl ?_ | refine nzd ?_ | ((first | with_reducible refine vl_id ?_ | with_reducible refine vd_id ?_); first | refine cz (number_v s) ?_ | refine cz (cf) ?_) | refine nzo ?_ | refine nc ?_ ?_ | (with_reducible intro _ <;> (try (exfalso; omega))) | refine vs_eqnil ?_ | refine vs_nenil ?_ | (refine nd ?_ ?_ <;> intro hg <;> (first | (exfalso; (try simp only [decide_eq_true_eq, decide_eq_false_iff_not] at hg); omega) | rw [hg])) | fail)
    all_goals (simp_all [pcX]; try omega)
  · refine vp_of Tryz.func29 rfl Tryz.ntmps29 rfl Tryz.results29 fun B => ?_
    repeat' (first | fail | fail | refine nzl ?_ | refine nzd ?_ | ((first | with_reducible refine vl_id ?_ | with_reducible refine vd_id ?_); first | refine cz (number_v s) ?_) | refine nzo ?_ | refine nc ?_ ?_ | (with_reducible intro _ <;> (try (exfalso; omega))) | refine vs_eqnil ?_ | refine vs_nenil ?_ | (refine nd ?_ ?_ <;> intro hg <;> (first | (exfalso; (try simp only [decide_eq_true_eq, decide_eq_false_iff_not] at hg); omega) | rw [hg])) | fail)
    all_goals (simp_all [pcX]; try omega)
theorem pcB_x (p : Pc) : pcB p = pcX p.snap p.idx p.many p.b.length := rfl
theorem blur_by : ∀ {b : List UInt8} {m : List (List D)}, blurDss (byD b) m → ∀ x ∈ m, ∃ n, x = [.lit (.int .u8 n)]
  | [], m, h, x, hx => by simp only [List.map_nil, blurDss] at h; subst h; simp at hx
  | a :: b, m, h, x, hx => by
    simp only [byD, List.map_cons, blurDss] at h
    obtain ⟨y, ys, rfl, h1, h2⟩ := h
    rcases List.mem_cons.1 hx with rfl | hx
    · simp only [blurDs, blurD] at h1
      obtain ⟨y, ys, rfl, ⟨v, rfl, h3⟩, rfl⟩ := h1
      rcases h3 with rfl | ⟨_, h3⟩
      · exact ⟨_, rfl⟩
      · unfold u8V at h3; split at h3
        · exact ⟨_, rfl⟩
        · cases h3
    · exact blur_by h2 x hx
theorem blur_pc {s i m : Int} {b : List UInt8} {cs : List D} (h : blurDs (pcN ⟨s, i, m, b⟩) cs) : ∃ bl, cs = [u64D s, i64D i, i64D m, .sl true true bl] ∧ blurDss (byD b) bl := by
  simp only [blurDs, blurD, u8V, Bool.false_eq_true, false_and, or_false] at h
  obtain ⟨_, _, rfl, ⟨_, rfl, rfl⟩, _, _, rfl, ⟨_, rfl, rfl⟩, _, _, rfl, ⟨_, rfl, rfl⟩, _, _, rfl, ⟨bl, rfl, h⟩, rfl⟩ := h
  exact ⟨bl, rfl, h⟩
theorem cutE_ok {s : Int} {b : List UInt8} {p : Pc} (hp : p ∈ (cutE s b).1) : pcB p = true := by
  unfold cutE at hp
  split at hp
  · simp at hp
  · rename_i h1
    split at hp
    · simp at hp
    · rename_i h2
      simp only [pcsOf, List.mem_map, List.mem_range] at hp
      obtain ⟨k, hk, rfl⟩ := hp
      simp only [Bool.not_eq_false, Bool.and_eq_true, decide_eq_true_eq] at h1 h2
      have hm : manyN b = (b.length + 255) / 256 := rfl
      have hl : ((b.drop (256 * k)).take 256).length = min 256 (b.length - 256 * k) := by simp
      rw [pcB_x]
      show pcX s k (manyN b) ((b.drop (256 * k)).take 256).length = true
      rw [hl]
      simp only [pcX, h1.1, partB, Bool.and_eq_true, Bool.or_eq_true, decide_eq_true_eq, Bool.true_and]
      by_cases h4 : 256 ≤ b.length - 256 * k
      · exact ⟨⟨⟨⟨by omega, by omega⟩, by omega⟩, by omega⟩, .inl (by omega)⟩
      · exact ⟨⟨⟨⟨by omega, by omega⟩, by omega⟩, by omega⟩, .inr ⟨⟨by omega, by omega⟩, by omega⟩⟩
noncomputable abbrev cutsE : Code := sndC 7 (bodyC Tryz.f7)
abbrev cutsS (all : List Pc) (b x0 : List UInt8) : St := ⟨[(8, .po true (.sl false true (all.map pcN))), (7, .d (.sl false true (byD b))), (1, .d (bsD x0))], [], 0⟩
theorem cuts_end (B : Nat) (all : List Pc) (b x0 : List UInt8) (hok : ∀ p ∈ all, pcB p = true) (hx : cutL none (some ((byD b).length : Int)) (byD x0) = byD b) (hbx : b.length ≤ x0.length) : VW Tryz.prog ⟨121, none, B, 0, some B, []⟩ cutsE (cutsS all b x0) (retQ Tryz.prog [.tmp 6] (· = .ret (.lit (.bool true)))) := by
  have ce := equal_v b b
  have hbl := byD_len b
  have hxl := byD_len x0
  have hal : (all.map pcN).length = all.length := List.length_map _
  rw [decide_eq_true rfl] at ce
  refine vw_seq ?_
  repeat' (first | (refine vs_pol8 (fun _ => ?_)) | (refine vs_poset ?_; simp only [blurT, blurS, blurV, blurVs]) | refine vs_po ?_ | fail | refine nzl ?_ | refine nzd ?_ | ((first | with_reducible refine vl_id ?_ | with_reducible refine vd_id ?_); first | refine cz (ce) ?_) | refine nzo ?_ | refine nc ?_ ?_ | (with_reducible intro _ <;> (try (exfalso; omega))) | refine vs_eqnil ?_ | refine vs_nenil ?_ | (refine nd ?_ ?_ <;> intro hg <;> (first | (exfalso; (try simp only [decide_eq_true_eq, decide_eq_false_iff_not] at hg); omega) | rw [hg])) | fail)
  refine vw_loop (fun z : Nat × List (List D) => ⟨[(93, I .i64 z.1), (92, I .i64 (all.map pcN).length), (91, .po false (.sl false true z.2)), (7, .d (.sl false true (byD b))), (1, .d (bsD x0))], [], 0⟩) (fun z => z.1 ≤ all.length ∧ blurDss (all.map pcN) z.2) (fun z => all.length - z.1) (0, all.map pcN) (sub_z) ⟨Nat.zero_le _, blurDss_refl _⟩ fun ⟨i, m⟩ hi => ?_
  simp only at hi ⊢
  obtain ⟨hi, hm⟩ := hi
  refine vw_plen 91 rfl fun hlen => ?_
  refine vw_sharp 91 rfl fun y hy => ?_
  simp only [blurD] at hy
  obtain ⟨m', rfl, hy⟩ := hy
  replace hy := blurDss_trans hm hy
  have hml := blurDss_len hy
  rw [blurDss_len hm, hal] at hlen
  rcases Nat.lt_or_ge i all.length with h | h
  · have hx : (all.map pcN)[i]? = some (pcN all[i]) := by simp [h]
    have hxok := hok all[i] (List.getElem_mem h)
    rw [pcB_x] at hxok
    obtain ⟨cs, hcs, hbl⟩ := blurDss_get hy hx
    generalize all[i] = p at *
    obtain ⟨bl, rfl, hb⟩ := blur_pc hbl
    have hbln := blurDss_len hb
    rw [byD_len] at hbln
    have c1 := piece_x p.snap p.idx p.many bl
    rw [hbln, hxok, if_pos rfl] at c1
    have hby := blur_by hb
    have hdl : DLss bl bl := dlss_of fun x hx => by obtain ⟨n, rfl⟩ := hby x hx; infer_instance
    have hlt : (i : Int) < ((all.map pcN).length : Int) := by rw [hal]; omega
    have hcs' : m'[((i : Nat) : Int).toNat]? = some [u64D p.snap, i64D p.idx, i64D p.many, .sl true true bl] := hcs
    have h256 : bl.length ≤ 256 := by
      rw [hbln]; simp only [pcX, partB, Bool.and_eq_true, Bool.or_eq_true, decide_eq_true_eq] at hxok; omega
    clear hxok
    repeat' (first | (refine vs_pol8 (fun _ => ?_)) | (refine vs_poset ?_; simp only [blurT, blurS, blurV, blurVs]) | refine vs_po ?_ | fail | refine nzl ?_ | refine nzd ?_ | ((first | with_reducible refine vl_id ?_ | with_reducible refine vd_id ?_); first | refine cz (c1) ?_) | refine nzo ?_ | refine nc ?_ ?_ | (with_reducible intro _ <;> (try (exfalso; omega))) | refine vs_eqnil ?_ | refine vs_nenil ?_ | (refine nd ?_ ?_ <;> intro hg <;> (first | (exfalso; (try simp only [decide_eq_true_eq, decide_eq_false_iff_not] at hg); omega) | rw [hg])) | fail)
    simp only [poVs, poV]
    refine vw_loop (fun j : Nat => ⟨[(103, I .i64 j), (102, I .i64 bl.length), (19, .ptr 0 0), (93, I .i64 i), (92, I .i64 (all.map pcN).length), (91, .po false (.sl false true m')), (7, .d (.sl false true (byD b))), (1, .d (bsD x0))], [.c 0 0 [.d (u64D p.snap), .d (i64D p.idx), .d (i64D p.many), .po false (.sl true true bl)]], 1⟩) (fun j => j ≤ bl.length) (fun j => bl.length - j) 0 (sub_z) (Nat.zero_le _) fun j hj => ?_
    rcases Nat.lt_or_ge j bl.length with h2 | h2
    · obtain ⟨n, hn⟩ := hby bl[j] (List.getElem_mem h2)
      have hx' : bl[((j : Nat) : Int).toNat]? = some [.lit (.int .u8 n)] := by simp [h2, hn]
      have hlt2 : (j : Int) < (bl.length : Int) := by omega
      repeat' (first | (refine vs_pol8 (fun _ => ?_)) | (refine vs_poset ?_; simp only [blurT, blurS, blurV, blurVs]) | refine vs_po ?_ | fail | refine nzl ?_ | refine nzd ?_ | ((first | with_reducible refine vl_id ?_ | with_reducible refine vd_id ?_); first | fail) | refine nzo ?_ | refine nc ?_ ?_ | (with_reducible intro _ <;> (try (exfalso; omega))) | refine vs_eqnil ?_ | refine vs_nenil ?_ | (refine nd ?_ ?_ <;> intro hg <;> (first | (exfalso; (try simp only [decide_eq_true_eq, decide_eq_false_iff_not] at hg); omega) | rw [hg])) | fail)
      exact nx_loop (j + 1) (by omega) (by omega) (sub_z)
    · have hlt2 : ¬ (j : Int) < (bl.length : Int) := by omega
      repeat' (first | (refine vs_pol8 (fun _ => ?_)) | (refine vs_poset ?_; simp only [blurT, blurS, blurV, blurVs]) | refine vs_po ?_ | fail | refine nzl ?_ | refine nzd ?_ | ((first | with_reducible refine vl_id ?_ | with_reducible refine vd_id ?_); first | fail) | refine nzo ?_ | refine nc ?_ ?_ | (with_reducible intro _ <;> (try (exfalso; omega))) | refine vs_eqnil ?_ | refine vs_nenil ?_ | (refine nd ?_ ?_ <;> intro hg <;> (first | (exfalso; (try simp only [decide_eq_true_eq, decide_eq_false_iff_not] at hg); omega) | rw [hg])) | fail)
      exact nx_loop (i + 1, m') ⟨by simp only; omega, hy⟩ (by simp only; omega) (sub_z)
  · have hlt : ¬ (i : Int) < ((all.map pcN).length : Int) := by rw [hal]; omega
    repeat' (first | rw [hx] | fail | refine nzl ?_ | refine nzd ?_ | ((first | with_reducible refine vl_id ?_ | with_reducible refine vd_id ?_); first | refine cz (ce) ?_) | refine nzo ?_ | refine nc ?_ ?_ | (with_reducible intro _ <;> (try (exfalso; omega))) | refine vs_eqnil ?_ | refine vs_nenil ?_ | (refine nd ?_ ?_ <;> intro hg <;> (first | (exfalso; (try simp only [decide_eq_true_eq, decide_eq_false_iff_not] at hg); omega) | rw [hg])) | fail)
    rfl
theorem pce_cut {s x e : Int} {b : List UInt8} {all : List Pc} (hz : cutE s b = (all, e)) :
    (∃ q, e = 0 ∧ 0 ≤ x ∧ x < all.length ∧ all[x.toNat]? = some q ∧ pceE s b x = (q, 0)) ∨ (e = 0 ∧ ¬ (0 ≤ x ∧ x < all.length) ∧ pceE s b x = (.zero, 2)) ∨ (e ≠ 0 ∧ pceE s b x = (.zero, e)) := by
  unfold cutE at hz
  unfold pceE
  split at hz
  · rename_i h1
    cases hz
    rw [if_pos h1]
    exact .inr (.inr ⟨by decide, rfl⟩)
  · rename_i h1
    rw [if_neg h1]
    split at hz
    · rename_i h2
      cases hz
      rw [if_pos h2]
      exact .inr (.inr ⟨by decide, rfl⟩)
    · rename_i h2
      cases hz
      rw [if_neg h2]
      have hl : (pcsOf s b).length = manyN b := by simp [pcsOf]
      rw [hl]
      by_cases h3 : 0 ≤ x ∧ x < manyN b
      · rw [if_pos h3]
        refine .inl ⟨_, rfl, h3.1, h3.2, ?_, rfl⟩
        have : x.toNat < manyN b := by omega
        simp [pcsOf, this]
      · rw [if_neg h3]
        exact .inr (.inl ⟨rfl, h3, rfl⟩)
theorem cutN' (b : List UInt8) (n : Nat) : cutL none (some (n : Int)) (byD b) = byD (b.take n) := by
  rw [cutL_eq]; simp [byD, List.map_take]
theorem cuts_v (hw : VP Tryz.prog 8 [] (· = .ret (.lit (.bool true)))) (s : Int) (x0 : List UInt8) (l : List Int) : VP Tryz.prog 7 [u64D s, bsD x0, .sl false false (l.map fun n => [i64D n])] (· = .ret (.lit (.bool true))) := by
  have hbl := byD_len x0
  have hct := cutT x0 16385
  rw [show ((16385 : Nat) : Int) = 16385 from rfl] at hct
  have hxl : (x0.take 16385).length ≤ 16385 := by simp; omega
  have c1 := clone_v (x0.take 16385) (by omega)
  have c2 := cut_v s (x0.take 16385) (by omega)
  have c3 := rcut_v s (x0.take 16385) (by omega)
  have c4 := eqpc_v (cutE s (x0.take 16385)).1 (cutE s (x0.take 16385)).1
  rw [decide_eq_true rfl] at c4
  have c5 := pce_v s (x0.take 16385)
  have hend := fun B => cuts_end B (cutE s (x0.take 16385)).1 (x0.take 16385) x0 (fun p hp => cutE_ok hp) (by rw [byD_len, cutN']; congr 1; rw [List.take_eq_take_iff]; simp) (by simp; omega)
  generalize x0.take 16385 = b at *
  generalize hz : cutE s b = z at *
  obtain ⟨all, e⟩ := z
  simp only at c2 c3 c4 hend
  have hpl : poV true (.tup [.sl false true (all.map pcN), i64D e]) = .tup [.po true (.sl false true (all.map pcN)), .d (i64D e)] := rfl
  refine vp_of Tryz.func7 rfl Tryz.ntmps7 rfl Tryz.results7 fun B => ?_
  repeat' (first | rw [hct] | fail | refine nzl ?_ | refine nzd ?_ | ((first | with_reducible refine vl_id ?_ | with_reducible refine vd_id ?_); first | refine cz (hw) ?_ | refine cz (c1) ?_ | (refine vs_pool c2 ?_; rw [hpl]) | refine cz (c3) ?_ | refine cz (c4) ?_) | refine nzo ?_ | refine nc ?_ ?_ | (with_reducible intro _ <;> (try (exfalso; omega))) | refine vs_eqnil ?_ | refine vs_nenil ?_ | (refine nd ?_ ?_ <;> intro hg <;> (first | (exfalso; (try simp only [decide_eq_true_eq, decide_eq_false_iff_not] at hg); omega) | rw [hg])) | fail)
  have hlm : (l.map fun n => [i64D n]).length = l.length := List.length_map _
  refine vw_join (fun _ : Unit => cutsS all b x0) (fun _ => True) ?_ fun _ _ => hend B
  have hal : (all.map pcD).length = all.length := List.length_map _
  refine vw_each 50 l (fun n : Int => [i64D n]) (fun (i : Nat) (_ : Unit) => ⟨[(52, I .i64 i), (51, I .i64 (l.map fun n => [i64D n]).length), (50, .d (.sl false false (l.map fun n => [i64D n]))), (11, .d (i64D e)), (10, .d (.sl false true (all.map pcD))), (8, .po true (.sl false true (all.map pcN))), (7, .d (.sl false true (byD b))), (0, .d (u64D s)), (1, .d (bsD x0))], [], 0⟩) (fun i _ => True) () (sub_z) trivial (fun i y x hT hi hx hx' hlt hlm hlen hdr => ?_) (fun y hT hlt hlm => ?_)
  · have c6 := c5 x (by omega)
    rcases pce_cut (x := x) hz with ⟨q, he, h0, h1, hq, hp⟩ | ⟨he, hn, hp⟩ | ⟨he, hp⟩
    · rw [hp] at c6
      have hq' : (all.map pcD)[x.toNat]? = some (pcD q) := by simp [hq]
      have c7 := samepc_v q q
      rw [decide_eq_true rfl] at c7
      subst he
      simp only [pcD, pcM] at c6 c7 hq'
      repeat' (first | fail | fail | refine nzl ?_ | refine nzd ?_ | ((first | with_reducible refine vl_id ?_ | with_reducible refine vd_id ?_); first | refine cz (c6) ?_ | refine cz (c7) ?_) | refine nzo ?_ | refine nc ?_ ?_ | (with_reducible intro _ <;> (try (exfalso; omega))) | refine vs_eqnil ?_ | refine vs_nenil ?_ | (refine nd ?_ ?_ <;> intro hg <;> (first | (exfalso; (try simp only [decide_eq_true_eq, decide_eq_false_iff_not] at hg); omega) | rw [hg])) | fail)
      all_goals first | with_reducible refine nx_cut () trivial ?_ | with_reducible refine nx_each () hi trivial ?_ | trace_state
      all_goals first | exact (sub_z) | trace_state
    · rw [hp] at c6
      have c7 := samepc_v .zero .zero
      rw [decide_eq_true rfl] at c7
      subst he
      simp only [pcD, pcM, Pc.zero, bsD, show byD ([] : List UInt8) = [] from rfl] at c6 c7
      repeat' (first | fail | fail | refine nzl ?_ | refine nzd ?_ | ((first | with_reducible refine vl_id ?_ | with_reducible refine vd_id ?_); first | refine cz (c6) ?_ | refine cz (c7) ?_) | refine nzo ?_ | refine nc ?_ ?_ | (with_reducible intro _ <;> (try (exfalso; omega))) | refine vs_eqnil ?_ | refine vs_nenil ?_ | (refine nd ?_ ?_ <;> intro hg <;> (first | (exfalso; (try simp only [decide_eq_true_eq, decide_eq_false_iff_not] at hg); omega) | rw [hg])) | fail)
      all_goals first | with_reducible refine nx_cut () trivial ?_ | with_reducible refine nx_each () hi trivial ?_ | trace_state
      all_goals first | exact (sub_z) | trace_state
    · rw [hp] at c6
      have c7 := samepc_v .zero .zero
      rw [decide_eq_true rfl] at c7
      simp only [pcD, pcM, Pc.zero, bsD, show byD ([] : List UInt8) = [] from rfl] at c6 c7
      repeat' (first | fail | fail | refine nzl ?_ | refine nzd ?_ | ((first | with_reducible refine vl_id ?_ | with_reducible refine vd_id ?_); first | refine cz (c6) ?_ | refine cz (c7) ?_) | refine nzo ?_ | refine nc ?_ ?_ | (with_reducible intro _ <;> (try (exfalso; omega))) | refine vs_eqnil ?_ | refine vs_nenil ?_ | (refine nd ?_ ?_ <;> intro hg <;> (first | (exfalso; (try simp only [decide_eq_true_eq, decide_eq_false_iff_not] at hg); omega) | rw [hg])) | fail)
      all_goals first | with_reducible refine nx_cut () trivial ?_ | with_reducible refine nx_each () hi trivial ?_ | trace_state
      all_goals first | exact (sub_z) | trace_state
  · repeat' (first | fail | fail | refine nzl ?_ | refine nzd ?_ | ((first | with_reducible refine vl_id ?_ | with_reducible refine vd_id ?_); first | fail) | refine nzo ?_ | refine nc ?_ ?_ | (with_reducible intro _ <;> (try (exfalso; omega))) | refine vs_eqnil ?_ | refine vs_nenil ?_ | (refine nd ?_ ?_ <;> intro hg <;> (first | (exfalso; (try simp only [decide_eq_true_eq, decide_eq_false_iff_not] at hg); omega) | rw [hg])) | fail)
    exact nx_cut () trivial (sub_z)
end Go.Proofs.YtkjpcjccddggoaaGreat

namespace Go.Proofs.YtkjpcjccddggoaaGreat
theorem cuts_law (s : Int) (x0 : List UInt8) (l : List Int) : VP Tryz.prog 7 [u64D s, bsD x0, .sl false false (l.map fun n => [i64D n])] (· = .ret (.lit (.bool true))) := cuts_v wakes_v s x0 l
end Go.Proofs.YtkjpcjccddggoaaGreat

namespace Go.Proofs.YtkjpcjccddggoaaGreat
open Go.ChangeShapes Go.WideShapes Go.ChangeAt Go.RowKit
set_option maxRecDepth 100000 in
theorem snapCuts_lifted (os : Os) (started : os.Started) (H : Type) (enc : TypeId × Value → H) :
    ReturnsInHanded {} Tryz.checked os 7 .any (Rows.snapCutsSpec.pre6 enc Tryz.prog Tryz.f7 Rows.snapCutsRow.domain false) (Rows.snapCutsSpec.post enc Tryz.prog Tryz.f7 false true false false) := by
  refine returnsInHanded_of_change (C := Tryz.checked) l_own started (by kernel_rfl) Tryz.func7
    (ChangeSpec.witness6 (enc := enc) (C := Tryz.checked) false ⟨#[], #[.int .u64 0, .slice none 0 0, .slice none 0 0], []⟩ 8 (by kernel_rfl) (by kernel_rfl) (by kernel_rfl) (by kernel_rfl)) ?_
  intro W base args ds gs before hval0 hW hcnd _
  have hval : ∀ (j : Nat) t v, Tryz.f7.params[j]? = some t → args[j]? = some v → Value.okWide Tryz.prog W .any base t v := hval0
  have hW' := hW
  obtain ⟨p, q, hA0, hV, rfl, hfz, hnd⟩ := hW
  have hA : DataW.TrodAll enc Tryz.prog W 0 (fun _ => true) true Tryz.f7.params.toList args.toList ds p := hA0
  rw [Tryz.params7] at hA hval
  obtain ⟨v0, vs0, e0, ds0, p0, q0, hargs, rfl, rfl, h0, r0⟩ := trodAll_cons hA
  obtain ⟨v1, vs1, e1, ds1, p1, q1, rfl, rfl, rfl, h1, r1⟩ := trodAll_cons r0
  obtain ⟨v2, vs2, e2, ds2, p2, q2, rfl, rfl, rfl, h2, r2⟩ := trodAll_cons r1
  obtain ⟨rfl, rfl, rfl⟩ := trodAll_nil r2
  obtain rfl : args = #[v0, v1, v2] := by cases args; simp_all
  obtain ⟨rfl, rfl⟩ := trodVars_none hV
  have k0 := h0
  have lt0 : ∀ x ∈ p0, x.block < W.heap.size := by obtain ⟨m, hm⟩ := k0; exact DataW.trod_lt m _ _ _ hm
  obtain ⟨a0, rfl⟩ := okWide_int Tryz.underlying22 (hval 0 22 v0 rfl rfl)
  obtain ⟨y0, z0, d0⟩ := arg_cell opn_u64 rfl h0
  have k1 := h1
  have lt1 : ∀ x ∈ p1, x.block < W.heap.size := by obtain ⟨m, hm⟩ := k1; exact DataW.trod_lt m _ _ _ hm
  obtain ⟨a1, n1, c1, rfl⟩ := okWide_slice Tryz.underlying23 (hval 1 23 v1 rfl rfl)
  obtain ⟨y1, z1, d1⟩ := arg_cell opn_by rfl h1
  have k2 := h2
  have lt2 : ∀ x ∈ p2, x.block < W.heap.size := by obtain ⟨m, hm⟩ := k2; exact DataW.trod_lt m _ _ _ hm
  obtain ⟨a2, n2, c2, rfl⟩ := okWide_slice Tryz.underlying24 (hval 2 24 v2 rfl rfl)
  obtain ⟨y2, z2, d2⟩ := arg_cell opn_ints rfl h2
  clear hA0 hval0
  refine ((cuts_law y0 y1 y2).2 (fun _ => True) W _ (by simp only [dreps]; exact ⟨_, _, rfl, d0 _, ⟨_, _, rfl, d1 _, ⟨_, _, rfl, d2 _, rfl⟩⟩⟩)).mono fun e W' ⟨bel, r, he, hr⟩ => ?_
  subst he
  obtain ⟨u, rfl, hu⟩ := hr
  simp only [drep] at hu
  subst hu
  exact ⟨_, rfl, _, _, _, [], _, [], hW', trodAll_mk1 (shut_bool Tryz.underlying4 _), (trodAll_cons_mk (Below.trod l_laidOut (by kernel_rfl) (of_decide_eq_true (by kernel_rfl)) k0 bel lt0) (trodAll_cons_mk (Below.trod l_laidOut (by kernel_rfl) (of_decide_eq_true (by kernel_rfl)) k1 bel lt1) (trodAll_cons_mk (Below.trod l_laidOut (by kernel_rfl) (of_decide_eq_true (by kernel_rfl)) k2 bel lt2) trodAll_mk0))), rfl, bel.frame _, fun h => by cases h⟩
theorem snapCuts_over : Rows.snapCutsRow.holds Tryz.pinned (OpenSpec.ofChange Rows.snapCutsSpec) :=
  OpenClaim.holds_of_wide 7 Tryz.f7 rfl rfl rfl rfl rfl rfl rfl ⟨rfl, rfl, rfl, rfl, rfl⟩ rfl rfl rfl rfl rfl (by kernel_rfl) Tryz.func7 (by kernel_rfl)
    (of_decide_eq_true (by kernel_rfl)) (by unfold Func.isWrapper; first | (rw [if_pos (by decide +kernel)]; kernel_rfl) | (rw [if_neg (by decide +kernel)]; exact ⟨rfl, rfl⟩))
    (fun os started H enc _ => snapCuts_lifted os started H enc)
/-- SnapCuts holds as it is stated. -/
theorem snapCuts_holds : Rows.SnapCutsSaid := snapCuts_over
#print axioms snapCuts_holds
end Go.Proofs.YtkjpcjccddggoaaGreat
