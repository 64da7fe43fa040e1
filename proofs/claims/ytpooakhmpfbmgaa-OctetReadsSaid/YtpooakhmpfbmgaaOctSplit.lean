/- octet.Split. -/
import Derived.Test.YtpooakhmpfbmgaaOctNumbers
import Derived.Maps.AppendAt
namespace Go.Proofs.Ytpooakhmpfbmgaa
open Go.RowKit Go.Shelf

attribute [local go_sem] Oper.semAt_some

theorem info_u64 : (Try.prog.info? 26).map (fun i => (i.zero, i.size, i.bytes)) = some (some (.int .u64 0), 1, 8) := by kernel_rfl

set_option maxHeartbeats 400000 in
theorem numbers_any (b : Nat) (v : Value) (xs : List Int) (w : World) (hx : IntsS w v xs) :
    Calls Try.prog 62 #[.pointer (some ⟨b, 0, none⟩), v] w fun e w' => e = .returned (.func (.func 71) #[] #[.pointer (some ⟨w.heap.size + 1, 0, none⟩), .pointer (some ⟨w.heap.size, 0, none⟩)]) ∧ w' = (w.alloc (.cells #[.pointer (some ⟨b, 0, none⟩)] 43)).alloc (.cells #[v] 50) := by
  obtain ⟨a1, c1, rfl, hc1, hm1⟩ := hx.shape
  have hmf : ∀ (fn : Fn) (first cap : Array Value) (w : World), (Instr.makeFunc fn first cap).run Try.prog w = .ok (.func fn first cap) w := fun _ _ _ _ => rfl
  go_enter Try.func62, Try.ntmps62
  go_wp2
  go_ret
  exact ⟨rfl, rfl⟩

/-- what a round of splitting knows -/
structure SpInv (w W : World) (po : Nat) (pre : List Nat) : Prop where
  row : ∃ v, Boxed W po 51 v ∧ OwnU (po + 4) W v pre
  bel : Below w.heap.size w W
  size : po + 4 ≤ W.heap.size

theorem SpInv.lp {w : World} {po : Nat} (hpo : w.heap.size ≤ po) : LpOk (po + 1) (po + 4) (fun (pre : List Nat) W => SpInv w W po pre) := by
  rintro s A B row ⟨⟨v, h1, h2⟩, h3, h4⟩ hg hr
  have hne : ∀ k, (k = po ∨ v.ownBlock = some k) → some k ≠ row := by
    intro k hk e
    rcases hr k e.symm with rfl | ⟨hb, o, ho, hc⟩
    · rcases hk with hk | hk
      · omega
      · have := (h2.lt _ hk).1; omega
    · rcases hk with rfl | hk
      · omega
      · rcases h2.2 with ⟨rfl, _⟩ | ⟨g, cap, cur, rfl, _, hgb, _⟩
        · simp [Value.ownBlock] at hk
        · obtain rfl : g = k := by simpa [Value.ownBlock] using hk
          rw [hgb] at ho; cases ho; cases hc
  refine ⟨⟨v, h1.kept hg (hne po (.inl rfl)), World.ownsRow.kept h2 hg ?_⟩, ⟨hg.os.trans h3.os, hg.tape.trans h3.tape, hg.output.trans h3.output, Nat.le_trans h3.size hg.size, fun k hk => (hg.block k (Nat.lt_of_lt_of_le hk h3.size) (fun e => ?_)).trans (h3.block k hk)⟩, Nat.le_trans h4 hg.size⟩
  · cases hv : v.ownBlock with
    | none => exact .inl rfl
    | some g => exact .inr (hne g (.inr hv))
  · rcases hr k e.symm with rfl | ⟨hb, _⟩ <;> omega

set_option maxRecDepth 100000 in
set_option maxHeartbeats 2000000 in
theorem split1_yes (p0 p1 : Nat) (v1 v2 : Value) (xs : List Int) (bs : List UInt8) (w : World) (h0 : Blk w p0 #[v1] 50) (h1 : Blk w p1 #[v2] 22) (hx : IntsS w v1 xs) (hb : Bytes w v2 bs) (hl : xs.length ≤ 1000) (hall : allW xs = true) (hsum : bs.length = sumW xs) :
    Calls Try.prog 61 #[.pointer (some ⟨p0, 0, none⟩), .pointer (some ⟨p1, 0, none⟩)] w fun e w' => ∃ va vn vc, e = .returned (.slice va vn vc) ∧ OwnU w.heap.size w' (.slice va vn vc) (splitR xs bs) ∧ Below w.heap.size w w' := by
  obtain ⟨a1, c1, rfl, hc1, hm1⟩ := hx.shape
  obtain ⟨a2, c2, rfl, hc2, hm2⟩ := IsSl.shape hb
  have e0 : w.cell? ⟨p0, 0, none⟩ = some (.slice a1 xs.length c1) := h0.cell 0
  have e1 : w.cell? ⟨p1, 0, none⟩ = some (.slice a2 bs.length c2) := h1.cell 0
  have L0 := h0.lt
  have L1 := h1.lt
  have hsz := size_yes _ xs w hx hl hall
  obtain ⟨sm, hsm⟩ : ∃ sm, sumW xs = sm := ⟨_, rfl⟩
  rw [hsm] at hsz hsum
  have q1 : decide ((sm : Int) ≤ (bs.length : Int)) = true := by simp; omega
  have q2 : ((bs.length : Int) == (sm : Int)) = true := by simp; omega
  have HA := Lib.hid hall
  have HS := Lib.hid hsum
  have HM := Lib.hid hsm
  obtain ⟨i0, hi, hz0, hz1, hz2⟩ := info_parts info_u64
  clear hall hsum hsm
  refine (callsIn_wide (n := 3)).1 ?_
  refine callsIn_of_wp_marks Try.func61 rfl trivial ?_ rfl
  simp only [Try.ntmps61, List.size_toArray, List.length_cons, List.length_nil, Nat.reduceAdd, Nat.reduceSub, Array.replicate_succ, Array.replicate_zero, List.push_toArray, List.append_toArray, List.nil_append, List.cons_append]
  gi_wp2
  refine wpIn_scope_straight ?_
  gi_wp2_with fail
  refine ⟨trivial, (callsIn_wide.2 hsz).mono ?_⟩
  rintro e W1 ⟨rfl, rfl⟩
  gi_wp2_with fail
  refine ⟨trivial, (callsIn_wide.2 (c_need_true _ 110 _ (by simpa using q1))).mono ?_⟩
  rintro e W1 ⟨rfl, rfl⟩
  gi_wp2_with fail
  refine ⟨trivial, (callsIn_wide.2 (c_need_true _ 113 _ (by simp))).mono ?_⟩
  rintro e W1 ⟨rfl, rfl⟩
  gi_wp2_with fail
  refine wpIn_label ?_
  gi_wp2_with fail
  refine ⟨trivial, (callsIn_wide.2 (numbers_any _ _ xs _ (hx.below (Below.upA (Below.new w _) _)))).mono ?_⟩
  rintro e W1 ⟨rfl, hW1⟩
  simp only [World.size_alloc] at hW1 ⊢
  have z1 : Boxed W1 w.heap.size 51 (.slice none 0 0) := by
    subst hW1
    exact (((Boxed.new w 51 (.slice none 0 0)).alloc _).alloc _).alloc _
  have z2 : Blk W1 (w.heap.size + 1) (rdC (.slice a2 bs.length c2) 0) 88 := by
    subst hW1
    have := ((Blk.new (w.alloc (.cells #[.slice none 0 0] 51)) (rdC (.slice a2 bs.length c2) 0) 88).alloc (.cells #[.pointer (some ⟨w.heap.size + 1, 0, none⟩)] 43)).alloc (.cells #[.slice a1 xs.length c1] 50)
    simpa using this
  have z3 : Blk W1 (w.heap.size + 1 + 1) #[.pointer (some ⟨w.heap.size + 1, 0, none⟩)] 43 := by
    subst hW1
    have := (Blk.new ((w.alloc (.cells #[.slice none 0 0] 51)).alloc (.cells (rdC (.slice a2 bs.length c2) 0) 88)) #[.pointer (some ⟨w.heap.size + 1, 0, none⟩)] 43).alloc (.cells #[.slice a1 xs.length c1] 50)
    simpa using this
  have z4 : Blk W1 (w.heap.size + 1 + 1 + 1) #[.slice a1 xs.length c1] 50 := by
    subst hW1
    have := Blk.new (((w.alloc (.cells #[.slice none 0 0] 51)).alloc (.cells (rdC (.slice a2 bs.length c2) 0) 88)).alloc (.cells #[.pointer (some ⟨w.heap.size + 1, 0, none⟩)] 43)) #[.slice a1 xs.length c1] 50
    simpa using this
  have hsz1 : W1.heap.size = w.heap.size + 4 := by subst hW1; simp
  have hB1 : Below w.heap.size w W1 := by subst hW1; exact Below.upA (Below.upA (Below.upA (Below.new w _) _) _) _
  clear hW1
  have hN1 : NumInv w W1 (w.heap.size + 1 + 1 + 1) (w.heap.size + 1 + 1) (w.heap.size + 1) (.slice a1 xs.length c1) bs 0 := ⟨fun k hk => hB1.block k hk, z4, z3, a2, c2, by simpa using z2, by simpa using hb⟩
  have HSZ := Lib.hid hsz1
  gi_wp2_with fail
  refine wpIn_range_mv rfl (by omega) (gf := 71) (lb := #[.pointer (some ⟨w.heap.size + 1 + 1 + 1, 0, none⟩), .pointer (some ⟨w.heap.size + 1 + 1, 0, none⟩)]) rfl trivial (enters_of Try.func71 (by kernel_rfl) rfl)
    (encs := fun x : Nat => #[.int .u64 x]) (bk := w.heap.size + 1) (by omega) (Kp := KpBut (w.heap.size + 4) w.heap.size) (S := fun ys => ys = splitR xs bs) (Sp := fun pre => ∃ k, k < xs.length ∧ pre = splitR (xs.take (k + 1)) bs) (N := xs.length)
    (fun l J Jx W hW hJ _ hY hJ0 => numbers1_in 2 l (w.heap.size + 4) w.heap.size (w.heap.size + 1 + 1 + 1) (w.heap.size + 1 + 1) (w.heap.size + 1) w (.slice a1 xs.length c1) xs bs hx hl HA.out (by rw [HS.out, HM.out]; exact Nat.le_refl _)
      (by omega) (Nat.le_refl _) (by omega) (by omega) (by omega) (by omega) (by omega) (by omega) (by omega) (by omega) (by omega) J Jx hY hJ W
      (hN1.kp (fun k hk _ => hW.block k (by omega)) (Nat.le_add_right _ 4) (Nat.le_refl _) (by omega) (by omega) (by omega) (by omega) (by omega) (by omega)) hJ0)
    (fun h k => h.trans k) (fun W l o o' hl hlo hoc k hk hne => World.putObj_heap_other (fun e => by omega)) (fun _ => rfl)
    (fun pre W => SpInv w W w.heap.size pre) (fun c pre W => c = .exit 0 ∧ pre.length = xs.length ∧ SpInv w W w.heap.size pre)
    (by rw [hsz1]; exact SpInv.lp (Nat.le_refl _)) (fun c => by
      rw [hsz1]
      rintro s A B row ⟨h1, h2, h3⟩ hg hr
      exact ⟨h1, h2, SpInv.lp (Nat.le_refl _) s A B row h3 hg hr⟩)
    ⟨⟨_, z1, World.ownsRow_nil _ _ _ _⟩, hB1, by omega⟩ ?_ ?assign ?body ?done ?stop
  case assign =>
    intro l x W K hK
    gi_wp2
    exact hK
  case body =>
    rintro l pre x W hl ⟨r, hr⟩ ⟨⟨v, hv, hrow⟩, hB, hs3⟩ hlt
    have hpl := hv.lt
    have hv1 := hv.cell
    have d0 : W.cell? ⟨p0, 0, none⟩ = some (.slice a1 xs.length c1) := (hB.cell (p := ⟨p0, 0, none⟩) L0).trans e0
    have d0' : (W.alloc (.cells #[.int .u64 x] 26)).cell? ⟨p0, 0, none⟩ = some (.slice a1 xs.length c1) := (World.cell?_of_block (a := ⟨p0, 0, none⟩) (Below.heap_alloc W _ p0 (by omega))).trans d0
    have hne0 : some p0 ≠ v.ownBlock := own_ne hrow (by omega)
    have hfin : ∀ (w2 : World) (v' : Value), KeepsOthers W w2 → (∀ c, c < W.heap.size → c < w.heap.size + 4 → c ≠ w.heap.size → w2.heap[c]? = W.heap[c]?) → Boxed w2 w.heap.size 51 v' → w2.ownsRow (w.heap.size + 4) 26 1 v' (pre.length + 1) (pre.map cU ++ [cU x]) → w2.os = W.os → w2.tape = W.tape → w2.output = W.output → KeepsFrom (w.heap.size + 4) W w2 ∧ KpBut (w.heap.size + 4) w.heap.size W w2 ∧ SpInv w w2 w.heap.size (pre ++ [x]) := fun w2 v' k4 k5 kb ko o1 o2 o3 =>
      ⟨k4.from _, fun k h1 h2 => k5 k (by omega) h1 h2, ⟨v', kb, by unfold OwnU; rw [List.length_append, List.map_append]; exact ko⟩,
        hB.trans (below_of (B := w.heap.size) ⟨o1.symm, o2.symm, o3.symm, k4.size⟩ (fun c hc => k5 c (by omega) (by omega) (by omega))), Nat.le_trans hs3 k4.size⟩
    have HF := Lib.hid hfin
    clear hfin
    by_cases he : pre.length + 1 = xs.length
    · have hq : ((pre.length : Int) + 1 == (xs.length : Int)) = true := by rw [beq_iff_eq]; omega
      have HE := Lib.hid he
      clear he
      gi_wp2_with (gi_at_builtin; refine wpListIn_append_own _ rfl _ _ 51 rfl (w.heap.size + 4) 26 i0 (.int .u64 0) 1 8 Try.underlying51 hi hz0 hz1 hz2 rfl (by decide) _ _ _ rfl (hrow.alloc _) ⟨W.heap.size, 0, none⟩ 1 1 _ rfl (by rfl) (cells_new _ _ _) (by simp [Value.oneCell']) (by unfold maxLen; omega) (by omega) (by simp; omega) ?_; intro v' w1 hown' hgrow _; obtain ⟨g', cap', rfl⟩ := ownsRow_succ hown'; obtain ⟨k1, k2, k3, k4, k5⟩ := boxed_appended hv (by decide) hrow hown' hgrow; have hc1 := k1.cell; have hf1 := k1.frozen; have hc2 := hgrow.cell d0' hne0)
      have hsz := (HF.out _ _ k4 k5 k2 k3 hgrow.os hgrow.tape hgrow.output)
      exact ⟨hsz.1, rfl, by rw [List.length_append]; exact HE.out, hsz.2.2⟩
    · have hq : ((pre.length : Int) + 1 == (xs.length : Int)) = false := by rw [beq_eq_false_iff_ne]; omega
      clear he
      gi_wp2_with (gi_at_builtin; refine wpListIn_append_own _ rfl _ _ 51 rfl (w.heap.size + 4) 26 i0 (.int .u64 0) 1 8 Try.underlying51 hi hz0 hz1 hz2 rfl (by decide) _ _ _ rfl (hrow.alloc _) ⟨W.heap.size, 0, none⟩ 1 1 _ rfl (by rfl) (cells_new _ _ _) (by simp [Value.oneCell']) (by unfold maxLen; omega) (by omega) (by simp; omega) ?_; intro v' w1 hown' hgrow _; obtain ⟨g', cap', rfl⟩ := ownsRow_succ hown'; obtain ⟨k1, k2, k3, k4, k5⟩ := boxed_appended hv (by decide) hrow hown' hgrow; have hc1 := k1.cell; have hf1 := k1.frozen; have hc2 := hgrow.cell d0' hne0)
      exact HF.out _ _ k4 k5 k2 k3 hgrow.os hgrow.tape hgrow.output
  case done =>
    rintro D ys W hD rfl ⟨⟨v, hv, hrow⟩, hB, hs3⟩ hK
    have hc := hv.cell
    obtain ⟨va, vc, rfl, _⟩ := ownsRow_slice hrow
    have hD' : w.heap.size + 4 ≤ D := by have := HSZ.out; omega
    gi_wp2
    rw [Exit.noGoto_ret]
    refine ⟨by simp, .inl ⟨_, _, rfl, run_takeDeferred hK, ?_⟩⟩
    exact ⟨_, results_tmp rfl _ _ _, _, _, _, rfl, ownsRow_base (ownsRow_putObj hrow _ hK rfl) (by omega), hB.trans (belowK_b (w := w) (Nat.le_refl _) W D _ _ (by omega) hK rfl rfl)⟩
  case stop =>
    rintro D c pre W hD ⟨k, hk, rfl⟩ ⟨rfl, hlen, ⟨v, hv, hrow⟩, hB, hs3⟩ hK
    have hc := hv.cell
    obtain ⟨va, vc, rfl, _⟩ := ownsRow_slice hrow
    have hD' : w.heap.size + 4 ≤ D := by have := HSZ.out; omega
    gi_wp2
    rw [Exit.noGoto_ret]
    refine ⟨by simp, .inl ⟨_, _, rfl, run_takeDeferred hK, ?_⟩⟩
    have hkx : splitR (xs.take (k + 1)) bs = splitR xs bs := by
      rw [splitR_len] at hlen
      have hle : xs.length ≤ k + 1 := by rw [List.length_take] at hlen; omega
      rw [List.take_of_length_le hle]
    rw [hkx] at hrow
    rw [splitR_len] at hrow
    exact ⟨_, results_tmp rfl _ _ _, va, xs.length, vc, rfl, ownsRow_base (ownsRow_putObj hrow _ hK rfl) (by omega), hB.trans (belowK_b (w := w) (Nat.le_refl _) W D _ _ (by omega) hK rfl rfl)⟩

end Go.Proofs.Ytpooakhmpfbmgaa
