/- gessolaw01.OctetParts: its walk. -/
import Derived.Test.YtpooakhmpfbmgaaOctRowsB
namespace Go.Proofs.Ytpooakhmpfbmgaa
open Go.RowKit

theorem sz_rows (w : World) : (sizeOf (Try.prog.elem 41)).run Try.prog w = .ok 1 w := by kernel_rfl
theorem ht_rows : Try.prog.underlying 41 = some (.slice (Try.prog.elem 41)) := by kernel_rfl
theorem sz_byte (w : World) : (sizeOf (Try.prog.elem 22)).run Try.prog w = .ok 1 w := by kernel_rfl
theorem ht_byte : Try.prog.underlying 22 = some (.slice (Try.prog.elem 22)) := by kernel_rfl
theorem RowsB.cut {W : World} {ad a' : Option Addr} {n c k c' : Nat} {l : List (List UInt8)} {vs : List Value} (hU : ∀ (W : World) (cs : List Value), IsSl W (.slice ad n c) n cs → cs.length = n → IsSl W (.slice a' k c') k (cs.take k)) (h : RowsB W (.slice ad n c) l vs) (hk : k ≤ l.length) : RowsB W (.slice a' k c') (l.take k) (vs.take k) := by
  obtain ⟨h1, h2, h3⟩ := h
  obtain rfl : n = l.length := by obtain ⟨_, _, e, _⟩ := h1; cases e; rfl
  have := hU W _ h1 h2
  refine ⟨by rw [List.length_take, Nat.min_eq_left hk]; exact this, by simp [h2], fun j hj hj' => ?_⟩
  have hb := h3 j (by simp at hj; omega) (by simp at hj'; omega)
  simpa using hb
theorem Bytes.cutT {W : World} {ad a' : Option Addr} {n c k c' : Nat} {l : List UInt8} (hU : ∀ (W : World) (cs : List Value), IsSl W (.slice ad n c) n cs → cs.length = n → IsSl W (.slice a' k c') k (cs.take k)) (h : Bytes W (.slice ad n c) l) (hk : k ≤ l.length) : Bytes W (.slice a' k c') (l.take k) := by
  obtain rfl := h.at
  have := hU W _ h (by simp)
  unfold Bytes
  rw [List.length_take, Nat.min_eq_left hk, List.map_take]
  exact this
theorem rdPart_len (s : RSt) : (rdPart s).1.1.length ≤ s.1.length := by
  unfold rdPart
  split
  · split
    · exact Nat.le_refl _
    · split
      · exact Nat.le_refl _
      · simp
  · exact Nat.le_refl _
theorem below_ps {w W : World} (h : Below w.heap.size w W) {v : Value} {Ls : List (List UInt8)} {vs : List Value} (j : RowsB w v Ls vs) : RowsB W v Ls vs := j.below h

theorem cut_at (cut : Int) (n : Nat) (h : 0 < n) (h2 : n ≤ 1000000) : ∃ m : Nat, wrap64 ((IntKind.u64.wrap cut).tmod (n : Int)) = (m : Int) ∧ m < n := by
  have h0 : 0 ≤ IntKind.u64.wrap cut := by simp [IntKind.wrap, IntKind.signed, IntKind.bits]; omega
  have h1 : (IntKind.u64.wrap cut).tmod (n : Int) = IntKind.u64.wrap cut % (n : Int) := Int.tmod_eq_emod_of_nonneg h0
  have h3 := Int.emod_nonneg (IntKind.u64.wrap cut) (show (n : Int) ≠ 0 by omega)
  have h4 := Int.emod_lt_of_pos (IntKind.u64.wrap cut) (show (0 : Int) < n by omega)
  refine ⟨(IntKind.u64.wrap cut % (n : Int)).toNat, ?_, by omega⟩
  rw [h1]
  generalize IntKind.u64.wrap cut % (n : Int) = r at *
  simp [wrap64]
  omega

set_option maxRecDepth 100000 in
set_option maxHeartbeats 4000000 in
theorem law_parts (v0 : Value) (Ls0 : List (List UInt8)) (cut : Int) (w : World) (h0 : ∃ vs, RowsB w v0 Ls0 vs) (_ : (Lit.int .i64 cut).wf = true) :
    Calls Try.prog 4 #[v0, .int .i64 cut] w fun e w' => e = .returned (.bool true) ∧ Below w.heap.size w w' := by
  obtain ⟨vs0, h0⟩ := h0
  obtain ⟨a0, c0, rfl, hc0, hm0⟩ := IsSl.shape h0.sl
  go_enter Try.func4, Try.ntmps4
  go_wp2_with fail
  refine (wakes_any _).mono ?_
  rintro e W1 ⟨rfl, B1⟩
  go_upto_region 4 with (first | (refine wl_min Ls0.length 6 rfl rfl rfl ?_; intro i6 hi1 hi2 _) | (refine wl_slice_hT i6 ht_rows sz_rows rfl rfl rfl hi1 hc0 ?_; intro s1 t1 hU1))
  have J0 := RowsB.cut hU1 h0 hi1
  have hLl : (Ls0.take i6).length = i6 := by rw [List.length_take, Nat.min_eq_left hi1]
  obtain ⟨Ls, hLs⟩ : ∃ Ls, Ls0.take i6 = Ls := ⟨_, rfl⟩
  obtain ⟨vs, hvs⟩ : ∃ vs, vs0.take i6 = vs := ⟨_, rfl⟩
  rw [hLs] at J0 hLl
  rw [hvs] at J0
  subst hLl
  clear hLs hvs hU1 h0
  obtain ⟨ps, hps⟩ : ∃ ps, Ls.map (·.take 40) = ps := ⟨_, rfl⟩
  have hpl : ps.length = Ls.length := by rw [← hps]; simp
  have h40 : ∀ p ∈ ps, p.length ≤ 40 := by
    intro p hp
    rw [← hps] at hp
    obtain ⟨q, _, rfl⟩ := List.mem_map.1 hp
    simp; omega
  have hget : ∀ k (hk : k < Ls.length) (hk' : k < ps.length), Ls[k].take 40 = ps[k] := by
    intro k hk hk'
    subst hps
    simp
  have HPL := Lib.hid hpl
  have HGET := Lib.hid hget
  have H40 := Lib.hid h40
  clear hps hpl hget h40
  go_wp2
  go_loopw [5, 25] (fun b i wr => ∃ k : Nat, k ≤ Ls.length ∧ i = .int .i64 k ∧ Bytes wr b (partsB (ps.take k)) ∧ Below w.heap.size w wr) (fun _ i _ => Ls.length - (intOf i).toNat)
  case atStart => exact ⟨0, Nat.zero_le _, rfl, bytes_nil _, B1⟩
  case round =>
    obtain ⟨k, hk, rfl, hb, hB⟩ := hrel
    obtain ⟨ab, cb, rfl, hcb, hmb⟩ := IsSl.shape hb
    have hbl := partsB_len (ps.take k) (fun p hp => H40.out p (List.mem_of_mem_take hp))
    have hkl : (ps.take k).length ≤ 6 := by have := HPL.out; simp; omega
    by_cases hlt : k < Ls.length
    · have hltp : k < ps.length := by have := HPL.out; omega
      obtain ⟨b1, o1, ea, ec, rfl, x1, e1⟩ := (J0.below hB).get hlt
      have hg := HGET.out k hlt hltp
      have hpk := H40.out ps[k] (List.getElem_mem hltp)
      have hsn : partsB (ps.take (k + 1)) = partsB (ps.take k) ++ partB ps[k] := by rw [take_snoc ps k hltp, partsB_snoc]
      obtain ⟨E, hE⟩ : ∃ E, Ls[k] = E := ⟨_, rfl⟩
      obtain ⟨p, hp⟩ : ∃ p, ps[k] = p := ⟨_, rfl⟩
      obtain ⟨C, hC⟩ : ∃ C, partsB (ps.take k) = C := ⟨_, rfl⟩
      rw [hE] at x1 e1 hg
      rw [hp] at hg hpk hsn
      rw [hC] at hb hbl hsn hcb ⊢
      have HG := Lib.hid hg
      have HSN := Lib.hid hsn
      obtain ⟨_, _, eec, hec, _⟩ := id e1
      cases eec
      have HE1 := Lib.hid e1
      have HB := Lib.hid hb
      clear hE hp hC hg hsn e1 hb
      go_wp2_with (first | (refine wl_min E.length 40 rfl rfl rfl ?_; intro q hq1 hq2 hq3) | (refine wl_slice_hT q ht_byte sz_byte rfl rfl rfl hq1 hec ?_; intro s2 t2 hU2))
      have hep := Bytes.cutT hU2 HE1.out hq1
      rw [show E.take q = p from by rw [← HG.out, hq3.out, List.take_eq_take_iff]; omega] at hep
      obtain rfl := hep.at
      refine (part_yes _ _ C p _ HB.out hep (by omega) (by omega)).mono ?_
      rintro e W2 ⟨v8, rfl, ho8, B2⟩
      have hb8 := OwnB.bytes ho8
      obtain ⟨a8, c8, rfl, hc8, hm8⟩ := IsSl.shape hb8
      have hlen : (C ++ partB p).length = C.length + 2 + p.length := by rw [List.length_append, partB_len]; omega
      obtain ⟨D, hD⟩ : ∃ D, C ++ partB p = D := ⟨_, rfl⟩
      rw [hD] at hb8 hlen hc8 ⊢
      have HD := Lib.hid hD
      have HLEN := Lib.hid hlen
      have hq : ((D.length : Int) != (C.length : Int) + 2 + (p.length : Int)) = false := by simp; omega
      have u2 := Below.up hB B2
      clear hD hlen ho8 B2 x1 hU2
      go_wp2
      go_roundw
      case rel => exact ⟨k + 1, by omega, by go_num, by rw [HSN.out, HD.out]; exact hb8, u2⟩
      case measure => simp only [intOf]; omega
    · obtain rfl : k = Ls.length := by omega
      rw [List.take_of_length_le (by have := HPL.out; omega)] at hb hbl hcb ⊢
      obtain ⟨B, hBB⟩ : ∃ B, partsB ps = B := ⟨_, rfl⟩
      rw [hBB] at hb hbl hcb ⊢
      have HBB := Lib.hid hBB
      clear hBB
      have hpl6 : ps.length ≤ 6 := by have := HPL.out; omega
      go_wp2_with fail
      refine (open_rd _ B _ hb (by omega)).mono ?_
      rintro e W2 ⟨rb, rfl, hr2, hrb, B2⟩
      have hrbw : w.heap.size ≤ rb := Nat.le_trans hB.size hrb
      have u2 := Below.up hB B2
      have hb2 := hb.below B2
      clear hb B2 hrb
      go_wp2
      go_loopw [64] (fun i wr => ∃ k : Nat, k ≤ Ls.length ∧ i = .int .i64 k ∧ Rd wr rb (partsB (ps.drop k)) 0 ∧ Bytes wr (.slice ab B.length cb) B ∧ Below w.heap.size w wr) (fun i _ => Ls.length - (intOf i).toNat)
      case atStart => exact ⟨0, Nat.zero_le _, rfl, by rw [List.drop_zero, HBB.out]; exact hr2, hb2, u2⟩
      case round =>
        obtain ⟨k, hk, rfl, hrk, hbk, hBk⟩ := hrel
        by_cases hlt : k < Ls.length
        · have hltp : k < ps.length := by have := HPL.out; omega
          obtain ⟨b1, o1, ea, ec, rfl, x1, e1⟩ := (J0.below hBk).get hlt
          have hg := HGET.out k hlt hltp
          have hpk := H40.out ps[k] (List.getElem_mem hltp)
          have hsn : partsB (ps.drop k) = partB ps[k] ++ partsB (ps.drop (k + 1)) := by
            have e0 := List.drop_eq_getElem_cons hltp
            unfold partsB
            rw [e0, List.flatMap_cons]
          have hrd := rdPart_all ps[k] (partsB (ps.drop (k + 1))) hpk
          obtain ⟨E, hE⟩ : ∃ E, Ls[k] = E := ⟨_, rfl⟩
          obtain ⟨p, hp⟩ : ∃ p, ps[k] = p := ⟨_, rfl⟩
          rw [hE] at x1 e1 hg
          rw [hp] at hg hpk hsn hrd
          rw [hsn] at hrk
          have hlr : (partB p ++ partsB (ps.drop (k + 1))).length ≤ 1048576 := by
            have := partsB_len (ps.drop (k + 1)) (fun p hp => H40.out p (List.mem_of_mem_drop hp))
            have h6 : (ps.drop (k + 1)).length ≤ 6 := by simp; omega
            rw [List.length_append, partB_len]
            omega
          have hpart := fun w h => rpart1_any rb (partB p ++ partsB (ps.drop (k + 1)), 0) w h hlr
          rw [hrd] at hpart
          have HG := Lib.hid hg
          obtain ⟨_, _, eec, hec, _⟩ := id e1
          cases eec
          have HE1 := Lib.hid e1
          have HBK := Lib.hid hbk
          clear hE hp hg hsn e1 hrd hlr hbk
          go_upto_region 20 with fail
          have ud := (Below.refl wr.heap.size wr).drew
          refine wp_region_segs 7 [.q [0, 2, 3, 4, 5, 6], .e 1] (fun _ => True) (by kernel_rfl) (by kernel_rfl) (fun _ _ d _ _ h => by cases d <;> exact h) ?_
          refine ⟨trivial, ?_⟩
          show wpQuiet _ _ _ _ [_, _, _, _, _, _] _
          repeat (first | ((first | (refine wq_min E.length 40 rfl rfl rfl ?_; intro q hq1 hq2 hq3) | (refine wq_slice_hT q ht_byte sz_byte rfl rfl rfl hq1 hec ?_; intro s2 t2 hU2)); simp only [Act.put, List.setIfInBounds_toArray, List.set_cons_succ, List.set_cons_zero]) | go_big_quiet_step ((intros; rfl)) | quiet_step ((intros; rfl)) | (refine wq_loadB rfl rfl (by kernel_rfl) (by assumption) ?_; simp only [Act.put, List.setIfInBounds_toArray, List.set_cons_succ, List.set_cons_zero]))
          refine wpQuiet_nil ?_
          show wpList _ _ _ [_] _ _
          go_wp2_with fail
          refine (hpart _ (hrk.below ud)).mono ?_
          rintro e W3 ⟨va, vc, rfl, ho3, hg3, hr3⟩
          have u3 := below_gb (Below.up hBk ud) hg3 hrbw
          have hb3 := (hrk.below ud).bytes hg3 (HBK.out.below ud)
          have hep := Bytes.cutT hU2 ((hrk.below ud).bytes hg3 (HE1.out.below ud)) hq1
          rw [show E.take q = p from by rw [← HG.out, hq3.out, List.take_eq_take_iff]; omega] at hep
          obtain rfl := hep.at
          clear hpart hU2
          go_wp2
          refine ⟨trivial, ?_⟩
          show wpList _ _ _ [_, _] _ _
          go_wp2_with fail
          refine (w_equal p _ _ _ ho3.bytes hep).mono ?_
          rintro e W4 ⟨rfl, B4⟩
          have u4 := Below.up u3 B4
          have hb4 := hb3.below B4
          have hr4 := hr3.below B4
          go_wp2
          go_roundw
          case rel => exact ⟨k + 1, by omega, by go_num, hr4, hb4, u4⟩
          case measure => simp only [intOf]; omega
        · obtain rfl : k = Ls.length := by omega
          rw [List.drop_of_length_le (by have := HPL.out; omega)] at hrk
          go_wp2_with fail
          refine (w_end rb _ hrk).mono ?_
          rintro e W3 ⟨rfl, B3⟩
          have u3 := Below.up hBk B3
          have hb3 := hbk.below B3
          clear hbk hrk B3
          by_cases hB0 : B.length = 0
          · have hq : ((B.length : Int) == 0) = true := by rw [hB0]; rfl
            clear hB0
            go_wp2
            go_ret
            exact ⟨rfl, u3⟩
          · have hq : ((B.length : Int) == 0) = false := by rw [beq_eq_false_iff_ne]; omega
            have hB1 : 0 < B.length := by omega
            clear hB0
            obtain ⟨m, hm, hmB⟩ := cut_at cut B.length hB1 (by omega)
            obtain ⟨_, _, ecb, hcb2, _⟩ := id hb3
            cases ecb
            go_wp2_with (refine wl_slice_hT m ht_byte sz_byte rfl rfl (by rw [← hm]; rfl) (Nat.le_of_lt hmB) hcb2 ?_; intro s2 t2 hU2)
            have hbm := Bytes.cutT hU2 hb3 (Nat.le_of_lt hmB)
            have HM := Lib.hid hm
            clear hm hU2
            refine (open_rd _ (B.take m) _ hbm (by simp; omega)).mono ?_
            rintro e W4 ⟨sb, rfl, hr4, hsb, B4⟩
            have hsbw : w.heap.size ≤ sb := Nat.le_trans u3.size hsb
            have u4 := Below.up u3 B4
            clear hb3 hbm B4 hsb
            go_wp2
            go_loopw [15, 99] (fun t i wr => ∃ (k : Nat) (s : RSt) (whole : Nat), k ≤ Ls.length ∧ i = .int .i64 k ∧ t = .int .i64 whole ∧ whole ≤ k ∧ Rd wr sb s.1 s.2 ∧ s.1.length ≤ 1000 ∧ PtInv ps k s whole ∧ Below w.heap.size w wr) (fun _ i _ => Ls.length - (intOf i).toNat)
            case atStart => exact ⟨0, (B.take m, 0), 0, Nat.zero_le _, rfl, rfl, Nat.le_refl _, hr4, by simp; omega, .inl ⟨rfl, rfl, m, by rw [List.drop_zero, HBB.out]; exact hmB, by rw [List.drop_zero, HBB.out]⟩, u4⟩
            case round =>
              obtain ⟨k, s, whole, hk, rfl, rfl, hwk, hrk, hsl, hinv, hBk⟩ := hrel
              by_cases hlt : k < Ls.length
              · have hltp : k < ps.length := by have := HPL.out; omega
                have hst := hinv.step hltp H40.out
                have hlen := rdPart_len s
                have hpart := fun w h => rpart1_any sb s w h (by omega)
                obtain ⟨⟨s', bs⟩, hs'⟩ : ∃ r, rdPart s = r := ⟨_, rfl⟩
                rw [hs'] at hst hlen hpart
                simp only at hst hlen hpart
                have HST := Lib.hid hst
                clear hst hs' hinv
                go_wp2_with fail
                refine (hpart _ hrk).mono ?_
                rintro e W5 ⟨va, vc, rfl, ho5, hg5, hr5⟩
                have u5 := below_gb hBk hg5 hsbw
                simp only at hr5
                clear hpart hrk ho5 hg5
                obtain ⟨l', f'⟩ := s'
                simp only at hr5 hlen HST
                obtain ⟨ra, rc, hb5, hl5⟩ := id hr5
                by_cases hf : f' = 0
                · subst hf
                  have hst := HST.out
                  rw [if_pos rfl] at hst
                  have HST2 := Lib.hid hst
                  clear hst HST
                  go_wp2_with fail
                  refine (err_any sb _ 0 _ hb5).mono ?_
                  rintro e W6 ⟨rfl, B6⟩
                  have u6 := Below.up u5 B6
                  have hr6 := hr5.below B6
                  clear hb5 hr5 B6 hl5
                  go_wp2
                  go_roundw
                  case rel => exact ⟨k + 1, (l', 0), whole + 1, by omega, by go_num, by go_num, by omega, hr6, by simp only; omega, HST2.out, u6⟩
                  case measure => simp only [intOf]; omega
                · have hst := HST.out
                  rw [if_neg hf] at hst
                  have hfq : (f' == 0) = false := by simpa using hf
                  have HST2 := Lib.hid hst
                  clear hst HST hf
                  go_wp2_with fail
                  refine (err_any sb _ f' _ hb5).mono ?_
                  rintro e W6 ⟨rfl, B6⟩
                  have u6 := Below.up u5 B6
                  have hr6 := hr5.below B6
                  clear hb5 hr5 B6 hl5
                  go_wp2
                  go_roundw
                  case rel => exact ⟨k + 1, (l', f'), whole, by omega, by go_num, rfl, by omega, hr6, by simp only; omega, HST2.out, u6⟩
                  case measure => simp only [intOf]; omega
              · obtain rfl : k = Ls.length := by omega
                have hpl := HPL.out
                rw [← hpl] at hinv
                obtain ⟨hf, hwl⟩ := hinv.last
                obtain ⟨l', f'⟩ := s
                simp only at hf hrk
                subst hf
                obtain ⟨ra, rc, hb5, hl5⟩ := id hrk
                have hqw : decide (whole < Ls.length) = true := by simp; omega
                clear hpl hinv
                go_wp2_with fail
                refine (err_any sb _ 110 _ hb5).mono ?_
                rintro e W6 ⟨rfl, B6⟩
                have u6 := Below.up hBk B6
                go_wp2
                go_ret
                exact ⟨rfl, u6⟩

end Go.Proofs.Ytpooakhmpfbmgaa
