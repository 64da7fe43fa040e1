/- Reader.Part. -/
import Derived.Test.YtpooakhmpfbmgaaOctRdBytes
namespace Go.Proofs.Ytpooakhmpfbmgaa
open Go.RowKit

theorem num2_lt (l : List UInt8) : numB (l.take 2) < 65536 := by
  have h := numB_lt (l.take 2)
  have h2 : 256 ^ (l.take 2).length ≤ 256 ^ 2 := Nat.pow_le_pow_right (by omega) (by simp; omega)
  omega

set_option maxRecDepth 100000 in
theorem part1_yes (b pr m : Nat) (a : Option Addr) (c : Nat) (l : List UInt8) (W : World) (hb : Blk W b (rdC (.slice a l.length c) 0) 88) (hl : Bytes W (.slice a l.length c) l) (hr : Blk W pr #[.pointer (some ⟨b, 0, none⟩)] 43) (hm : numB (l.take 2) = m) (g3 : 2 + m ≤ l.length) (hlen : l.length ≤ 1048576) :
    Calls Try.prog 54 #[.pointer (some ⟨pr, 0, none⟩)] W fun e w' => W.grownBy w' (some b) ∧ GotB W w' e ((l.drop 2).take m) ∧ Moved l (2 + m) a c b w' := by
  have e1 : W.cell? ⟨pr, 0, none⟩ = some (.pointer (some ⟨b, 0, none⟩)) := hr.cell 0
  have e2 : W.cell? ⟨b, 0, none⟩ = some (.slice a l.length c) := hb.cell 0
  have hc := hl.cap
  have HL := Lib.hid hl
  have HRr := Lib.hid hr
  have hrd : Rd W b l 0 := ⟨a, c, hb, hl⟩
  have hm2 := num2_lt l
  rw [hm] at hm2
  have HM := Lib.hid hm
  clear hl hm
  go_enter Try.func54, Try.ntmps54
  go_wp2_with fail
  refine (front_yes b 2 l 0 _ hrd (by omega)).mono ?_
  rintro e W1 ⟨sa, sc, rfl, hs, rfl⟩
  go_wp2_with fail
  refine (num_any _ _ _ hs (by simp; omega)).mono ?_
  rintro e W2 ⟨rfl, hB2⟩
  rw [HM.out]
  have d1 : W2.cell? ⟨pr, 0, none⟩ = some (.pointer (some ⟨b, 0, none⟩)) := (HRr.out.up hB2).cell 0
  go_wp2_with fail
  have hadd : ((2 : Int) + (m : Int)) = ((2 + m : Nat) : Int) := by omega
  rw [hadd]
  refine (front_yes b (2 + m) l 0 _ (hrd.below hB2) g3).mono ?_
  rintro e W1 ⟨sa2, sc2, rfl, hs2, rfl⟩
  obtain ⟨n, hn⟩ : ∃ n, 2 + m = n := ⟨_, rfl⟩
  have hlk : (l.take n).length = n := by rw [List.length_take, Nat.min_eq_left (by omega)]
  rw [hn] at hs2 g3
  rw [hn]
  have HN := Lib.hid hn
  have HK := Lib.hid hlk
  have hn2 : 2 ≤ n := by omega
  clear hlk hn hadd
  have hs2' : Bytes W2 (.slice sa2 (l.take n).length sc2) (l.take n) := by rw [HK.out]; exact hs2
  have HS2 := Lib.hid hs2
  go_wp2_with (refine wl_slice_l (l := l.take n) 2 rfl rfl rfl HS2.out (by rw [HK.out]; exact hn2) ?_; intro s3 c3 hb3)
  rw [HK.out] at hb3
  refine (clone_bytes _ _ _ hb3 (by simp; omega)).mono ?_
  rintro e W3 ⟨v3, rfl, ho3, hB3⟩
  obtain ⟨a3, c3', rfl, _⟩ := ownsRow_slice ho3
  replace ho3 : OwnB _ _ _ _ := ho3
  have hbs : (l.take n).drop 2 = (l.drop 2).take m := by rw [List.drop_take, ← HN.out]; congr 1; omega
  have hlm : ((l.drop 2).take m).length = m := by have := HN.out; rw [List.length_take, List.length_drop]; omega
  rw [hbs, hlm] at ho3
  rw [hbs, hlm]
  have HBS := Lib.hid hbs
  clear hbs hlm hb3
  have u2 := Below.up hB2 hB3
  have b2 := hb.up u2
  go_upto_region 3 with fail
  refine wp_region_cuts [.q [_, _, _, _, _, _, _, _]] [_, _, _, _] rfl (fun w'' => Below W.heap.size W w'') (by kernel_rfl) (by kernel_rfl) (fun _ _ d _ _ h => by cases d <;> exact h) ?_
  refine cut_q u2.drew ?_
  repeat (first | (refine wq_slice_lU W n rfl rfl rfl HL.out g3 ?_; intro a' c' hU; simp only [Act.put, List.setIfInBounds_toArray, List.set_cons_succ, List.set_cons_zero]) | go_big_quiet_step ((intros; rfl)) | quiet_step ((intros; rfl)) | (refine wq_loadB rfl rfl (by kernel_rfl) (by assumption) ?_; simp only [Act.put, List.setIfInBounds_toArray, List.set_cons_succ, List.set_cons_zero]))
  refine wpQuiet_nil ?_
  have b3 := b2.drew
  obtain ⟨C3, F3, L3⟩ := b3.all
  have u3 := u2.drew
  refine cut_end ?_
  go_wp2
  go_ret
  have hg := gb_set (gb_below (gb_refl W (some b)) u3 (Nat.le_refl _)) 0 (.slice a' (l.length - n) c')
  have hbase : W.heap.size ≤ W2.heap.size := hB2.size
  rw [HN.out]
  exact ⟨hg, ⟨_, _, _, rfl, ((ho3.base hbase).setO b 0 (.slice a' (l.length - n) c') hb.lt).drewn⟩, a', c', b3.set 0 (.slice a' (l.length - n) c'), hU⟩

set_option maxRecDepth 100000 in
theorem part1_no2 (b pr : Nat) (a : Option Addr) (c : Nat) (l : List UInt8) (W : World) (hb : Blk W b (rdC (.slice a l.length c) 0) 88) (hl : Bytes W (.slice a l.length c) l) (hr : Blk W pr #[.pointer (some ⟨b, 0, none⟩)] 43) (g3 : l.length < 2) :
    Calls Try.prog 54 #[.pointer (some ⟨pr, 0, none⟩)] W fun e w' => Below W.heap.size W w' ∧ e = .panicked (errP 110) := by
  have e1 : W.cell? ⟨pr, 0, none⟩ = some (.pointer (some ⟨b, 0, none⟩)) := hr.cell 0
  have e2 : W.cell? ⟨b, 0, none⟩ = some (.slice a l.length c) := hb.cell 0
  have hrd : Rd W b l 0 := ⟨a, c, hb, hl⟩
  have hN : frontNo 2 l.length = 110 := by unfold frontNo; rw [if_neg (by omega), if_pos (by omega)]
  have hf := front_no b 2 l 0 _ hrd (by rw [hN]; decide)
  rw [hN] at hf
  clear hl hN
  go_enter Try.func54, Try.ntmps54
  go_wp2_with fail
  refine hf.mono ?_
  rintro e W1 ⟨rfl, rfl⟩
  go_wp2
  exact ⟨rfl, Below.refl _ _, rfl⟩

set_option maxRecDepth 100000 in
theorem part1_no (b pr m : Nat) (a : Option Addr) (c : Nat) (l : List UInt8) (W : World) (hb : Blk W b (rdC (.slice a l.length c) 0) 88) (hl : Bytes W (.slice a l.length c) l) (hr : Blk W pr #[.pointer (some ⟨b, 0, none⟩)] 43) (hm : numB (l.take 2) = m) (g2 : 2 ≤ l.length) (g3 : l.length < 2 + m) :
    Calls Try.prog 54 #[.pointer (some ⟨pr, 0, none⟩)] W fun e w' => Below W.heap.size W w' ∧ e = .panicked (errP 110) := by
  have e1 : W.cell? ⟨pr, 0, none⟩ = some (.pointer (some ⟨b, 0, none⟩)) := hr.cell 0
  have e2 : W.cell? ⟨b, 0, none⟩ = some (.slice a l.length c) := hb.cell 0
  have hrd : Rd W b l 0 := ⟨a, c, hb, hl⟩
  have HRr := Lib.hid hr
  have hm2 := num2_lt l
  rw [hm] at hm2
  have HM := Lib.hid hm
  have hN : frontNo ((2 + m : Nat) : Int) l.length = 110 := by unfold frontNo; rw [if_neg (by omega), if_pos (by omega)]
  have hf := fun W' hW' => front_no b ((2 + m : Nat) : Int) l 0 W' hW' (by rw [hN]; decide)
  rw [hN] at hf
  clear hl hm hN
  go_enter Try.func54, Try.ntmps54
  go_wp2_with fail
  refine (front_yes b 2 l 0 _ hrd g2).mono ?_
  rintro e W1 ⟨sa, sc, rfl, hs, rfl⟩
  go_wp2_with fail
  refine (num_any _ _ _ hs (by simp; omega)).mono ?_
  rintro e W2 ⟨rfl, hB2⟩
  rw [HM.out]
  have d1 : W2.cell? ⟨pr, 0, none⟩ = some (.pointer (some ⟨b, 0, none⟩)) := (HRr.out.up hB2).cell 0
  go_wp2_with fail
  have hadd : ((2 : Int) + (m : Int)) = ((2 + m : Nat) : Int) := by omega
  rw [hadd]
  refine (hf _ (hrd.below hB2)).mono ?_
  rintro e W3 ⟨rfl, rfl⟩
  clear hadd hf
  go_wp2
  exact ⟨rfl, hB2, rfl⟩

def rdPart (s : RSt) : RSt × List UInt8 := if s.2 = 0 then (if s.1.length < 2 then ((s.1, 110), []) else if s.1.length < 2 + numB (s.1.take 2) then ((s.1, 110), []) else ((s.1.drop (2 + numB (s.1.take 2)), 0), (s.1.drop 2).take (numB (s.1.take 2)))) else (s, [])

set_option maxRecDepth 100000 in
set_option maxHeartbeats 1000000 in
theorem rpart1_any (b : Nat) (s : RSt) (w : World) (h : Rd w b s.1 s.2) (hlen : s.1.length ≤ 1048576) :
    Calls Try.prog 22 #[.pointer (some ⟨b, 0, none⟩)] w fun e w' => ReadB w w' e b (rdPart s) := by
  obtain ⟨l, f⟩ := s
  simp only at h hlen
  have hB := Below.new w (.cells #[.pointer (some ⟨b, 0, none⟩)] 43)
  have br := Blk.new w #[.pointer (some ⟨b, 0, none⟩)] 43
  have hR := h.below hB
  have HR := Lib.hid hR
  obtain ⟨a, c, hbb, hl⟩ := hR
  have hlt := h.lt
  obtain ⟨S, hS⟩ : ∃ S, rdPart (l, f) = S := ⟨_, rfl⟩
  rw [hS]
  unfold rdPart at hS
  simp only at hS
  by_cases hf : f = 0
  · subst hf
    rw [if_pos rfl] at hS
    by_cases h2 : l.length < 2
    · rw [if_pos h2] at hS
      subst hS
      go_enter Try.func22, Try.ntmps22
      go_wp2_with fail
      refine reads_S_byte 54 _ (fun w => by kernel_rfl) b a l.length c _ hbb _ ?_
      intro W0 hB0
      refine (part1_no2 b _ a c l W0 (hbb.up hB0) (hl.below hB0) (br.up hB0) h2).mono ?_
      rintro e w' ⟨hBw, rfl⟩
      refine ⟨gb_below (gb_refl W0 (some b)) hBw (Nat.le_refl _), .inr ⟨_, _, (by decide), rfl, (hbb.up hB0).up hBw, ?_⟩⟩
      intro w2 hg2 hb2
      have hrd2 : Rd w2 b l 110 := ⟨a, c, hb2, hl.gb hbb hg2⟩
      have hgw := gb_of hB hg2
      clear hB0 hBw hb2
      go_wp2
      go_ret
      exact ⟨_, _, rfl, World.ownsRow_nil _ _ _ _, hgw, hrd2⟩
    · rw [if_neg h2] at hS
      obtain ⟨m, hm⟩ : ∃ m, numB (l.take 2) = m := ⟨_, rfl⟩
      rw [hm] at hS
      have HM := Lib.hid hm
      clear hm
      by_cases h3 : l.length < 2 + m
      · rw [if_pos h3] at hS
        subst hS
        go_enter Try.func22, Try.ntmps22
        go_wp2_with fail
        refine reads_S_byte 54 _ (fun w => by kernel_rfl) b a l.length c _ hbb _ ?_
        intro W0 hB0
        refine (part1_no b _ m a c l W0 (hbb.up hB0) (hl.below hB0) (br.up hB0) HM.out (by omega) h3).mono ?_
        rintro e w' ⟨hBw, rfl⟩
        refine ⟨gb_below (gb_refl W0 (some b)) hBw (Nat.le_refl _), .inr ⟨_, _, (by decide), rfl, (hbb.up hB0).up hBw, ?_⟩⟩
        intro w2 hg2 hb2
        have hrd2 : Rd w2 b l 110 := ⟨a, c, hb2, hl.gb hbb hg2⟩
        have hgw := gb_of hB hg2
        clear hB0 hBw hb2
        go_wp2
        go_ret
        exact ⟨_, _, rfl, World.ownsRow_nil _ _ _ _, hgw, hrd2⟩
      · rw [if_neg h3] at hS
        subst hS
        have hlk := Lib.hid (show ((l.drop 2).take m).length = m from by rw [List.length_take, List.length_drop]; omega)
        go_enter Try.func22, Try.ntmps22
        go_wp2_with fail
        refine reads_S_byte 54 _ (fun w => by kernel_rfl) b a l.length c _ hbb _ ?_
        intro W0 hB0
        refine (part1_yes b _ m a c l W0 (hbb.up hB0) (hl.below hB0) (br.up hB0) HM.out (by omega) hlen).mono ?_
        rintro e w' ⟨hg, ⟨va, vn, vc, rfl, ho⟩, hm⟩
        refine ⟨hg, .inl ⟨_, _, _, rfl, ?_⟩⟩
        intro w2 hg2 hk2
        have hrd2 := hm.rd hbb hl hg2 (hk2 b (.inl hbb.lt))
        have hgw := gb_of hB hg2
        have ho2 := (ho.kept2 hk2).base (Below.up hB hB0).size
        have hvn := ho2.bytes.at
        rw [hlk.out] at hvn
        subst hvn
        clear hk2 hm hg hB0 ho
        go_wp2
        go_ret
        refine ⟨va, vc, ?_, by rw [hlk.out]; exact ho2, hgw, hrd2⟩
        rw [hlk.out]
        rfl
  · rw [if_neg hf] at hS
    subst hS
    have HF := Lib.hid hf
    clear hf
    go_enter Try.func22, Try.ntmps22
    go_wp2_with fail
    refine (readsF_S_byte _ b _ f _ hbb HF.out).mono ?_
    rintro e W1 ⟨rfl, rfl⟩
    go_wp2
    go_ret
    exact ⟨_, _, rfl, World.ownsRow_nil _ _ _ _, gb_below (gb_refl w (some b)) hB (Nat.le_refl _), HR.out⟩

theorem rpartN_any (w : World) : Calls Try.prog 22 #[.pointer none] w fun e w' => e = .returned (.slice none 0 0) ∧ Below w.heap.size w w' := by
  have hB := Below.new w (.cells #[.pointer none] 43)
  go_enter Try.func22, Try.ntmps22
  go_wp2_with fail
  refine (readsN_S_byte _ _).mono ?_
  rintro e W1 ⟨rfl, rfl⟩
  go_wp2
  go_ret
  exact ⟨rfl, hB⟩

end Go.Proofs.Ytpooakhmpfbmgaa
