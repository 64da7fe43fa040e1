/- Reader.Bytes, Reader.Part. -/
import Derived.Test.YtpooakhmpfbmgaaOctRdNum
import Derived.Test.YtpooakhmpfbmgaaRGW
namespace Go.Proofs.Ytpooakhmpfbmgaa
open Go.RowKit

theorem OwnB.kept2 {base B : Nat} {w1 w2 : World} {v : Value} {l : List UInt8} (h : OwnB base w1 v l) (hk : ∀ k, k < B ∨ (base ≤ k ∧ k < w1.heap.size) → w2.heap[k]? = w1.heap[k]?) : OwnB base w2 v l :=
  ownsRow_block h (fun g hg => hk g (.inr ⟨(h.lt g hg).1, (h.lt g hg).2⟩))

theorem OwnB.drewn {base : Nat} {w : World} {v : Value} {l : List UInt8} (h : OwnB base w v l) : OwnB base w.drew v l := ownsRow_block h (fun _ _ => rfl)

theorem OwnB.base {base base' : Nat} {w : World} {v : Value} {l : List UInt8} (h : OwnB base w v l) (hle : base' ≤ base) : OwnB base' w v l := ownsRow_base h hle

/-- what closures of readers that read bytes come to -/
def GotB (W w' : World) (e : Ending) (bs : List UInt8) : Prop := ∃ va vn vc, e = .returned (.slice va vn vc) ∧ OwnB W.heap.size w' (.slice va vn vc) bs

set_option maxRecDepth 100000 in
theorem bytes1_yes (b pw pr k : Nat) (a : Option Addr) (c : Nat) (l : List UInt8) (W : World) (hb : Blk W b (rdC (.slice a l.length c) 0) 88) (hl : Bytes W (.slice a l.length c) l) (hw : Blk W pw #[.int .i64 k] 3) (hr : Blk W pr #[.pointer (some ⟨b, 0, none⟩)] 43) (g3 : k ≤ l.length) (hlen : l.length ≤ 1048576) :
    Calls Try.prog 65 #[.pointer (some ⟨pr, 0, none⟩), .pointer (some ⟨pw, 0, none⟩)] W fun e w' => W.grownBy w' (some b) ∧ GotB W w' e (l.take k) ∧ Moved l k a c b w' := by
  have e0 : W.cell? ⟨pw, 0, none⟩ = some (.int .i64 k) := hw.cell 0
  have e1 : W.cell? ⟨pr, 0, none⟩ = some (.pointer (some ⟨b, 0, none⟩)) := hr.cell 0
  have e2 : W.cell? ⟨b, 0, none⟩ = some (.slice a l.length c) := hb.cell 0
  have hc := hl.cap
  have HL := Lib.hid hl
  have hrd : Rd W b l 0 := ⟨a, c, hb, hl⟩
  clear hl hw hr
  go_enter Try.func65, Try.ntmps65
  go_upto_region 1 with fail
  refine wp_region_cuts [.q [_, _, _, _]] [_, _, _] rfl (fun w'' => Below W.heap.size W w'') (by kernel_rfl) (by kernel_rfl) (fun _ _ d _ _ h => by cases d <;> exact h) ?_
  refine cut_q (Below.refl _ W).drew ?_
  repeat (first | go_big_quiet_step ((intros; rfl)) | quiet_step ((intros; rfl)) | fail | (refine wq_loadB rfl rfl (by kernel_rfl) (by assumption) ?_; simp only [Act.put, List.setIfInBounds_toArray, List.set_cons_succ, List.set_cons_zero]))
  refine wpQuiet_nil ?_
  have hB1 : Below W.heap.size W W.drew := (Below.refl _ W).drew
  refine cut_end ?_
  go_wp2_with fail
  refine (front_yes b k l 0 _ (hrd.below hB1) g3).mono ?_
  rintro e W1 ⟨sa, sc, rfl, hs, rfl⟩
  go_wp2_with fail
  refine (clone_bytes _ _ _ hs (by simp; omega)).mono ?_
  rintro e W2 ⟨v2, rfl, ho2, hB2⟩
  obtain ⟨a2, c2, rfl, _⟩ := ownsRow_slice ho2
  replace ho2 : OwnB _ _ _ _ := ho2
  rw [List.length_take, Nat.min_eq_left g3] at ho2
  have u2 := Below.up hB1 hB2
  have b2 := hb.up u2
  go_upto_region 2 with fail
  refine wp_region_cuts [.q [_, _, _, _, _, _, _, _]] [_, _, _, _] rfl (fun w'' => Below W.heap.size W w'') (by kernel_rfl) (by kernel_rfl) (fun _ _ d _ _ h => by cases d <;> exact h) ?_
  refine cut_q u2.drew ?_
  repeat (first | (refine wq_slice_lU W k rfl rfl rfl HL.out g3 ?_; intro a' c' hU; simp only [Act.put, List.setIfInBounds_toArray, List.set_cons_succ, List.set_cons_zero]) | go_big_quiet_step ((intros; rfl)) | quiet_step ((intros; rfl)) | (refine wq_loadB rfl rfl (by kernel_rfl) (by assumption) ?_; simp only [Act.put, List.setIfInBounds_toArray, List.set_cons_succ, List.set_cons_zero]))
  refine wpQuiet_nil ?_
  have b3 := b2.drew
  obtain ⟨C3, F3, L3⟩ := b3.all
  have u3 := u2.drew
  refine cut_end ?_
  go_wp2
  go_ret
  have hg := gb_set (gb_below (gb_refl W (some b)) u3 (Nat.le_refl _)) 0 (.slice a' (l.length - k) c')
  exact ⟨hg, ⟨_, _, _, rfl, (ho2.setO b 0 (.slice a' (l.length - k) c') hb.lt).drewn⟩, a', c', b3.set 0 (.slice a' (l.length - k) c'), hU⟩

set_option maxRecDepth 100000 in
theorem bytes1_no (b pw pr : Nat) (x : Int) (a : Option Addr) (c : Nat) (l : List UInt8) (W : World) (hb : Blk W b (rdC (.slice a l.length c) 0) 88) (hl : Bytes W (.slice a l.length c) l) (hw : Blk W pw #[.int .i64 x] 3) (hr : Blk W pr #[.pointer (some ⟨b, 0, none⟩)] 43) (hno : frontNo x l.length ≠ 0) :
    Calls Try.prog 65 #[.pointer (some ⟨pr, 0, none⟩), .pointer (some ⟨pw, 0, none⟩)] W fun e w' => Below W.heap.size W w' ∧ e = .panicked (errP (frontNo x l.length)) := by
  have e0 : W.cell? ⟨pw, 0, none⟩ = some (.int .i64 x) := hw.cell 0
  have e1 : W.cell? ⟨pr, 0, none⟩ = some (.pointer (some ⟨b, 0, none⟩)) := hr.cell 0
  have e2 : W.cell? ⟨b, 0, none⟩ = some (.slice a l.length c) := hb.cell 0
  have hrd : Rd W b l 0 := ⟨a, c, hb, hl⟩
  have hB1 : Below W.heap.size W W.drew := (Below.refl _ W).drew
  have hf := front_no b x l 0 _ (hrd.below hB1) hno
  clear hl hb hw hr hno
  go_enter Try.func65, Try.ntmps65
  go_upto_region 1 with fail
  refine wp_region_cuts [.q [_, _, _, _]] [_, _, _] rfl (fun w'' => Below W.heap.size W w'') (by kernel_rfl) (by kernel_rfl) (fun _ _ d _ _ h => by cases d <;> exact h) ?_
  refine cut_q (Below.refl _ W).drew ?_
  repeat (first | go_big_quiet_step ((intros; rfl)) | quiet_step ((intros; rfl)) | fail | (refine wq_loadB rfl rfl (by kernel_rfl) (by assumption) ?_; simp only [Act.put, List.setIfInBounds_toArray, List.set_cons_succ, List.set_cons_zero]))
  refine wpQuiet_nil ?_
  refine cut_end ?_
  go_wp2_with fail
  refine hf.mono ?_
  rintro e W1 ⟨rfl, rfl⟩
  go_wp2
  exact ⟨rfl, hB1, rfl⟩

def rdTake (s : RSt) (x : Int) : RSt × List UInt8 := if s.2 = 0 then (if frontNo x s.1.length = 0 then ((s.1.drop x.toNat, 0), s.1.take x.toNat) else ((s.1, frontNo x s.1.length), [])) else (s, [])

theorem frontNo_zero {x : Int} {n : Nat} (h : frontNo x n = 0) : ∃ k : Nat, x = k ∧ k ≤ n := by
  unfold frontNo at h
  split at h
  · cases h
  · split at h
    · cases h
    · exact ⟨x.toNat, by omega, by omega⟩

/-- what a call that reads bytes leaves -/
def ReadB (w w' : World) (e : Ending) (b : Nat) (r : RSt × List UInt8) : Prop := ∃ va vc, e = .returned (.slice va r.2.length vc) ∧ OwnB w.heap.size w' (.slice va r.2.length vc) r.2 ∧ w.grownBy w' (some b) ∧ Rd w' b r.1.1 r.1.2

set_option maxRecDepth 100000 in
set_option maxHeartbeats 1000000 in
theorem rbytes_any (b : Nat) (s : RSt) (x : Int) (w : World) (h : Rd w b s.1 s.2) (hlen : s.1.length ≤ 1048576) :
    Calls Try.prog 38 #[.pointer (some ⟨b, 0, none⟩), .int .i64 x] w fun e w' => ReadB w w' e b (rdTake s x) := by
  obtain ⟨l, f⟩ := s
  simp only at h hlen
  have hB := Below.upA (Below.new w (.cells #[.pointer (some ⟨b, 0, none⟩)] 43)) (.cells #[.int .i64 x] 3)
  have br := (Blk.new w #[.pointer (some ⟨b, 0, none⟩)] 43).alloc (.cells #[.int .i64 x] 3)
  have bw := Blk.new (w.alloc (.cells #[.pointer (some ⟨b, 0, none⟩)] 43)) #[.int .i64 x] 3
  simp only [World.size_alloc] at bw
  have hR := h.below hB
  have HR := Lib.hid hR
  obtain ⟨a, c, hbb, hl⟩ := hR
  have hlt := h.lt
  obtain ⟨S, hS⟩ : ∃ S, rdTake (l, f) x = S := ⟨_, rfl⟩
  rw [hS]
  unfold rdTake at hS
  simp only at hS
  by_cases hf : f = 0
  · subst hf
    rw [if_pos rfl] at hS
    by_cases hn : frontNo x l.length = 0
    · rw [if_pos hn] at hS
      obtain ⟨k, rfl, g3⟩ := frontNo_zero hn
      rw [Int.toNat_natCast] at hS
      subst hS
      clear hn
      go_enter Try.func38, Try.ntmps38
      go_wp2_with fail
      refine reads_S_byte 65 _ (fun w => by kernel_rfl) b a l.length c _ hbb _ ?_
      intro W0 hB0
      refine (bytes1_yes b _ _ k a c l W0 (hbb.up hB0) (hl.below hB0) (bw.up hB0) (br.up hB0) g3 hlen).mono ?_
      rintro e w' ⟨hg, ⟨va, vn, vc, rfl, ho⟩, hm⟩
      refine ⟨hg, .inl ⟨_, _, _, rfl, ?_⟩⟩
      intro w2 hg2 hk2
      have hrd2 := hm.rd hbb hl hg2 (hk2 b (.inl hbb.lt))
      have hgw := gb_of hB hg2
      have ho2 := (ho.kept2 hk2).base (Below.up hB hB0).size
      have hvn := ho2.bytes.at
      subst hvn
      have hlk := Lib.hid (show (l.take k).length = k from by rw [List.length_take, Nat.min_eq_left g3])
      clear hk2 hm hg hB0 ho
      go_wp2
      go_ret
      refine ⟨va, vc, ?_, ho2, hgw, hrd2⟩
      show _ = Ending.returned (.slice va (l.take k).length vc)
      rw [hlk.out]
      rfl
    · rw [if_neg hn] at hS
      subst hS
      have HN := Lib.hid hn
      clear hn
      go_enter Try.func38, Try.ntmps38
      go_wp2_with fail
      refine reads_S_byte 65 _ (fun w => by kernel_rfl) b a l.length c _ hbb _ ?_
      intro W0 hB0
      refine (bytes1_no b _ _ x a c l W0 (hbb.up hB0) (hl.below hB0) (bw.up hB0) (br.up hB0) HN.out).mono ?_
      rintro e w' ⟨hBw, rfl⟩
      refine ⟨gb_below (gb_refl W0 (some b)) hBw (Nat.le_refl _), .inr ⟨_, _, HN.out, rfl, (hbb.up hB0).up hBw, ?_⟩⟩
      intro w2 hg2 hb2
      have hrd2 : Rd w2 b l (frontNo x l.length) := ⟨a, c, hb2, hl.gb hbb hg2⟩
      have hgw := gb_of hB hg2
      clear hB0 hBw hb2
      go_wp2
      go_ret
      exact ⟨_, _, rfl, World.ownsRow_nil _ _ _ _, hgw, hrd2⟩
  · rw [if_neg hf] at hS
    subst hS
    have HF := Lib.hid hf
    clear hf
    go_enter Try.func38, Try.ntmps38
    go_wp2_with fail
    refine (readsF_S_byte _ b _ f _ hbb HF.out).mono ?_
    rintro e W1 ⟨rfl, rfl⟩
    go_wp2
    go_ret
    exact ⟨_, _, rfl, World.ownsRow_nil _ _ _ _, gb_below (gb_refl w (some b)) hB (Nat.le_refl _), HR.out⟩

theorem rbytesN_any (x : Int) (w : World) : Calls Try.prog 38 #[.pointer none, .int .i64 x] w fun e w' => e = .returned (.slice none 0 0) ∧ Below w.heap.size w w' := by
  have hB := Below.upA (Below.new w (.cells #[.pointer none] 43)) (.cells #[.int .i64 x] 3)
  go_enter Try.func38, Try.ntmps38
  go_wp2_with fail
  refine (readsN_S_byte _ _).mono ?_
  rintro e W1 ⟨rfl, rfl⟩
  go_wp2
  go_ret
  exact ⟨rfl, hB⟩

end Go.Proofs.Ytpooakhmpfbmgaa
