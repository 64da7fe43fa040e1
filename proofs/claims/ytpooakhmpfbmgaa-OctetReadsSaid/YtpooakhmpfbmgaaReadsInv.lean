/- Reader: End, Err, Left, in all ways. Readers: what they read, and that their bytes are parts of those that they had. gessolaw01.OctetReads: what is known at each step. -/
import Derived.Test.YtpooakhmpfbmgaaOctRest
import Derived.ChangeSame
import Derived.Test.YtpooakhmpfbmgaaPutsLaw
import Derived.Test.YtpooakhmpfbmgaaBackLaw2
namespace Go.Proofs.Ytpooakhmpfbmgaa
open Go.RowKit

set_option maxHeartbeats 400000 in
theorem end_any (b : Nat) (s : RSt) (w : World) (h : Rd w b s.1 s.2) :
    Calls Try.prog 23 #[.pointer (some ⟨b, 0, none⟩)] w fun e w' => e = .returned (.int .i64 (endOf s.2 s.1.length)) ∧ Below w.heap.size w w' := by
  obtain ⟨l, f⟩ := s
  obtain ⟨a, c, hb, hl⟩ := h
  simp only at hb hl ⊢
  unfold endOf
  by_cases hf : f = 0
  · subst hf
    rw [if_pos rfl]
    by_cases hn : l.length = 0
    · rw [if_pos hn]
      rw [hn] at hb
      exact end_ok b a c w hb
    · rw [if_neg hn]
      have hq : decide (0 < l.length) = true := by simp; omega
      go_enter Try.func23, Try.ntmps23
      go_wp2_with fail
      refine (err_any b _ 0 _ hb).mono ?_
      rintro e W1 ⟨rfl, hB1⟩
      have h1 := Blk.up hb hB1
      go_wp2_with fail
      refine (left_any b a l.length c 0 _ h1).mono ?_
      rintro e W2 ⟨rfl, hB2⟩
      go_wp2
      go_ret
      exact ⟨rfl, Below.up hB1 hB2⟩
  · rw [if_neg hf]
    have hq : (f != 0) = true := by simpa using hf
    clear hf
    go_enter Try.func23, Try.ntmps23
    go_wp2_with fail
    refine (err_any b _ f _ hb).mono ?_
    rintro e W1 ⟨rfl, hB1⟩
    go_wp2
    go_ret
    exact ⟨rfl, hB1⟩
theorem err_rd (b : Nat) (s : RSt) (w : World) (h : Rd w b s.1 s.2) :
    Calls Try.prog 24 #[.pointer (some ⟨b, 0, none⟩)] w fun e w' => e = .returned (.int .i64 s.2) ∧ Below w.heap.size w w' := by
  obtain ⟨a, c, hb, hl⟩ := h
  exact err_any b _ _ w hb
theorem left_rd (b : Nat) (s : RSt) (w : World) (h : Rd w b s.1 s.2) :
    Calls Try.prog 41 #[.pointer (some ⟨b, 0, none⟩)] w fun e w' => e = .returned (.int .i64 s.1.length) ∧ Below w.heap.size w w' := by
  obtain ⟨a, c, hb, hl⟩ := h
  exact left_any b a _ c _ w hb

set_option maxHeartbeats 400000 in
theorem errN (w : World) : Calls Try.prog 24 #[.pointer none] w fun e w' => e = .returned (.int .i64 1) ∧ w = w' := by
  go_enter Try.func24, Try.ntmps24
  go_wp2
  go_ret
  exact ⟨rfl, rfl⟩
set_option maxHeartbeats 400000 in
theorem leftN (w : World) : Calls Try.prog 41 #[.pointer none] w fun e w' => e = .returned (.int .i64 0) ∧ w = w' := by
  go_enter Try.func41, Try.ntmps41
  go_wp2
  go_ret
  exact ⟨rfl, rfl⟩
set_option maxHeartbeats 400000 in
theorem endN (w : World) : Calls Try.prog 23 #[.pointer none] w fun e w' => e = .returned (.int .i64 1) ∧ w = w' := by
  go_enter Try.func23, Try.ntmps23
  go_wp2_with fail
  refine (errN _).mono ?_
  rintro e W1 ⟨rfl, rfl⟩
  go_wp2
  go_ret
  exact ⟨rfl, rfl⟩

/-- steps: (kind, how many) -/
abbrev Step2 := Int × Int
abbrev st2 (m : Step2) : List Value := [cI m.1, cI m.2]
def StepsS (w : World) (v : Value) (L : List Step2) : Prop := IsSl w v L.length (L.flatMap st2)
theorem StepsS.below {w w' : World} {v : Value} {l : List Step2} (h : StepsS w v l) (hb : Below w.heap.size w w') : StepsS w' v l := IsSl.below h hb
theorem StepsS.get {w : World} {a : Option Addr} {n c k : Nat} {L : List Step2} (h : StepsS w (.slice a n c) L) (hk : k < L.length) : ∃ b o, a = some ⟨b, o, none⟩ ∧ w.cell? ⟨b, o + k * 2, none⟩ = some (cI L[k].1) ∧ w.cell? ⟨b, o + k * 2 + 1, none⟩ = some (cI L[k].2) := by
  obtain ⟨a', c', e, _, _, _, h5⟩ := h
  cases e
  obtain ⟨b, o, rfl, e0⟩ := h5 (k * 2 + 0) (cI L[k].1) (by rw [flatMap_get st2 2 (fun _ => rfl) L k 0 hk (by omega)]; rfl)
  obtain ⟨b1, o1, q1, e1⟩ := h5 (k * 2 + 1) (cI L[k].2) (by rw [flatMap_get st2 2 (fun _ => rfl) L k 1 hk (by omega)]; rfl)
  cases q1
  exact ⟨b, o, rfl, e0, e1⟩
theorem steps_of_trod {H : Type} {enc : TypeId × Value → H} {w : World} {base : Nat} {spare : Nat → Bool} {held : Bool} {fuel : Nat} {a : Option Addr} {n c : Nat} {x : DataW H × List MemPlace} (h : DataW.trod enc Try.prog w base spare held fuel 66 [.slice a n c] = some x) :
    ∃ l : List Step2, l.length = n ∧ StepsS w (.slice a n c) l := by
  obtain ⟨l, hl, hs⟩ := rows_of_trod (fun y : Step2 => st2 y) 2 (by decide) (fun _ => rfl) (by kernel_rfl) Try.underlying66 (fun fuel cs x h => by
    obtain ⟨y0, y1, n, _, hl, h0, h1⟩ := Go.ChangeShapes.trod_struct2 Try.underlying70 h
    rw [show Try.prog.cellsOf 70 = 2 from by kernel_rfl] at hl
    simp only [show Try.prog.cellsOf 3 = 1 from by kernel_rfl] at h0 h1
    match cs, hl with
    | [v0, v1], _ =>
      obtain ⟨m0, e0, _, w0⟩ := DataW.trod_int Try.underlying3 h0
      obtain ⟨m1, e1, _, w1⟩ := DataW.trod_int Try.underlying3 h1
      simp at e0 e1
      exact ⟨(m0, m1), by simp [e0, e1]⟩) h
  refine ⟨l, hl, ?_⟩
  unfold StepsS
  rw [hl]
  exact hs

end Go.Proofs.Ytpooakhmpfbmgaa
namespace Go.Proofs.Ytpooakhmpfbmgaa
open Go.RowKit

/-- a reader whose bytes are a part of the slice v, of bytes l -/
def RdM (w : World) (b : Nat) (v : Value) (l : List UInt8) (s : RSt) : Prop := ∃ a c, Blk w b (rdC (.slice a s.1.length c) s.2) 88 ∧ ∀ W, Bytes W v l → Bytes W (.slice a s.1.length c) s.1
theorem Moved.rdm {l : List UInt8} {k : Nat} {a : Option Addr} {c : Nat} {b : Nat} {w' w2 : World} (h : Moved l k a c b w') (he : w2.heap[b]? = w'.heap[b]?) : RdM w2 b (.slice a l.length c) l (l.drop k, 0) := by
  obtain ⟨a', c', h1, h2⟩ := h
  refine ⟨a', c', ?_, fun W hW => ?_⟩
  · simp only [List.length_drop]; exact blk_at h1 he
  · simp only [List.length_drop]; exact h2 W hW
/-- what a call that reads bytes leaves -/
def ReadBM (w w' : World) (e : Ending) (b : Nat) (v : Value) (l : List UInt8) (r : RSt × List UInt8) : Prop := ∃ va vc, e = .returned (.slice va r.2.length vc) ∧ OwnB w.heap.size w' (.slice va r.2.length vc) r.2 ∧ w.grownBy w' (some b) ∧ RdM w' b v l r.1

set_option maxRecDepth 100000 in
set_option maxHeartbeats 1000000 in
theorem number_anyM (b : Nat) (s : RSt) (a : Option Addr) (c : Nat) (x : Int) (w : World) (h : Blk w b (rdC (.slice a s.1.length c) s.2) 88) (hl0 : Bytes w (.slice a s.1.length c) s.1) :
    Calls Try.prog 35 #[.pointer (some ⟨b, 0, none⟩), .int .i64 x] w fun e w' => e = .returned (.int .u64 (rdNum s x).2) ∧ w.grownBy w' (some b) ∧ RdM w' b (.slice a s.1.length c) s.1 (rdNum s x).1 := by
  obtain ⟨l, f⟩ := s
  simp only at h hl0
  have hB := Below.upA (Below.new w (.cells #[.pointer (some ⟨b, 0, none⟩)] 43)) (.cells #[.int .i64 x] 3)
  have br := (Blk.new w #[.pointer (some ⟨b, 0, none⟩)] 43).alloc (.cells #[.int .i64 x] 3)
  have bw := Blk.new (w.alloc (.cells #[.pointer (some ⟨b, 0, none⟩)] 43)) #[.int .i64 x] 3
  simp only [World.size_alloc] at bw
  have hbb := h.up hB
  have hl := hl0.below hB
  have HR := Lib.hid hbb
  have hlt := h.lt
  obtain ⟨S, hS⟩ : ∃ S, rdNum (l, f) x = S := ⟨_, rfl⟩
  rw [hS]
  unfold rdNum at hS
  simp only at hS
  by_cases hf : f = 0
  · subst hf
    rw [if_pos rfl] at hS
    by_cases hn : numNo x l.length = 0
    · rw [if_pos hn] at hS
      obtain ⟨k, rfl, g1, g2, g3⟩ := numNo_zero hn
      rw [Int.toNat_natCast] at hS
      subst hS
      clear hn
      go_enter Try.func35, Try.ntmps35
      go_wp2_with fail
      refine reads_uint64 64 _ (fun w => by kernel_rfl) b a l.length c _ hbb _ ?_
      intro W0 hB0
      refine (number1_yes b _ _ k a c l W0 (hbb.up hB0) (hl.below hB0) (bw.up hB0) (br.up hB0) g1 g2 g3).mono ?_
      rintro e w' ⟨hg, rfl, hm⟩
      refine ⟨hg, .inl ⟨_, rfl, ?_⟩⟩
      intro w2 hg2 hk2
      have hrd2 := hm.rdm (hk2 b (.inl hbb.lt))
      have hgw := gb_of hB hg2
      clear hk2 hm hg hB0
      go_wp2
      go_ret
      exact ⟨rfl, hgw, hrd2⟩
    · rw [if_neg hn] at hS
      subst hS
      have HN := Lib.hid hn
      clear hn
      go_enter Try.func35, Try.ntmps35
      go_wp2_with fail
      refine reads_uint64 64 _ (fun w => by kernel_rfl) b a l.length c _ hbb _ ?_
      intro W0 hB0
      refine (number1_no b _ _ x a c l W0 (hbb.up hB0) (hl.below hB0) (bw.up hB0) (br.up hB0) HN.out).mono ?_
      rintro e w' ⟨hBw, rfl⟩
      refine ⟨gb_below (gb_refl W0 (some b)) hBw (Nat.le_refl _), .inr ⟨_, _, HN.out, rfl, (hbb.up hB0).up hBw, ?_⟩⟩
      intro w2 hg2 hb2
      have hrd2 : RdM w2 b (.slice a l.length c) l (l, numNo x l.length) := ⟨a, c, hb2, fun W hW => hW⟩
      have hgw := gb_of hB hg2
      clear hB0 hBw hb2
      go_wp2
      go_ret
      exact ⟨rfl, hgw, hrd2⟩
  · rw [if_neg hf] at hS
    subst hS
    have HF := Lib.hid hf
    clear hf
    go_enter Try.func35, Try.ntmps35
    go_wp2_with fail
    refine (readsF_uint64 _ b _ f _ hbb HF.out).mono ?_
    rintro e W1 ⟨rfl, rfl⟩
    go_wp2
    go_ret
    exact ⟨rfl, gb_below (gb_refl w (some b)) hB (Nat.le_refl _), a, c, HR.out, fun W hW => hW⟩

set_option maxRecDepth 100000 in
set_option maxHeartbeats 1000000 in
theorem rbytes_anyM (b : Nat) (s : RSt) (a : Option Addr) (c : Nat) (x : Int) (w : World) (h : Blk w b (rdC (.slice a s.1.length c) s.2) 88) (hl0 : Bytes w (.slice a s.1.length c) s.1) (hlen : s.1.length ≤ 1048576) :
    Calls Try.prog 38 #[.pointer (some ⟨b, 0, none⟩), .int .i64 x] w fun e w' => ReadBM w w' e b (.slice a s.1.length c) s.1 (rdTake s x) := by
  obtain ⟨l, f⟩ := s
  simp only at h hl0 hlen
  have hB := Below.upA (Below.new w (.cells #[.pointer (some ⟨b, 0, none⟩)] 43)) (.cells #[.int .i64 x] 3)
  have br := (Blk.new w #[.pointer (some ⟨b, 0, none⟩)] 43).alloc (.cells #[.int .i64 x] 3)
  have bw := Blk.new (w.alloc (.cells #[.pointer (some ⟨b, 0, none⟩)] 43)) #[.int .i64 x] 3
  simp only [World.size_alloc] at bw
  have hbb := h.up hB
  have hl := hl0.below hB
  have HR := Lib.hid hbb
  have hlt := h.lt
  obtain ⟨S, hS⟩ : ∃ S, rdTake (l, f) x = S := ⟨_, rfl⟩
  rw [hS]
  unfold rdTake at hS
  simp only at hS
  by_cases hf : f = 0
  · subst hf
    rw [if_pos rfl] at hS
    by_cases hn : frontNo x l.length = 0
    · rw [if_pos hn] at hS
      obtain ⟨k, rfl, g3⟩ := frontNo_zero hn
      rw [Int.toNat_natCast] at hS
      subst hS
      clear hn
      go_enter Try.func38, Try.ntmps38
      go_wp2_with fail
      refine reads_S_byte 65 _ (fun w => by kernel_rfl) b a l.length c _ hbb _ ?_
      intro W0 hB0
      refine (bytes1_yes b _ _ k a c l W0 (hbb.up hB0) (hl.below hB0) (bw.up hB0) (br.up hB0) g3 hlen).mono ?_
      rintro e w' ⟨hg, ⟨va, vn, vc, rfl, ho⟩, hm⟩
      refine ⟨hg, .inl ⟨_, _, _, rfl, ?_⟩⟩
      intro w2 hg2 hk2
      have hrd2 := hm.rdm (hk2 b (.inl hbb.lt))
      have hgw := gb_of hB hg2
      have ho2 := (ho.kept2 hk2).base (Below.up hB hB0).size
      have hvn := ho2.bytes.at
      subst hvn
      have hlk := Lib.hid (show (l.take k).length = k from by rw [List.length_take, Nat.min_eq_left g3])
      clear hk2 hm hg hB0 ho
      go_wp2
      go_ret
      refine ⟨va, vc, ?_, ho2, hgw, hrd2⟩
      show _ = Ending.returned (.slice va (l.take k).length vc)
      rw [hlk.out]
      rfl
    · rw [if_neg hn] at hS
      subst hS
      have HN := Lib.hid hn
      clear hn
      go_enter Try.func38, Try.ntmps38
      go_wp2_with fail
      refine reads_S_byte 65 _ (fun w => by kernel_rfl) b a l.length c _ hbb _ ?_
      intro W0 hB0
      refine (bytes1_no b _ _ x a c l W0 (hbb.up hB0) (hl.below hB0) (bw.up hB0) (br.up hB0) HN.out).mono ?_
      rintro e w' ⟨hBw, rfl⟩
      refine ⟨gb_below (gb_refl W0 (some b)) hBw (Nat.le_refl _), .inr ⟨_, _, HN.out, rfl, (hbb.up hB0).up hBw, ?_⟩⟩
      intro w2 hg2 hb2
      have hrd2 : RdM w2 b (.slice a l.length c) l (l, frontNo x l.length) := ⟨a, c, hb2, fun W hW => hW⟩
      have hgw := gb_of hB hg2
      clear hB0 hBw hb2
      go_wp2
      go_ret
      exact ⟨_, _, rfl, World.ownsRow_nil _ _ _ _, hgw, hrd2⟩
  · rw [if_neg hf] at hS
    subst hS
    have HF := Lib.hid hf
    clear hf
    go_enter Try.func38, Try.ntmps38
    go_wp2_with fail
    refine (readsF_S_byte _ b _ f _ hbb HF.out).mono ?_
    rintro e W1 ⟨rfl, rfl⟩
    go_wp2
    go_ret
    exact ⟨_, _, rfl, World.ownsRow_nil _ _ _ _, gb_below (gb_refl w (some b)) hB (Nat.le_refl _), a, c, HR.out, fun W hW => hW⟩

set_option maxRecDepth 100000 in
set_option maxHeartbeats 1000000 in
theorem rpart1_anyM (b : Nat) (s : RSt) (a : Option Addr) (c : Nat) (w : World) (h : Blk w b (rdC (.slice a s.1.length c) s.2) 88) (hl0 : Bytes w (.slice a s.1.length c) s.1) (hlen : s.1.length ≤ 1048576) :
    Calls Try.prog 22 #[.pointer (some ⟨b, 0, none⟩)] w fun e w' => ReadBM w w' e b (.slice a s.1.length c) s.1 (rdPart s) := by
  obtain ⟨l, f⟩ := s
  simp only at h hl0 hlen
  have hB := Below.new w (.cells #[.pointer (some ⟨b, 0, none⟩)] 43)
  have br := Blk.new w #[.pointer (some ⟨b, 0, none⟩)] 43
  have hbb := h.up hB
  have hl := hl0.below hB
  have HR := Lib.hid hbb
  have hlt := h.lt
  obtain ⟨S, hS⟩ : ∃ S, rdPart (l, f) = S := ⟨_, rfl⟩
  rw [hS]
  unfold rdPart at hS
  simp only at hS
  by_cases hf : f = 0
  · subst hf
    rw [if_pos rfl] at hS
    by_cases h2 : l.length < 2
    · rw [if_pos h2] at hS
      subst hS
      go_enter Try.func22, Try.ntmps22
      go_wp2_with fail
      refine reads_S_byte 54 _ (fun w => by kernel_rfl) b a l.length c _ hbb _ ?_
      intro W0 hB0
      refine (part1_no2 b _ a c l W0 (hbb.up hB0) (hl.below hB0) (br.up hB0) h2).mono ?_
      rintro e w' ⟨hBw, rfl⟩
      refine ⟨gb_below (gb_refl W0 (some b)) hBw (Nat.le_refl _), .inr ⟨_, _, (by decide), rfl, (hbb.up hB0).up hBw, ?_⟩⟩
      intro w2 hg2 hb2
      have hrd2 : RdM w2 b (.slice a l.length c) l (l, 110) := ⟨a, c, hb2, fun W hW => hW⟩
      have hgw := gb_of hB hg2
      clear hB0 hBw hb2
      go_wp2
      go_ret
      exact ⟨_, _, rfl, World.ownsRow_nil _ _ _ _, hgw, hrd2⟩
    · rw [if_neg h2] at hS
      obtain ⟨m, hm⟩ : ∃ m, numB (l.take 2) = m := ⟨_, rfl⟩
      rw [hm] at hS
      have HM := Lib.hid hm
      clear hm
      by_cases h3 : l.length < 2 + m
      · rw [if_pos h3] at hS
        subst hS
        go_enter Try.func22, Try.ntmps22
        go_wp2_with fail
        refine reads_S_byte 54 _ (fun w => by kernel_rfl) b a l.length c _ hbb _ ?_
        intro W0 hB0
        refine (part1_no b _ m a c l W0 (hbb.up hB0) (hl.below hB0) (br.up hB0) HM.out (by omega) h3).mono ?_
        rintro e w' ⟨hBw, rfl⟩
        refine ⟨gb_below (gb_refl W0 (some b)) hBw (Nat.le_refl _), .inr ⟨_, _, (by decide), rfl, (hbb.up hB0).up hBw, ?_⟩⟩
        intro w2 hg2 hb2
        have hrd2 : RdM w2 b (.slice a l.length c) l (l, 110) := ⟨a, c, hb2, fun W hW => hW⟩
        have hgw := gb_of hB hg2
        clear hB0 hBw hb2
        go_wp2
        go_ret
        exact ⟨_, _, rfl, World.ownsRow_nil _ _ _ _, hgw, hrd2⟩
      · rw [if_neg h3] at hS
        subst hS
        have hlk := Lib.hid (show ((l.drop 2).take m).length = m from by rw [List.length_take, List.length_drop]; omega)
        go_enter Try.func22, Try.ntmps22
        go_wp2_with fail
        refine reads_S_byte 54 _ (fun w => by kernel_rfl) b a l.length c _ hbb _ ?_
        intro W0 hB0
        refine (part1_yes b _ m a c l W0 (hbb.up hB0) (hl.below hB0) (br.up hB0) HM.out (by omega) hlen).mono ?_
        rintro e w' ⟨hg, ⟨va, vn, vc, rfl, ho⟩, hm⟩
        refine ⟨hg, .inl ⟨_, _, _, rfl, ?_⟩⟩
        intro w2 hg2 hk2
        have hrd2 := hm.rdm (hk2 b (.inl hbb.lt))
        have hgw := gb_of hB hg2
        have ho2 := (ho.kept2 hk2).base (Below.up hB hB0).size
        have hvn := ho2.bytes.at
        rw [hlk.out] at hvn
        subst hvn
        clear hk2 hm hg hB0 ho
        go_wp2
        go_ret
        refine ⟨va, vc, ?_, by rw [hlk.out]; exact ho2, hgw, hrd2⟩
        rw [hlk.out]
        rfl
  · rw [if_neg hf] at hS
    subst hS
    have HF := Lib.hid hf
    clear hf
    go_enter Try.func22, Try.ntmps22
    go_wp2_with fail
    refine (readsF_S_byte _ b _ f _ hbb HF.out).mono ?_
    rintro e W1 ⟨rfl, rfl⟩
    go_wp2
    go_ret
    exact ⟨_, _, rfl, World.ownsRow_nil _ _ _ _, gb_below (gb_refl w (some b)) hB (Nat.le_refl _), a, c, HR.out, fun W hW => hW⟩

end Go.Proofs.Ytpooakhmpfbmgaa
namespace Go.Proofs.Ytpooakhmpfbmgaa
open Go.RowKit

/-- the world wo behind the reader's and the reference's making: a reader at rb over the slice vr, a Rest at pw over vw, both of bytes X -/
structure RlBase (w wo : World) (rb pw : Nat) (vr vw : Value) (X : List UInt8) : Prop where
  br : Bytes wo vr X
  bw : Bytes wo vw X
  kr : ∃ a n c f, Blk wo rb (rdC (.slice a n c) f) 88
  kw : ∃ a n c f, Blk wo pw #[.slice a n c, .int .i64 f] 68
  lr : w.heap.size ≤ rb
  lw : w.heap.size ≤ pw
  ne : rb ≠ pw
/-- s: the reader's state; t: the reference's -/
structure RlInv (w wo wr : World) (rb pw : Nat) (vr vw : Value) (X : List UInt8) (s t : RSt) : Prop where
  bel : Below w.heap.size w wr
  old : ∀ k, k < wo.heap.size → k ≠ rb → k ≠ pw → wr.heap[k]? = wo.heap[k]?
  size : wo.heap.size ≤ wr.heap.size
  rd : RdM wr rb vr X s
  wt : ∃ a c, Blk wr pw #[.slice a t.1.length c, .int .i64 t.2] 68 ∧ ∀ W, Bytes W vw X → Bytes W (.slice a t.1.length c) t.1
section
variable {w wo wr w1 : World} {rb pw : Nat} {vr vw v : Value} {X l : List UInt8} {s t : RSt}
theorem rl_bytes (hb : RlBase w wo rb pw vr vw X) (hi : RlInv w wo wr rb pw vr vw X s t) (h : Bytes wo v l) : Bytes wr v l := by
  obtain ⟨a, c, h1, h2, h3, h4, h5⟩ := h
  refine ⟨a, c, h1, h2, h3, h4, fun j u hu => ?_⟩
  obtain ⟨p, o, rfl, hc⟩ := h5 j u hu
  have hlt := World.block_lt_of_cell? wo _ hc
  refine ⟨p, o, rfl, (World.cell?_of_block (a := ⟨p, o + j, none⟩) (hi.old p hlt ?_ ?_)).trans hc⟩
  · rintro rfl
    obtain ⟨a, n, c, f, hr⟩ := hb.kr
    exact rdC_no hr hu hc
  · rintro rfl
    obtain ⟨a, n, c, f, hr⟩ := hb.kw
    rw [hr.cell] at hc
    rw [List.getElem?_map, Option.map_eq_some_iff] at hu
    obtain ⟨x, _, rfl⟩ := hu
    generalize o + j = q at hc
    match q with
    | 0 => simp at hc
    | 1 => simp [vb] at hc
    | q + 2 => simp at hc
theorem RlInv.rdBlk (hb : RlBase w wo rb pw vr vw X) (hi : RlInv w wo wr rb pw vr vw X s t) : ∃ a c, Blk wr rb (rdC (.slice a s.1.length c) s.2) 88 ∧ Bytes wr (.slice a s.1.length c) s.1 ∧ ∀ W, Bytes W vr X → Bytes W (.slice a s.1.length c) s.1 := by
  obtain ⟨a, c, h1, h2⟩ := hi.rd
  exact ⟨a, c, h1, h2 wr (rl_bytes hb hi hb.br), h2⟩
theorem RlInv.wtBlk (hb : RlBase w wo rb pw vr vw X) (hi : RlInv w wo wr rb pw vr vw X s t) : ∃ a c, Blk wr pw #[.slice a t.1.length c, .int .i64 t.2] 68 ∧ Bytes wr (.slice a t.1.length c) t.1 ∧ ∀ W, Bytes W vw X → Bytes W (.slice a t.1.length c) t.1 := by
  obtain ⟨a, c, h1, h2⟩ := hi.wt
  exact ⟨a, c, h1, h2 wr (rl_bytes hb hi hb.bw), h2⟩
theorem RlInv.rdR (hb : RlBase w wo rb pw vr vw X) (hi : RlInv w wo wr rb pw vr vw X s t) : Rd wr rb s.1 s.2 := by
  obtain ⟨a, c, h1, h2, _⟩ := hi.rdBlk hb
  exact ⟨a, c, h1, h2⟩
theorem RdM.up {w w' : World} {b : Nat} {v : Value} {l : List UInt8} {s : RSt} (h : RdM w b v l s) (he : w'.heap[b]? = w.heap[b]?) : RdM w' b v l s := by
  obtain ⟨a, c, h1, h2⟩ := h
  exact ⟨a, c, blk_at h1 he, h2⟩
theorem RdM.lt {w : World} {b : Nat} {v : Value} {l : List UInt8} {s : RSt} (h : RdM w b v l s) : b < w.heap.size := by
  obtain ⟨a, c, h1, _⟩ := h
  exact h1.lt
theorem RlInv.below (hi : RlInv w wo wr rb pw vr vw X s t) (h : Below wr.heap.size wr w1) : RlInv w wo w1 rb pw vr vw X s t := by
  obtain ⟨a, c, h1, h2⟩ := hi.wt
  exact ⟨Below.up hi.bel h, fun k hk n1 n2 => (h.block k (Nat.lt_of_lt_of_le hk hi.size)).trans (hi.old k hk n1 n2), Nat.le_trans hi.size h.size, hi.rd.up (h.block _ hi.rd.lt), a, c, h1.up h, h2⟩
/-- the reference's state is stored -/
theorem RlInv.put (hb : RlBase w wo rb pw vr vw X) (hi : RlInv w wo wr rb pw vr vw X s t) {wa : Option Addr} {wc : Nat} (hU : ∀ W, Bytes W vw X → Bytes W (.slice wa t.1.length wc) t.1) {t' : RSt} {na : Option Addr} {nc : Nat} (hnU : ∀ W, Bytes W (.slice wa t.1.length wc) t.1 → Bytes W (.slice na t'.1.length nc) t'.1) :
    RlInv w wo (wr.setRow pw #[.slice na t'.1.length nc, .int .i64 t'.2]) rb pw vr vw X s t' := by
  obtain ⟨xa, xc, hw1, _⟩ := hi.wt
  exact ⟨below_setRow hi.bel hb.lw _, fun k hk n1 n2 => (setRow_other _ _ _ _ n2).trans (hi.old k hk n1 n2), by have := hi.size; simpa using this, hi.rd.up (setRow_other _ _ _ _ hb.ne), na, nc, hw1.setRow _, fun W hW => hnU W (hU W hW)⟩
/-- the reader reads -/
theorem RlInv.read (hb : RlBase w wo rb pw vr vw X) (hi : RlInv w wo wr rb pw vr vw X s t) {ra : Option Addr} {rc : Nat} (hU : ∀ W, Bytes W vr X → Bytes W (.slice ra s.1.length rc) s.1) {s' : RSt} (hg : wr.grownBy w1 (some rb)) (hr : RdM w1 rb (.slice ra s.1.length rc) s.1 s') :
    RlInv w wo w1 rb pw vr vw X s' t := by
  obtain ⟨xa, xc, hw1, hw2⟩ := hi.wt
  obtain ⟨ya, yc, hr1, hr2⟩ := hr
  exact ⟨below_gb hi.bel hg hb.lr, fun k hk n1 n2 => (hg.block k (Nat.lt_of_lt_of_le hk hi.size) (by simpa using n1)).trans (hi.old k hk n1 n2), Nat.le_trans hi.size hg.size, ⟨ya, yc, hr1, fun W hW => hr2 W (hU W hW)⟩, xa, xc, hw1.grown hg (by simp; exact fun e => hb.ne e.symm), hw2⟩
/-- new memory is written -/
theorem RlInv.setG (hi : RlInv w wo wr rb pw vr vw X s t) {g : Nat} (h0 : wo.heap.size ≤ g) (h1 : g ≠ rb) (h2 : g ≠ pw) (h3 : w.heap.size ≤ g) (i : Nat) (u : Value) : RlInv w wo (wr.setCell ⟨g, i, none⟩ u) rb pw vr vw X s t := by
  obtain ⟨a, c, k1, k2⟩ := hi.wt
  exact ⟨Below.setCell hi.bel h3 u, fun k hk n1 n2 => (Below.heap_setCell _ _ _ _ (by simp; omega)).trans (hi.old k hk n1 n2), by simpa using hi.size, hi.rd.up (Below.heap_setCell _ _ _ _ (by simpa using h1.symm)), a, c, k1.other _ _ (by simpa using h2.symm), k2⟩
end
theorem OwnB.setRowO {base : Nat} {w : World} {v : Value} {l : List UInt8} (h : OwnB base w v l) (b : Nat) (cs : Array Value) (hb : b < base) : OwnB base (w.setRow b cs) v l :=
  ownsRow_block h (fun g hg => setRow_other _ _ _ _ (by have := (h.lt g hg).1; omega))
theorem rdNum_len (s : RSt) (x : Int) : (rdNum s x).1.1.length ≤ s.1.length := by
  unfold rdNum
  split
  · split
    · simp
    · exact Nat.le_refl _
  · exact Nat.le_refl _
theorem rdTake_len1 (s : RSt) (x : Int) : (rdTake s x).1.1.length ≤ s.1.length := by
  unfold rdTake
  split
  · split
    · simp
    · exact Nat.le_refl _
  · exact Nat.le_refl _
theorem rdPart_len1 (s : RSt) : (rdPart s).1.1.length ≤ s.1.length := by
  unfold rdPart
  split
  · split
    · exact Nat.le_refl _
    · split
      · exact Nat.le_refl _
      · simp
  · exact Nat.le_refl _

theorem end_eq (l : List UInt8) (f : Int) : endOf f l.length = if f = 0 then (if 0 < l.length then 113 else 0) else f := by
  unfold endOf
  split
  · by_cases h : l.length = 0
    · rw [if_pos h, if_neg (by omega)]
    · rw [if_neg h, if_pos (by omega)]
  · rfl

end Go.Proofs.Ytpooakhmpfbmgaa
