/- Reader.Number. -/
import Derived.Test.YtpooakhmpfbmgaaOctReads
import Derived.Test.YtpooakhmpfbmgaaCanon
namespace Go.Proofs.Ytpooakhmpfbmgaa
open Go.RowKit

theorem wl_slice_lU {ops : Array Oper} {Q : Exit → Act → World → Prop} {rest : List Oper} {a : Act} {w : World} {dst : Option Tmp} {p q : Operand} {ty : TypeId} {pos : String} {af : Array Edge} {g : Option (Nat × Bool)} {ad : Option Addr} {n c : Nat} {l : List UInt8} (lo : Nat)
    (hw : Region.wanted ⟨dst, .slice 22 p (some q) none none, ty, pos, af, g⟩ (yielded ops a.tmps) = true) (hp : a.eval p = .slice ad n c) (hq : a.eval q = .int .i64 lo) (hb : Bytes w (.slice ad n c) l) (h1 : lo ≤ l.length)
    (hk : ∀ a' c', (∀ W, Bytes W (.slice ad n c) l → Bytes W (.slice a' (l.length - lo) c') (l.drop lo)) → wpList Try.prog ops Q rest (a.put dst (.slice a' (l.length - lo) c')) w) : wpList Try.prog ops Q (⟨dst, .slice 22 p (some q) none none, ty, pos, af, g⟩ :: rest) a w := by
  have hb0 := hb
  obtain ⟨a0, c0, e, q1, _⟩ := hb0
  cases e
  obtain ⟨a', c', e1, hb'⟩ := Bytes.sliced hb h1 (Nat.le_refl _) q1 (Nat.le_refl _)
  have hU : ∀ W, Bytes W (.slice ad l.length c) l → Bytes W (.slice a' (l.length - lo) c') (l.drop lo) := fun W hW => by
    obtain ⟨a2, c2, e2, hb2⟩ := Bytes.sliced hW h1 (Nat.le_refl _) q1 (Nat.le_refl _)
    rw [e1] at e2
    cases e2
    rwa [List.take_of_length_le (by simp)] at hb2
  refine wl_of hw ?_ (hk a' c' hU)
  have h := run_slice_l (P := Try.prog) (w := w) 22 ad l.length c (by kernel_rfl) .i64 (lo : Int) (by omega) (by omega)
  rw [u8_sz] at h
  simp only [Int.toNat_natCast, Result.andThen_ok, e1] at h
  simp only [execOp, Option.map_some, Option.map_none, hp, hq, Sem.run_bind, run_sliceAt_slice (P := Try.prog) (w := w) 22 _ _ _ _ (by kernel_rfl), h, Result.andThen_ok, Sem.run_pure]

theorem wq_slice_lU {ops : Array Oper} {C : World → Prop} {Q : Act → Prop} {rest : List Oper} {a : Act} {dst : Option Tmp} {p q : Operand} {ty : TypeId} {pos : String} {af : Array Edge} {g : Option (Nat × Bool)} {ad : Option Addr} {n c : Nat} {l : List UInt8} (w : World) (lo : Nat)
    (hw : Region.wanted ⟨dst, .slice 22 p (some q) none none, ty, pos, af, g⟩ (yielded ops a.tmps) = true) (hp : a.eval p = .slice ad n c) (hq : a.eval q = .int .i64 lo) (hb : Bytes w (.slice ad n c) l) (h1 : lo ≤ l.length)
    (hk : ∀ a' c', (∀ W, Bytes W (.slice ad n c) l → Bytes W (.slice a' (l.length - lo) c') (l.drop lo)) → wpQuiet Try.prog ops C Q rest (a.put dst (.slice a' (l.length - lo) c'))) : wpQuiet Try.prog ops C Q (⟨dst, .slice 22 p (some q) none none, ty, pos, af, g⟩ :: rest) a := by
  have hb0 := hb
  obtain ⟨a0, c0, e, q1, _⟩ := hb0
  cases e
  obtain ⟨a', c', e1, hb'⟩ := Bytes.sliced hb h1 (Nat.le_refl _) q1 (Nat.le_refl _)
  have hU : ∀ W, Bytes W (.slice ad l.length c) l → Bytes W (.slice a' (l.length - lo) c') (l.drop lo) := fun W hW => by
    obtain ⟨a2, c2, e2, hb2⟩ := Bytes.sliced hW h1 (Nat.le_refl _) q1 (Nat.le_refl _)
    rw [e1] at e2
    cases e2
    rwa [List.take_of_length_le (by simp)] at hb2
  refine wq_of hw (fun w _ => ?_) (hk a' c' hU)
  have h := run_slice_l (P := Try.prog) (w := w) 22 ad l.length c (by kernel_rfl) .i64 (lo : Int) (by omega) (by omega)
  rw [u8_sz] at h
  simp only [Int.toNat_natCast, Result.andThen_ok, e1] at h
  simp only [execOp, Option.map_some, Option.map_none, hp, hq, Sem.run_bind, run_sliceAt_slice (P := Try.prog) (w := w) 22 _ _ _ _ (by kernel_rfl), h, Result.andThen_ok, Sem.run_pure]

/-- the reader's bytes, moved on by k -/
def Moved (l : List UInt8) (k : Nat) (a : Option Addr) (c : Nat) (b : Nat) (w : World) : Prop := ∃ a' c', Blk w b (rdC (.slice a' (l.length - k) c') 0) 88 ∧ ∀ W, Bytes W (.slice a l.length c) l → Bytes W (.slice a' (l.length - k) c') (l.drop k)
theorem Moved.rd {l : List UInt8} {k : Nat} {a : Option Addr} {c : Nat} {b : Nat} {w w' w2 : World} {x : Int} (h : Moved l k a c b w') (hb : Blk w b (rdC (.slice a l.length c) x) 88) (hl : Bytes w (.slice a l.length c) l) (hg : w.grownBy w2 (some b)) (he : w2.heap[b]? = w'.heap[b]?) : Rd w2 b (l.drop k) 0 := by
  obtain ⟨a', c', h1, h2⟩ := h
  have hl2 := h2 _ (hl.gb hb hg)
  refine ⟨a', c', ?_, ?_⟩
  · rw [List.length_drop]; exact blk_at h1 he
  · rw [List.length_drop]; exact hl2

set_option maxRecDepth 100000 in
theorem number1_yes (b pw pr k : Nat) (a : Option Addr) (c : Nat) (l : List UInt8) (W : World) (hb : Blk W b (rdC (.slice a l.length c) 0) 88) (hl : Bytes W (.slice a l.length c) l) (hw : Blk W pw #[.int .i64 k] 3) (hr : Blk W pr #[.pointer (some ⟨b, 0, none⟩)] 43) (g1 : 1 ≤ k) (g2 : k ≤ 8) (g3 : k ≤ l.length) :
    Calls Try.prog 64 #[.pointer (some ⟨pw, 0, none⟩), .pointer (some ⟨pr, 0, none⟩)] W fun e w' => W.grownBy w' (some b) ∧ e = .returned (.int .u64 (numB (l.take k))) ∧ Moved l k a c b w' := by
  obtain ⟨HW, FW, LW⟩ := hw.all
  obtain ⟨HR, FR, LR⟩ := hr.all
  have e0 : W.cell? ⟨pw, 0, none⟩ = some (.int .i64 k) := HW 0
  have e1 : W.cell? ⟨pr, 0, none⟩ = some (.pointer (some ⟨b, 0, none⟩)) := HR 0
  have e2 : W.cell? ⟨b, 0, none⟩ = some (.slice a l.length c) := hb.cell 0
  have hc := hl.cap
  have HL := Lib.hid hl
  have hrd : Rd W b l 0 := ⟨a, c, hb, hl⟩
  clear hl HW HR
  go_enter Try.func64, Try.ntmps64
  go_wp2_with fail
  refine (c_is k _ _ (okW_of g1 g2)).mono ?_
  rintro e W1 ⟨rfl, rfl⟩
  go_wp2_with fail
  refine (need_true 111 _).mono ?_
  rintro e W1 ⟨rfl, rfl⟩
  go_upto_region 2 with fail
  refine wp_region_cuts [.q [_, _, _, _]] [_, _, _] rfl (fun w'' => Below W.heap.size W w'') (by kernel_rfl) (by kernel_rfl) (fun _ _ d _ _ h => by cases d <;> exact h) ?_
  refine cut_q (Below.refl _ W).drew ?_
  repeat (first | go_big_quiet_step ((intros; rfl)) | quiet_step ((intros; rfl)) | fail | (refine wq_loadB rfl rfl (by kernel_rfl) (by assumption) ?_; simp only [Act.put, List.setIfInBounds_toArray, List.set_cons_succ, List.set_cons_zero]))
  refine wpQuiet_nil ?_
  have hB1 : Below W.heap.size W W.drew := (Below.refl _ W).drew
  refine cut_end ?_
  go_wp2_with fail
  refine (front_yes b k l 0 _ (hrd.below hB1) g3).mono ?_
  rintro e W1 ⟨sa, sc, rfl, hs, rfl⟩
  go_wp2_with fail
  refine (num_any _ _ _ hs (by simp; omega)).mono ?_
  rintro e W2 ⟨rfl, hB2⟩
  have u2 := Below.up hB1 hB2
  have b2 := hb.up u2
  go_upto_region 3 with fail
  refine wp_region_cuts [.q [_, _, _, _, _, _, _, _]] [_, _, _, _] rfl (fun w'' => Below W.heap.size W w'') (by kernel_rfl) (by kernel_rfl) (fun _ _ d _ _ h => by cases d <;> exact h) ?_
  refine cut_q u2.drew ?_
  repeat (first | (refine wq_slice_lU W k rfl rfl rfl HL.out g3 ?_; intro a' c' hU; simp only [Act.put, List.setIfInBounds_toArray, List.set_cons_succ, List.set_cons_zero]) | go_big_quiet_step ((intros; rfl)) | quiet_step ((intros; rfl)) | (refine wq_loadB rfl rfl (by kernel_rfl) (by assumption) ?_; simp only [Act.put, List.setIfInBounds_toArray, List.set_cons_succ, List.set_cons_zero]))
  refine wpQuiet_nil ?_
  have b3 := b2.drew
  obtain ⟨C3, F3, L3⟩ := b3.all
  have u3 := u2.drew
  refine cut_end ?_
  go_wp2
  go_ret
  exact ⟨gb_set (gb_below (gb_refl W (some b)) u3 (Nat.le_refl _)) _ _, rfl, a', c', b3.set 0 (.slice a' (l.length - k) c'), hU⟩

/-- why no number of this width can be read; 0: one can -/
def numNo (x : Int) (n : Nat) : Int := if okW x then frontNo x n else 111

set_option maxRecDepth 100000 in
theorem number1_no (b pw pr : Nat) (x : Int) (a : Option Addr) (c : Nat) (l : List UInt8) (W : World) (hb : Blk W b (rdC (.slice a l.length c) 0) 88) (hl : Bytes W (.slice a l.length c) l) (hw : Blk W pw #[.int .i64 x] 3) (hr : Blk W pr #[.pointer (some ⟨b, 0, none⟩)] 43) (hno : numNo x l.length ≠ 0) :
    Calls Try.prog 64 #[.pointer (some ⟨pw, 0, none⟩), .pointer (some ⟨pr, 0, none⟩)] W fun e w' => Below W.heap.size W w' ∧ e = .panicked (errP (numNo x l.length)) := by
  have e0 : W.cell? ⟨pw, 0, none⟩ = some (.int .i64 x) := hw.cell 0
  have e1 : W.cell? ⟨pr, 0, none⟩ = some (.pointer (some ⟨b, 0, none⟩)) := hr.cell 0
  have e2 : W.cell? ⟨b, 0, none⟩ = some (.slice a l.length c) := hb.cell 0
  have hc := hl.cap
  have hrd : Rd W b l 0 := ⟨a, c, hb, hl⟩
  clear hl hb hw hr
  obtain ⟨N, hN⟩ : ∃ N, numNo x l.length = N := ⟨_, rfl⟩
  rw [hN] at hno ⊢
  unfold numNo at hN
  cases hx : okW x with
  | false =>
    rw [hx] at hN
    obtain rfl : 111 = N := by simpa using hN
    go_enter Try.func64, Try.ntmps64
    go_wp2_with fail
    refine (c_is x _ _ hx).mono ?_
    rintro e W1 ⟨rfl, rfl⟩
    go_wp2_with fail
    refine (need_false 111 _).mono ?_
    rintro e W1 ⟨rfl, rfl⟩
    go_wp2
    exact ⟨rfl, Below.refl _ _, rfl⟩
  | true =>
    rw [hx, if_pos rfl] at hN
    subst hN
    have hB1 : Below W.heap.size W W.drew := (Below.refl _ W).drew
    have hf := front_no b x l 0 _ (hrd.below hB1) hno
    clear hno
    go_enter Try.func64, Try.ntmps64
    go_wp2_with fail
    refine (c_is x _ _ hx).mono ?_
    rintro e W1 ⟨rfl, rfl⟩
    go_wp2_with fail
    refine (need_true 111 _).mono ?_
    rintro e W1 ⟨rfl, rfl⟩
    go_upto_region 2 with fail
    refine wp_region_cuts [.q [_, _, _, _]] [_, _, _] rfl (fun w'' => Below W.heap.size W w'') (by kernel_rfl) (by kernel_rfl) (fun _ _ d _ _ h => by cases d <;> exact h) ?_
    refine cut_q (Below.refl _ W).drew ?_
    repeat (first | go_big_quiet_step ((intros; rfl)) | quiet_step ((intros; rfl)) | fail | (refine wq_loadB rfl rfl (by kernel_rfl) (by assumption) ?_; simp only [Act.put, List.setIfInBounds_toArray, List.set_cons_succ, List.set_cons_zero]))
    refine wpQuiet_nil ?_
    refine cut_end ?_
    go_wp2_with fail
    refine hf.mono ?_
    rintro e W1 ⟨rfl, rfl⟩
    go_wp2
    exact ⟨rfl, hB1, rfl⟩

/-! ### what readers read, as a plain law -/
/-- a reader: the bytes left, and why it failed -/
abbrev RSt := List UInt8 × Int
def rdNum (s : RSt) (x : Int) : RSt × Nat := if s.2 = 0 then (if numNo x s.1.length = 0 then ((s.1.drop x.toNat, 0), numB (s.1.take x.toNat)) else ((s.1, numNo x s.1.length), 0)) else (s, 0)

theorem numNo_zero {x : Int} {n : Nat} (h : numNo x n = 0) : ∃ k : Nat, x = k ∧ 1 ≤ k ∧ k ≤ 8 ∧ k ≤ n := by
  unfold numNo frontNo at h
  split at h
  · rename_i hx
    obtain ⟨k, rfl, g1, g2⟩ := okW_nat hx
    refine ⟨k, rfl, g1, g2, ?_⟩
    split at h
    · cases h
    · split at h
      · cases h
      · omega
  · cases h

set_option maxRecDepth 100000 in
set_option maxHeartbeats 1000000 in
theorem number_any (b : Nat) (s : RSt) (x : Int) (w : World) (h : Rd w b s.1 s.2) :
    Calls Try.prog 35 #[.pointer (some ⟨b, 0, none⟩), .int .i64 x] w fun e w' => e = .returned (.int .u64 (rdNum s x).2) ∧ w.grownBy w' (some b) ∧ Rd w' b (rdNum s x).1.1 (rdNum s x).1.2 := by
  obtain ⟨l, f⟩ := s
  simp only at h
  have hB := Below.upA (Below.new w (.cells #[.pointer (some ⟨b, 0, none⟩)] 43)) (.cells #[.int .i64 x] 3)
  have br := (Blk.new w #[.pointer (some ⟨b, 0, none⟩)] 43).alloc (.cells #[.int .i64 x] 3)
  have bw := Blk.new (w.alloc (.cells #[.pointer (some ⟨b, 0, none⟩)] 43)) #[.int .i64 x] 3
  simp only [World.size_alloc] at bw
  have hR := h.below hB
  have HR := Lib.hid hR
  obtain ⟨a, c, hbb, hl⟩ := hR
  have hlt := h.lt
  obtain ⟨S, hS⟩ : ∃ S, rdNum (l, f) x = S := ⟨_, rfl⟩
  rw [hS]
  unfold rdNum at hS
  simp only at hS
  by_cases hf : f = 0
  · subst hf
    rw [if_pos rfl] at hS
    by_cases hn : numNo x l.length = 0
    · rw [if_pos hn] at hS
      obtain ⟨k, rfl, g1, g2, g3⟩ := numNo_zero hn
      rw [Int.toNat_natCast] at hS
      subst hS
      clear hn
      go_enter Try.func35, Try.ntmps35
      go_wp2_with fail
      refine reads_uint64 64 _ (fun w => by kernel_rfl) b a l.length c _ hbb _ ?_
      intro W0 hB0
      refine (number1_yes b _ _ k a c l W0 (hbb.up hB0) (hl.below hB0) (bw.up hB0) (br.up hB0) g1 g2 g3).mono ?_
      rintro e w' ⟨hg, rfl, hm⟩
      refine ⟨hg, .inl ⟨_, rfl, ?_⟩⟩
      intro w2 hg2 hk2
      have hrd2 := hm.rd hbb hl hg2 (hk2 b (.inl hbb.lt))
      have hgw := gb_of hB hg2
      clear hk2 hm hg hB0
      go_wp2
      go_ret
      exact ⟨rfl, hgw, hrd2⟩
    · rw [if_neg hn] at hS
      subst hS
      have HN := Lib.hid hn
      clear hn
      go_enter Try.func35, Try.ntmps35
      go_wp2_with fail
      refine reads_uint64 64 _ (fun w => by kernel_rfl) b a l.length c _ hbb _ ?_
      intro W0 hB0
      refine (number1_no b _ _ x a c l W0 (hbb.up hB0) (hl.below hB0) (bw.up hB0) (br.up hB0) HN.out).mono ?_
      rintro e w' ⟨hBw, rfl⟩
      refine ⟨gb_below (gb_refl W0 (some b)) hBw (Nat.le_refl _), .inr ⟨_, _, HN.out, rfl, (hbb.up hB0).up hBw, ?_⟩⟩
      intro w2 hg2 hb2
      have hrd2 : Rd w2 b l (numNo x l.length) := ⟨a, c, hb2, hl.gb hbb hg2⟩
      have hgw := gb_of hB hg2
      clear hB0 hBw hb2
      go_wp2
      go_ret
      exact ⟨rfl, hgw, hrd2⟩
  · rw [if_neg hf] at hS
    subst hS
    have HF := Lib.hid hf
    clear hf
    go_enter Try.func35, Try.ntmps35
    go_wp2_with fail
    refine (readsF_uint64 _ b _ f _ hbb HF.out).mono ?_
    rintro e W1 ⟨rfl, rfl⟩
    go_wp2
    go_ret
    exact ⟨rfl, gb_below (gb_refl w (some b)) hB (Nat.le_refl _), HR.out⟩

theorem numberN_any (x : Int) (w : World) : Calls Try.prog 35 #[.pointer none, .int .i64 x] w fun e w' => e = .returned (.int .u64 0) ∧ Below w.heap.size w w' := by
  have hB := Below.upA (Below.new w (.cells #[.pointer none] 43)) (.cells #[.int .i64 x] 3)
  go_enter Try.func35, Try.ntmps35
  go_wp2_with fail
  refine (readsN_uint64 _ _).mono ?_
  rintro e W1 ⟨rfl, rfl⟩
  go_wp2
  go_ret
  exact ⟨rfl, hB⟩

end Go.Proofs.Ytpooakhmpfbmgaa
