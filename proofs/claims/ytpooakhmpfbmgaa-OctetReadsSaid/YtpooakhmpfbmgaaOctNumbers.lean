/- Reader.numbers: the iterator. -/
import Derived.Test.YtpooakhmpfbmgaaOctSize
import Derived.Test.YtpooakhmpfbmgaaSeqMv
namespace Go.Proofs.Ytpooakhmpfbmgaa
open Go.RowKit Go.Shelf

/-- the numbers of bytes -/
def splitR : List Int → List UInt8 → List Nat
  | [], _ => []
  | x :: xs, b => numB (b.take x.toNat) :: splitR xs (b.drop x.toNat)
theorem splitR_snoc : ∀ (xs : List Int) (x : Int) (b : List UInt8), splitR (xs ++ [x]) b = splitR xs b ++ [numB ((b.drop (sumW xs)).take x.toNat)]
  | [], x, b => by simp [splitR, sumW]
  | y :: xs, x, b => by
    rw [List.cons_append, splitR, splitR, splitR_snoc xs x, List.drop_drop]
    simp [sumW]
theorem splitR_len : ∀ (xs : List Int) (b : List UInt8), (splitR xs b).length = xs.length
  | [], _ => rfl
  | _ :: xs, b => by simp [splitR, splitR_len xs]
theorem sumW_mono (xs : List Int) (k : Nat) (hk : k < xs.length) : sumW (xs.take k) + xs[k].toNat ≤ sumW xs := by
  have h : xs = xs.take k ++ (xs[k] :: xs.drop (k + 1)) := by rw [← List.drop_eq_getElem_cons hk, List.take_append_drop]
  have e : sumW xs = sumW (xs.take k ++ (xs[k] :: xs.drop (k + 1))) := congrArg sumW h
  simp only [sumW, List.map_append, List.map_cons, List.sum_append, List.sum_cons] at e ⊢
  omega

set_option maxRecDepth 100000 in
set_option maxHeartbeats 1000000 in
theorem number_mv (b k : Nat) (a : Option Addr) (c : Nat) (l : List UInt8) (w : World) (hbb : Blk w b (rdC (.slice a l.length c) 0) 88) (hl : Bytes w (.slice a l.length c) l) (g1 : 1 ≤ k) (g2 : k ≤ 8) (g3 : k ≤ l.length) :
    Calls Try.prog 35 #[.pointer (some ⟨b, 0, none⟩), .int .i64 k] w fun e w' => e = .returned (.int .u64 (numB (l.take k))) ∧ w.grownBy w' (some b) ∧ Moved l k a c b w' := by
  have hB := Below.upA (Below.new w (.cells #[.pointer (some ⟨b, 0, none⟩)] 43)) (.cells #[.int .i64 k] 3)
  have br := (Blk.new w #[.pointer (some ⟨b, 0, none⟩)] 43).alloc (.cells #[.int .i64 k] 3)
  have bw := Blk.new (w.alloc (.cells #[.pointer (some ⟨b, 0, none⟩)] 43)) #[.int .i64 k] 3
  simp only [World.size_alloc] at bw
  have hb2 := hbb.up hB
  have hl2 := hl.below hB
  go_enter Try.func35, Try.ntmps35
  go_wp2_with fail
  refine reads_uint64 64 _ (fun w => by kernel_rfl) b a l.length c _ hb2 _ ?_
  intro W0 hB0
  refine (number1_yes b _ _ k a c l W0 (hb2.up hB0) (hl2.below hB0) (bw.up hB0) (br.up hB0) g1 g2 g3).mono ?_
  rintro e w' ⟨hg, rfl, hm⟩
  refine ⟨hg, .inl ⟨_, rfl, ?_⟩⟩
  intro w2 hg2 hk2
  obtain ⟨a', c', m1, m2⟩ := hm
  have hm2 : Moved l k a c b w2 := ⟨a', c', blk_at m1 (hk2 b (.inl hb2.lt)), m2⟩
  have hgw := gb_of hB hg2
  clear hk2 m1 m2 hg hB0
  go_wp2
  go_ret
  exact ⟨rfl, hgw, hm2⟩

/-- every block below B but block po lies as it lay -/
def KpBut (B po : Nat) (X Y : World) : Prop := ∀ k, k < B → k ≠ po → Y.heap[k]? = X.heap[k]?
theorem KpBut.trans {B po : Nat} {X Y Z : World} (h : KpBut B po X Y) (k : KpBut B po Y Z) : KpBut B po X Z := fun j h1 h2 => (k j h1 h2).trans (h j h1 h2)

theorem IsSl.blocks {w w' : World} {v : Value} {n : Nat} {cs : List Value} (h : IsSl w v n cs) (hb : ∀ k, k < w.heap.size → w'.heap[k]? = w.heap[k]?) : IsSl w' v n cs := by
  obtain ⟨a, c, h1, h2, h3, h4, h5⟩ := h
  refine ⟨a, c, h1, h2, h3, h4, fun j u hu => ?_⟩
  obtain ⟨p, o, rfl, hc⟩ := h5 j u hu
  exact ⟨p, o, rfl, (World.cell?_of_block (a := ⟨p, o + j, none⟩) (hb p (World.block_lt_of_cell? w _ hc))).trans hc⟩

/-- what the iterator knows at each round -/
structure NumInv (w0 W : World) (pw pr bk : Nat) (v : Value) (l : List UInt8) (s : Nat) : Prop where
  old : ∀ k, k < w0.heap.size → W.heap[k]? = w0.heap[k]?
  bw : Blk W pw #[v] 50
  br : Blk W pr #[.pointer (some ⟨bk, 0, none⟩)] 43
  rd : ∃ a c, Blk W bk (rdC (.slice a (l.drop s).length c) 0) 88 ∧ Bytes w0 (.slice a (l.drop s).length c) (l.drop s)
theorem NumInv.kp {w0 W W' : World} {B po pw pr bk : Nat} {v : Value} {l : List UInt8} {s : Nat} (h : NumInv w0 W pw pr bk v l s) (hk : KpBut B po W W') (h0 : w0.heap.size ≤ B) (hpo : w0.heap.size ≤ po) (h1 : pw < B) (h2 : pr < B) (h3 : bk < B) (n1 : pw ≠ po) (n2 : pr ≠ po) (n3 : bk ≠ po) : NumInv w0 W' pw pr bk v l s := by
  obtain ⟨a, c, r1, r2⟩ := h.rd
  exact ⟨fun k hlt => (hk k (by omega) (by omega)).trans (h.old k hlt), blk_at h.bw (hk _ h1 n1), blk_at h.br (hk _ h2 n2), a, c, blk_at r1 (hk _ h3 n3), r2⟩

set_option maxRecDepth 100000 in
set_option maxHeartbeats 1000000 in
theorem numbers1_in (n l B po pw pr bk : Nat) (w0 : World) (v : Value) (xs : List Int) (bs : List UInt8) (hx : IntsS w0 v xs) (hl : xs.length ≤ 1000) (hall : allW xs = true) (hsum : sumW xs ≤ bs.length)
    (h0 : w0.heap.size ≤ B) (hpo : w0.heap.size ≤ po) (h1 : pw < B) (h2 : pr < B) (h3 : bk < B) (n1 : pw ≠ po) (n2 : pr ≠ po) (n3 : bk ≠ po) (m1 : pw ≠ bk) (m2 : pr ≠ bk) (m3 : w0.heap.size ≤ bk) (J Jx : List Nat → World → Prop)
    (hY : ∀ (pre : List Nat) (x : Nat) W, J pre W → pre.length < xs.length → YieldAt Fence.wide (n - 1) Try.prog l #[.int .u64 x] W fun e W' =>
      (e = .returned (.bool true) ∧ J (pre ++ [x]) W' ∧ KpBut B po W W') ∨ (e = .returned (.bool false) ∧ Jx (pre ++ [x]) W'))
    (hA : MvOk bk J) (W : World) (hI : NumInv w0 W pw pr bk v bs 0) (hJ0 : J [] W) :
    CallsIn Fence.wide n Try.prog 71 #[.func (.yield l) #[] #[], .pointer (some ⟨pw, 0, none⟩), .pointer (some ⟨pr, 0, none⟩)] W fun e W' => (∃ v, e = .returned v) ∧
      ((∃ ys, ys = splitR xs bs ∧ J ys W') ∨ (∃ pre, (∃ k, k < xs.length ∧ pre = splitR (xs.take (k + 1)) bs) ∧ Jx pre W')) := by
  obtain ⟨a1, c1, rfl, hc1, hm1⟩ := hx.shape
  have e0 : W.cell? ⟨pw, 0, none⟩ = some (.slice a1 xs.length c1) := hI.bw.cell 0
  have HA := Lib.hid hall
  clear hall
  refine callsIn_of_wp Try.func71 rfl trivial ?_ rfl
  simp only [Try.ntmps71, List.size_toArray, List.length_cons, List.length_nil, Nat.reduceAdd, Nat.reduceSub, Array.replicate_succ, Array.replicate_zero, List.push_toArray, List.append_toArray, List.nil_append, List.cons_append]
  gi_wp2
  gi_loopw [8] (fun i wr => ∃ k : Nat, k ≤ xs.length ∧ i = .int .i64 k ∧ NumInv w0 wr pw pr bk (.slice a1 xs.length c1) bs (sumW (xs.take k)) ∧ J (splitR (xs.take k) bs) wr) (fun i _ => xs.length - (intOf i).toNat)
  case atStart => exact ⟨0, by omega, rfl, hI, hJ0⟩
  case round =>
    obtain ⟨k, hk, rfl, hIr, hJ⟩ := hrel
    by_cases hlt : k < xs.length
    · obtain ⟨b1, o1, rfl, x1⟩ := IntsS.get (w := wr) (hx.blocks hIr.old) hlt
      obtain ⟨y, hy, g1, g2⟩ := okW_nat (allW_get HA.out k hlt)
      have hmono := sumW_mono xs k hlt
      have d1 : wr.cell? ⟨pr, 0, none⟩ = some (.pointer (some ⟨bk, 0, none⟩)) := hIr.br.cell 0
      obtain ⟨ra, rc, r1, r2⟩ := hIr.rd
      rw [hy] at x1 hmono
      rw [Int.toNat_natCast] at hmono
      have HS := Lib.hid (show splitR (xs.take (k + 1)) bs = splitR (xs.take k) bs ++ [numB ((bs.drop (sumW (xs.take k))).take y)] from by rw [take_snoc xs k hlt, splitR_snoc, hy, Int.toNat_natCast])
      have HW := Lib.hid (show sumW (xs.take (k + 1)) = sumW (xs.take k) + y from by rw [take_snoc xs k hlt, sumW_snoc, hy, Int.toNat_natCast])
      have hpl : (splitR (xs.take k) bs).length < xs.length := by rw [splitR_len]; simp; omega
      have HIr := Lib.hid hIr
      have HJ := Lib.hid hJ
      clear hy hJ
      gi_wp2_with fail
      refine ⟨trivial, (fun h => by cases h), (callsIn_wide.2 (number_mv bk y ra rc _ wr r1 (IsSl.blocks r2 HIr.out.old) g1 g2 (by simp; omega))).mono ?_⟩
      rintro e W2 ⟨rfl, hg, a', c', q1, q2⟩
      have hJ2 := hA _ _ _ _ HJ.out hg (fun r e => by cases e; rfl)
      have hI2 : NumInv w0 W2 pw pr bk (.slice (some ⟨b1, o1, none⟩) xs.length c1) bs (sumW (xs.take (k + 1))) := by
        have hb : bk < wr.heap.size := r1.lt
        refine ⟨fun j hj => (hg.block j (Nat.lt_of_lt_of_le (Nat.lt_of_lt_of_le hj m3) (by omega)) (by simp; omega)).trans (HIr.out.old j hj), HIr.out.bw.grown hg (by simpa using m1), HIr.out.br.grown hg (by simpa using m2), a', c', ?_, ?_⟩
        · rw [HW.out, ← List.drop_drop, List.length_drop]; exact q1
        · have := q2 w0 r2
          rw [HW.out, ← List.drop_drop, List.length_drop]; exact this
      obtain ⟨fn, tmps, assign, body, hy, hR⟩ := hY _ (numB ((bs.drop (sumW (xs.take k))).take y)) W2 hJ2 hpl
      clear r1 r2 q1 q2 hg HIr HJ hJ2 x1 d1
      gi_wp2
      refine ⟨(fun h => by cases h), hR.mono ?_⟩
      rintro e W3 (⟨rfl, hJ3, hk3⟩ | ⟨rfl, hJx3⟩)
      · have hI3 := hI2.kp hk3 h0 hpo h1 h2 h3 n1 n2 n3
        gi_wp2
        go_roundw
        case rel => exact ⟨k + 1, by omega, by go_num, hI3, by rw [HS.out]; exact hJ3⟩
        case measure => simp only [intOf]; omega
      · gi_wp2
        refine bodyPost_ret (results_none rfl _ _ _) rfl ?_
        exact ⟨⟨_, rfl⟩, .inr ⟨_, ⟨k, hlt, HS.out.symm⟩, hJx3⟩⟩
    · obtain rfl : k = xs.length := by omega
      rw [List.take_length] at hJ
      gi_wp2
      go_end0
      exact ⟨⟨_, rfl⟩, .inl ⟨_, rfl, hJ⟩⟩

end Go.Proofs.Ytpooakhmpfbmgaa
