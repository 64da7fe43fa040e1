/- gessolaw01.wakes. -/
import Derived.Test.YtpooakhmpfbmgaaOctSplit2
import Derived.Test.YtpooakhmpfbmgaaOctLay2
import Derived.Test.YtpooakhmpfbmgaaOctEq
import Derived.Test.YtpooakhmpfbmgaaOctRdPart
namespace Go.Proofs.Ytpooakhmpfbmgaa
open Go.RowKit

theorem bytes_new (W : World) (l : List UInt8) (cs : Array Value) (t : TypeId) (n k : Nat) (hn : n = W.heap.size) (hk : l.length = k) (hc : cs.toList = l.map vb) (hm : k ≤ maxLen) : Bytes (W.alloc (.cells cs t)) (.slice (some ⟨n, 0, none⟩) k k) l := by
  subst hk
  have h := IsSl.new (W := W) (n := n) (cs := cs) (t := t) hn hm
  rw [hc] at h
  exact h
theorem ints_new (W : World) (l : List Int) (cs : Array Value) (t : TypeId) (n k : Nat) (hn : n = W.heap.size) (hk : l.length = k) (hc : cs.toList = l.map cI) (hm : k ≤ maxLen) : IntsS (W.alloc (.cells cs t)) (.slice (some ⟨n, 0, none⟩) k k) l := by
  subst hk
  have h := IsSl.new (W := W) (n := n) (cs := cs) (t := t) hn hm
  rw [hc] at h
  exact h
theorem u64s_new (W : World) (l : List Nat) (cs : Array Value) (t : TypeId) (n k : Nat) (hn : n = W.heap.size) (hk : l.length = k) (hc : cs.toList = l.map cU) (hm : k ≤ maxLen) : U64S (W.alloc (.cells cs t)) (.slice (some ⟨n, 0, none⟩) k k) l := by
  subst hk
  have h := IsSl.new (W := W) (n := n) (cs := cs) (t := t) hn hm
  rw [hc] at h
  exact h
theorem bytes_nil (W : World) : Bytes W (.slice none 0 0) [] := IsSl.nil W

theorem U64S.rd {w w' : World} {v : Value} {b : Nat} {l : List UInt8} {f : Int} {ns : List Nat} (h : U64S w v ns) (hr : Rd w b l f) (hg : w.grownBy w' (some b)) : U64S w' v ns := by
  obtain ⟨ra, rc, hb, _⟩ := hr
  obtain ⟨a', c', h1, h2, h3, h4, h5⟩ := h
  refine ⟨a', c', h1, h2, h3, h4, fun j u hu => ?_⟩
  obtain ⟨p, o, rfl, hc⟩ := h5 j u hu
  refine ⟨p, o, rfl, hg.cell hc ?_⟩
  intro e
  simp only [Option.some.injEq] at e
  subst e
  rw [hb.cell] at hc
  rw [List.getElem?_map, Option.map_eq_some_iff] at hu
  obtain ⟨x, _, rfl⟩ := hu
  generalize o + j = q at hc
  match q with
  | 0 => simp [rdC] at hc
  | 1 => simp [rdC, cU] at hc
  | q + 2 => simp [rdC] at hc

theorem w_put (v : Value) (w : World) (h : Bytes w v [9]) : Calls Try.prog 11 #[v, .int .i64 3, .int .u64 258] w fun e w' => ∃ a m c, e = .returned (.tuple #[.slice a m c, .int .i64 0]) ∧ Bytes w' (.slice a m c) [9, 0, 1, 2] ∧ Below w.heap.size w w' := by
  refine (put_yes 3 258 v [9] w h (by decide) (by decide) (by decide) (by decide)).mono ?_
  rintro e w' ⟨a, m, c, rfl, ho, hb⟩
  rw [show [9] ++ layB 3 258 = [9, 0, 1, 2] from by kernel_rfl] at ho
  exact ⟨a, m, c, rfl, ho.bytes, hb⟩
theorem w_put2 (w : World) : Calls Try.prog 11 #[.slice none 0 0, .int .i64 1, .int .u64 256] w fun e w' => e = .returned (.tuple #[.slice none 0 0, .int .i64 112]) ∧ Below w.heap.size w w' := by
  have h := put_no 1 256 _ [] w (bytes_nil w) (by omega) (by decide)
  rwa [show layNo 1 256 = 112 from by decide] at h
theorem w_get (v : Value) (w : World) (h : Bytes w v [0, 1, 2]) : Calls Try.prog 16 #[v, .int .i64 1, .int .i64 2] w fun e w' => e = .returned (.tuple #[.int .u64 258, .int .i64 0]) ∧ Below w.heap.size w w' := by
  have h := get_yes 2 1 v [0, 1, 2] w h (by decide) (by decide) (by decide) (by decide)
  rwa [show numB (([0, 1, 2] : List UInt8).drop 1 |>.take 2) = 258 from by kernel_rfl] at h
theorem w_lay (v1 v2 : Value) (w : World) (h1 : IntsS w v1 [1, 2]) (h2 : U64S w v2 [7, 258]) : Calls Try.prog 29 #[v1, v2] w fun e w' => ∃ a m c, e = .returned (.tuple #[.slice a m c, .int .i64 0]) ∧ Bytes w' (.slice a m c) [7, 1, 2] ∧ Below w.heap.size w w' := by
  refine (lay_yes v1 v2 [1, 2] [7, 258] w h1 h2 (by decide) (by decide) (by decide) (by decide)).mono ?_
  rintro e w' ⟨a, m, c, rfl, ho, hb⟩
  rw [show layR [1, 2] [7, 258] = [7, 1, 2] from by kernel_rfl] at ho
  exact ⟨a, m, c, rfl, ho.bytes, hb⟩
theorem w_split (v1 v2 : Value) (w : World) (h1 : IntsS w v1 [1, 2]) (h2 : Bytes w v2 [7, 1, 2]) : Calls Try.prog 31 #[v1, v2] w fun e w' => ∃ a m c, e = .returned (.tuple #[.slice a m c, .int .i64 0]) ∧ U64S w' (.slice a m c) [7, 258] ∧ Below w.heap.size w w' := by
  refine (split_yes v1 v2 [1, 2] [7, 1, 2] w h1 h2 (by decide) (by decide) (by decide)).mono ?_
  rintro e w' ⟨a, m, c, rfl, ho, hb⟩
  rw [show splitR [1, 2] [7, 1, 2] = [7, 258] from by kernel_rfl] at ho
  exact ⟨a, m, c, rfl, ho.sl, hb⟩
theorem w_part (v : Value) (w : World) (h : Bytes w v [5, 6]) : Calls Try.prog 20 #[.slice none 0 0, v] w fun e w' => ∃ v', e = .returned (.tuple #[v', .int .i64 0]) ∧ Bytes w' v' [0, 2, 5, 6] ∧ Below w.heap.size w w' := by
  refine (part_yes _ v [] [5, 6] w (bytes_nil w) h (by decide) (by decide)).mono ?_
  rintro e w' ⟨v', rfl, ho, hb⟩
  rw [show [] ++ partB [5, 6] = [0, 2, 5, 6] from by kernel_rfl] at ho
  exact ⟨v', rfl, ho.bytes, hb⟩
theorem w_open (v : Value) (w : World) (h : Bytes w v [0, 2, 5, 6]) : Calls Try.prog 21 #[v] w fun e w' => ∃ b, e = .returned (.tuple #[.pointer (some ⟨b, 0, none⟩), .int .i64 0]) ∧ Rd w' b [0, 2, 5, 6] 0 ∧ w.heap.size ≤ b ∧ Below w.heap.size w w' := by
  refine (open_yes v _ w h (by decide)).mono ?_
  rintro e w' ⟨b, bs, rfl, hb, ho, hle, hB⟩
  obtain ⟨a, c, rfl, _⟩ := ownsRow_slice ho
  exact ⟨b, rfl, ⟨a, c, hb, ho.bytes⟩, hle, hB⟩
theorem w_rpart (b : Nat) (w : World) (h : Rd w b [0, 2, 5, 6] 0) : Calls Try.prog 22 #[.pointer (some ⟨b, 0, none⟩)] w fun e w' => ∃ a c, e = .returned (.slice a 2 c) ∧ Bytes w' (.slice a 2 c) [5, 6] ∧ w.grownBy w' (some b) ∧ Rd w' b [] 0 := by
  refine (rpart1_any b ([0, 2, 5, 6], 0) w h (by decide)).mono ?_
  rintro e w' ⟨va, vc, he, ho, hg, hr⟩
  rw [show rdPart ([0, 2, 5, 6], 0) = (([], 0), [5, 6]) from by kernel_rfl] at he ho hr
  exact ⟨va, vc, he, ho.bytes, hg, hr⟩
theorem w_end (b : Nat) (w : World) (h : Rd w b [] 0) : Calls Try.prog 23 #[.pointer (some ⟨b, 0, none⟩)] w fun e w' => e = .returned (.int .i64 0) ∧ Below w.heap.size w w' := by
  obtain ⟨a, c, hb, _⟩ := h
  exact end_ok b a c w hb
theorem w_equal (l : List UInt8) (v1 v2 : Value) (w : World) (h1 : Bytes w v1 l) (h2 : Bytes w v2 l) :
    Calls Try.prog 19 #[v1, v2] w fun e w' => e = .returned (.bool true) ∧ Below w.heap.size w w' := by
  refine (equal_bytes v1 v2 l l w h1 h2).mono ?_
  rintro e w' ⟨rfl, hb⟩
  exact ⟨by simp, hb⟩
theorem w_equalU (l : List Nat) (v1 v2 : Value) (w : World) (h1 : U64S w v1 l) (h2 : U64S w v2 l) :
    Calls Try.prog 33 #[v1, v2] w fun e w' => e = .returned (.bool true) ∧ Below w.heap.size w w' := by
  refine (equal_uint64 v1 v2 l l w h1 h2).mono ?_
  rintro e w' ⟨rfl, hb⟩
  exact ⟨by simp, hb⟩

set_option maxRecDepth 100000 in
set_option maxHeartbeats 2000000 in
theorem wakes_any (w : World) : Calls Try.prog 9 #[] w fun e w' => e = .returned (.bool true) ∧ Below w.heap.size w w' := by
  go_enter Try.func9, Try.ntmps9
  go_wp2_with fail
  refine (w_put _ _ (bytes_new w _ _ _ _ 1 rfl rfl rfl (by decide))).mono ?_
  rintro e W1 ⟨a1, m1, c1, rfl, h1, B1⟩
  have u1 := Below.up (Below.new w _) B1
  go_wp2_with fail
  refine (w_get _ _ (bytes_new W1 _ _ _ _ 3 rfl rfl rfl (by decide))).mono ?_
  rintro e W2 ⟨rfl, B2⟩
  have k2 := Below.up (Below.new W1 _) B2
  have u2 := Below.up u1 k2
  replace h1 := h1.below k2
  clear u1 k2 B1 B2
  go_wp2_with fail
  refine (w_lay _ _ _ ((ints_new W2 [1, 2] _ _ _ 2 rfl rfl rfl (by decide)).below (Below.new _ _)) (u64s_new _ [7, 258] _ _ _ 2 (by simp) rfl rfl (by decide))).mono ?_
  rintro e W3 ⟨a3, m3, c3, rfl, h3, B3⟩
  have k3 := Below.up (Below.upA (Below.new W2 _) _) B3
  have u3 := Below.up u2 k3
  replace h1 := h1.below k3
  clear u2 k3 B3
  go_wp2_with fail
  refine (w_split _ _ _ (ints_new W3 [1, 2] _ _ _ 2 rfl rfl rfl (by decide)) (h3.below (Below.new _ _))).mono ?_
  rintro e W4 ⟨a4, m4, c4, rfl, h4, B4⟩
  have k4 := Below.up (Below.new W3 _) B4
  have u4 := Below.up u3 k4
  replace h1 := h1.below k4
  replace h3 := h3.below k4
  clear u3 k4 B4
  go_wp2_with fail
  refine (w_part _ _ (bytes_new W4 _ _ _ _ 2 rfl rfl rfl (by decide))).mono ?_
  rintro e W5 ⟨v5, rfl, h5, B5⟩
  have k5 := Below.up (Below.new W4 _) B5
  have u5 := Below.up u4 k5
  replace h1 := h1.below k5
  replace h3 := h3.below k5
  replace h4 := h4.below k5
  clear u4 k5 B5
  obtain ⟨a5, c5, rfl, _⟩ := IsSl.shape h5
  go_wp2_with fail
  refine (w_open _ _ h5).mono ?_
  rintro e W6 ⟨b, rfl, hr6, hle, B6⟩
  have u6 := Below.up u5 B6
  have hlb : w.heap.size ≤ b := by have := u5.size; omega
  replace h1 := h1.below B6
  replace h3 := h3.below B6
  replace h4 := h4.below B6
  replace h5 := h5.below B6
  clear u5 B6
  go_wp2_with fail
  refine (w_rpart _ _ hr6).mono ?_
  rintro e W7 ⟨a7, c7, rfl, h7, hg7, hr7⟩
  have u7 : Below w.heap.size w W7 := ⟨hg7.os.trans u6.os, hg7.tape.trans u6.tape, hg7.output.trans u6.output, Nat.le_trans u6.size hg7.size, fun k hk => (hg7.block k (Nat.lt_of_lt_of_le hk u6.size) (by simp; omega)).trans (u6.block k hk)⟩
  replace h1 := hr6.bytes hg7 h1
  replace h3 := hr6.bytes hg7 h3
  replace h5 := hr6.bytes hg7 h5
  replace h4 := h4.rd hr6 hg7
  clear u6 hr6 hg7 hle hlb
  go_wp2_with fail
  refine (w_put2 _).mono ?_
  rintro e W8 ⟨rfl, B8⟩
  have u8 := Below.up u7 B8
  replace h1 := h1.below B8
  replace h3 := h3.below B8
  replace h4 := h4.below B8
  replace h5 := h5.below B8
  replace h7 := h7.below B8
  replace hr7 := hr7.below B8
  clear u7 B8
  go_wp2_with fail
  refine (w_equal _ _ _ _ (h1.below (Below.new W8 _)) (bytes_new W8 _ _ _ _ 4 rfl rfl rfl (by decide))).mono ?_
  rintro e W9 ⟨rfl, B9⟩
  have k9 := Below.up (Below.new W8 _) B9
  clear B9
  go_wp2_with fail
  refine (w_equal _ _ _ _ (h3.below (Below.upA k9 _)) (bytes_new W9 _ _ _ _ 3 rfl rfl rfl (by decide))).mono ?_
  rintro e W10 ⟨rfl, B10⟩
  have k10 := Below.up (Below.upA k9 _) B10
  clear B10 k9
  go_wp2_with fail
  refine (w_equalU _ _ _ _ (h4.below (Below.upA k10 _)) (u64s_new W10 [7, 258] _ _ _ 2 rfl rfl rfl (by decide))).mono ?_
  rintro e W11 ⟨rfl, B11⟩
  have k11 := Below.up (Below.upA k10 _) B11
  clear B11 k10
  go_wp2_with fail
  refine (w_equal _ _ _ _ (h5.below (Below.upA k11 _)) (bytes_new W11 _ _ _ _ 4 rfl rfl rfl (by decide))).mono ?_
  rintro e W12 ⟨rfl, B12⟩
  have k12 := Below.up (Below.upA k11 _) B12
  clear B12 k11
  go_wp2_with fail
  refine (w_equal _ _ _ _ (h7.below (Below.upA k12 _)) (bytes_new W12 _ _ _ _ 2 rfl rfl rfl (by decide))).mono ?_
  rintro e W13 ⟨rfl, B13⟩
  have k13 := Below.up (Below.upA k12 _) B13
  clear B13 k12
  go_wp2_with fail
  refine (w_end _ _ (hr7.below k13)).mono ?_
  rintro e W14 ⟨rfl, B14⟩
  go_wp2
  go_ret
  exact ⟨rfl, Below.up (Below.up u8 k13) B14⟩

end Go.Proofs.Ytpooakhmpfbmgaa
