/- octet.Lay, gessoref01.Rows. -/
import Derived.Test.YtpooakhmpfbmgaaOctSize
namespace Go.Proofs.Ytpooakhmpfbmgaa
open Go.RowKit

/-- the bytes of numbers -/
def layR : List Int → List Nat → List UInt8
  | x :: xs, n :: ns => layB x.toNat n ++ layR xs ns
  | _, _ => []
/-- has each number its width? -/
def fitsR : List Int → List Nat → Bool
  | x :: xs, n :: ns => fitsB x.toNat n && fitsR xs ns
  | _, _ => true
theorem layR_snoc : ∀ (xs : List Int) (ns : List Nat) (x : Int) (n : Nat), xs.length = ns.length → layR (xs ++ [x]) (ns ++ [n]) = layR xs ns ++ layB x.toNat n
  | [], [], x, n, _ => by simp [layR]
  | y :: xs, m :: ns, x, n, h => by simp [layR, layR_snoc xs ns x n (by simpa using h)]
  | [], _ :: _, _, _, h => by simp at h
  | _ :: _, [], _, _, h => by simp at h
theorem fitsR_snoc : ∀ (xs : List Int) (ns : List Nat) (x : Int) (n : Nat), xs.length = ns.length → fitsR (xs ++ [x]) (ns ++ [n]) = (fitsR xs ns && fitsB x.toNat n)
  | [], [], x, n, _ => by simp [fitsR]
  | y :: xs, m :: ns, x, n, h => by simp [fitsR, fitsR_snoc xs ns x n (by simpa using h), Bool.and_assoc]
  | [], _ :: _, _, _, h => by simp at h
  | _ :: _, [], _, _, h => by simp at h
theorem layR_len : ∀ (xs : List Int) (ns : List Nat), allW xs = true → (layR xs ns).length ≤ 8 * xs.length
  | [], _, _ => by simp [layR]
  | _ :: _, [], _ => by simp [layR]
  | x :: xs, n :: ns, h => by
    simp only [allW, List.all_cons, Bool.and_eq_true] at h
    have h1 := layR_len xs ns h.2
    have h2 := of_decide_eq_true h.1
    simp only [layR, List.length_append, layB_len, List.length_cons]
    omega
theorem fitsR_take : ∀ (k : Nat) (xs : List Int) (ns : List Nat), fitsR xs ns = true → fitsR (xs.take k) (ns.take k) = true
  | 0, _, _, _ => by simp [fitsR]
  | k + 1, [], _, _ => by simp [fitsR]
  | k + 1, _ :: _, [], _ => by simp [fitsR]
  | k + 1, x :: xs, n :: ns, h => by
    simp only [fitsR, Bool.and_eq_true] at h
    simp only [List.take_succ_cons, fitsR, Bool.and_eq_true]
    exact ⟨h.1, fitsR_take k xs ns h.2⟩
theorem fitsR_get {xs : List Int} {ns : List Nat} (h : fitsR xs ns = true) (hl : xs.length = ns.length) (k : Nat) (hk : k < xs.length) : fitsB xs[k].toNat (ns[k]'(by omega)) = true := by
  have h1 := fitsR_take (k + 1) xs ns h
  rw [take_snoc xs k hk, take_snoc ns k (by omega), fitsR_snoc _ _ _ _ (by simp; omega)] at h1
  exact (Bool.and_eq_true_iff.1 h1).2
theorem fitsR_first {xs : List Int} {ns : List Nat} (hl : xs.length = ns.length) (h : fitsR xs ns = false) : ∃ k, ∃ hk : k < xs.length, fitsR (xs.take k) (ns.take k) = true ∧ fitsB xs[k].toNat (ns[k]'(by omega)) = false := by
  induction xs generalizing ns with
  | nil => cases ns <;> simp [fitsR] at h
  | cons x xs ih =>
    cases ns with
    | nil => simp at hl
    | cons n ns =>
      cases hx : fitsB x.toNat n with
      | false => exact ⟨0, by simp, by simp [fitsR], hx⟩
      | true =>
        obtain ⟨k, hk, h1, h2⟩ := ih (ns := ns) (by simpa using hl) (by simpa [fitsR, hx] using h)
        exact ⟨k + 1, by simpa using hk, by simpa [fitsR, hx] using h1, by simpa using h2⟩

/-- why numbers cannot be laid; 0: they can -/
def layRNo (xs : List Int) (ns : List Nat) : Int := if allW xs then (if ns.length = xs.length then (if fitsR xs ns then 0 else 112) else 2) else 111

/-- what a round of laying knows -/
structure LayInv (W wr : World) (xs : List Int) (ns : List Nat) (s : Value) (k : Nat) : Prop where
  own : OwnB W.heap.size wr s (layR (xs.take k) (ns.take k))
  bel : Below W.heap.size W wr

set_option maxRecDepth 100000 in
set_option maxHeartbeats 1000000 in
theorem lay1_yes (p0 p1 : Nat) (v1 v2 : Value) (xs : List Int) (ns : List Nat) (W : World) (h0 : Blk W p0 #[v1] 50) (h1 : Blk W p1 #[v2] 51) (hx : IntsS W v1 xs) (hn : U64S W v2 ns) (hl : xs.length ≤ 1000) (hall : allW xs = true) (hlen : ns.length = xs.length) (hfit : fitsR xs ns = true) :
    Calls Try.prog 59 #[.pointer (some ⟨p0, 0, none⟩), .pointer (some ⟨p1, 0, none⟩)] W fun e w' => GotB W w' e (layR xs ns) ∧ Below W.heap.size W w' := by
  obtain ⟨a1, c1, rfl, hc1, hm1⟩ := hx.shape
  obtain ⟨a2, c2, rfl, hc2, hm2⟩ := hn.shape
  have e0 : W.cell? ⟨p0, 0, none⟩ = some (.slice a1 xs.length c1) := h0.cell 0
  have e1 : W.cell? ⟨p1, 0, none⟩ = some (.slice a2 ns.length c2) := h1.cell 0
  have hsz := size_yes _ xs W hx hl hall
  have hq : ((ns.length : Int) == (xs.length : Int)) = true := by simp; omega
  have HL := Lib.hid hlen
  have HF := Lib.hid hfit
  have HA := Lib.hid hall
  have hll := layR_len xs ns hall
  clear hfit hall hlen
  go_enter Try.func59, Try.ntmps59
  go_wp2_with fail
  refine hsz.mono ?_
  rintro e W1 ⟨rfl, rfl⟩
  go_wp2_with fail
  refine (c_need_true _ 2 _ (by simp)).mono ?_
  rintro e W1 ⟨rfl, rfl⟩
  clear hsz
  go_wp2
  go_loopw [3, 16] (fun s i wr => ∃ k : Nat, k ≤ xs.length ∧ i = .int .i64 k ∧ LayInv W wr xs ns s k) (fun _ i _ => xs.length - (intOf i).toNat)
  case atStart => exact ⟨0, by omega, rfl, ⟨World.ownsRow_nil _ _ _ _, Below.refl _ _⟩⟩
  case round =>
    obtain ⟨k, hk, rfl, hI⟩ := hrel
    by_cases hlt : k < xs.length
    · have hlt2 : k < ns.length := by have := HL.out; omega
      have hB := hI.bel
      obtain ⟨b1, o1, rfl, x1⟩ := (hx.below hB).get hlt
      obtain ⟨b2, o2, rfl, x2⟩ := (hn.below hB).get hlt2
      obtain ⟨y, hy, g1, g2⟩ := okW_nat (allW_get HA.out k hlt)
      have hf := fitsR_get HF.out HL.out.symm k hlt
      rw [hy, Int.toNat_natCast] at hf
      have HS := Lib.hid (show layR (xs.take (k + 1)) (ns.take (k + 1)) = layR (xs.take k) (ns.take k) ++ layB y ns[k] from by
        rw [take_snoc xs k hlt, take_snoc ns k hlt2, layR_snoc _ _ _ _ (by have := HL.out; simp; omega), hy, Int.toNat_natCast])
      have hle := layR_len (xs.take k) (ns.take k) (allW_take HA.out k)
      have hkl : (xs.take k).length ≤ 1000 := by simp; omega
      have HH := Lib.hid hI
      rw [hy] at x1
      obtain ⟨m, hm⟩ : ∃ m, ns[k] = m := ⟨_, rfl⟩
      rw [hm] at hf x2 HS
      clear hy hI hm
      have d0 := (hB.cell (p := ⟨p0, 0, none⟩) h0.lt).trans e0
      have d1 := (hB.cell (p := ⟨p1, 0, none⟩) h1.lt).trans e1
      go_wp2_with fail
      refine (laid_yes y m _ g1 g2 hf).mono ?_
      rintro e W2 ⟨v3, rfl, hb3, hB3⟩
      have u3 : Below W.heap.size W W2 := Below.up hB hB3
      have ho3 : OwnB W.heap.size W2 _ _ := ownsRow_below HH.out.own hB3 (Nat.le_refl _)
      clear x1 x2 d0 d1 hf
      go_wp2_with (at_builtin; refine wl_append_bytes W.heap.size rfl rfl rfl ho3 hb3 (by rw [layB_len]; omega) u3.size ?_; intro v5 W5 ho5 hB5)
      go_roundw
      case rel => exact ⟨k + 1, by omega, by go_num, ⟨by rw [HS.out]; exact ho5, u3.trans hB5⟩⟩
      case measure => simp only [intOf]; omega
    · obtain rfl : k = xs.length := by omega
      have ho := hI.own
      rw [List.take_length, ← HL.out, List.take_length] at ho
      have HO := Lib.hid ho
      clear ho
      obtain ⟨a3, c3, rfl, _⟩ := ownsRow_slice hI.own
      go_wp2
      go_ret
      exact ⟨⟨_, _, _, rfl, HO.out⟩, hI.bel⟩

end Go.Proofs.Ytpooakhmpfbmgaa
