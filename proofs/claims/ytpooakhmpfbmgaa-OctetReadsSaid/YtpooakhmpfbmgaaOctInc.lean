/- Bytes of one's own that are written: p[k]++. Rows of numerals. -/
import Derived.Test.YtpooakhmpfbmgaaOctWakes
namespace Go.Proofs.Ytpooakhmpfbmgaa
open Go.RowKit

theorem OwnB.at {base : Nat} {w : World} {a : Option Addr} {n c k : Nat} {l : List UInt8} (h : OwnB base w (.slice a n c) l) (hk : k < l.length) :
    ∃ g, a = some ⟨g, 0, none⟩ ∧ base ≤ g ∧ g < w.heap.size ∧ w.cell? ⟨g, k, none⟩ = some (vb l[k]) ∧ w.frozen? ⟨g, k, none⟩ = false ∧ ∀ y, OwnB base (w.setCell ⟨g, k, none⟩ (vb y)) (.slice a n c) (l.set k y) := by
  obtain ⟨h1, h2⟩ := h
  rcases h2 with ⟨e, h0⟩ | ⟨g, cap, cur, e, hg, hgb, hnc, hcm, hcs, htake⟩
  · omega
  · cases e
    refine ⟨g, rfl, hg, (Array.getElem?_eq_some_iff.1 hgb).1, ?_, frozen_of_row w g k cur _ hgb, fun y => ⟨by simp, .inr ⟨g, c, cur.setIfInBounds k (vb y), by simp, hg, heap_setCell_same w g k cur _ _ hgb, by simpa using hnc, hcm, by simpa using hcs, ?_⟩⟩⟩
    · rw [cell_of_row w g k cur _ (0, 0) hgb]
      have : (cur.toList.take (l.length * 1))[k]? = (l.map vb)[k]? := by rw [htake]
      rw [List.getElem?_take, if_pos (by omega), List.getElem?_map, List.getElem?_eq_getElem hk] at this
      simpa using this
    · have hlen : (l.set k y).length = l.length := by simp
      rw [hlen, Array.toList_setIfInBounds, List.take_set, htake, List.map_set]

/-- rows of (place, width, number) -/
abbrev Num3 := Int × Int × Nat
abbrev n3 (m : Num3) : List Value := [cI m.1, cI m.2.1, cU m.2.2]
def NumsS (w : World) (v : Value) (L : List Num3) : Prop := IsSl w v L.length (L.flatMap n3)
theorem NumsS.below {w w' : World} {v : Value} {l : List Num3} (h : NumsS w v l) (hb : Below w.heap.size w w') : NumsS w' v l := IsSl.below h hb
theorem NumsS.get {w : World} {a : Option Addr} {n c k : Nat} {L : List Num3} (h : NumsS w (.slice a n c) L) (hk : k < L.length) : ∃ b o, a = some ⟨b, o, none⟩ ∧ w.cell? ⟨b, o + k * 3, none⟩ = some (cI L[k].1) ∧ w.cell? ⟨b, o + k * 3 + 1, none⟩ = some (cI L[k].2.1) ∧ w.cell? ⟨b, o + k * 3 + 2, none⟩ = some (cU L[k].2.2) := by
  obtain ⟨a', c', e, _, _, _, h5⟩ := h
  cases e
  obtain ⟨b, o, rfl, e0⟩ := h5 (k * 3 + 0) (cI L[k].1) (by rw [flatMap_get n3 3 (fun _ => rfl) L k 0 hk (by omega)]; rfl)
  obtain ⟨b1, o1, q1, e1⟩ := h5 (k * 3 + 1) (cI L[k].2.1) (by rw [flatMap_get n3 3 (fun _ => rfl) L k 1 hk (by omega)]; rfl)
  obtain ⟨b2, o2, q2, e2⟩ := h5 (k * 3 + 2) (cU L[k].2.2) (by rw [flatMap_get n3 3 (fun _ => rfl) L k 2 hk (by omega)]; rfl)
  cases q1; cases q2
  exact ⟨b, o, rfl, e0, e1, e2⟩

/-- what Put lays -/
def putB (l : List UInt8) (x : Int) (n : Nat) : List UInt8 := if layNo x n = 0 then l ++ layB x.toNat n else []
def getV (l : List UInt8) (m x : Int) : Nat := if getNo m x l.length = 0 then numB ((l.drop m.toNat).take x.toNat) else 0

theorem layNo_zero' {x : Int} {n : Nat} (h : layNo x n = 0) : ∃ k : Nat, x = k ∧ 1 ≤ k ∧ k ≤ 8 ∧ fitsB k n = true := by
  unfold layNo at h
  split at h
  · rename_i hx
    obtain ⟨k, rfl, g1, g2⟩ := okW_nat hx
    refine ⟨k, rfl, g1, g2, ?_⟩
    split at h
    · assumption
    · cases h
  · cases h
theorem getNo_zero {m x : Int} {n : Nat} (h : getNo m x n = 0) : ∃ k j : Nat, x = k ∧ m = j ∧ 1 ≤ k ∧ k ≤ 8 ∧ j + k ≤ n := by
  unfold getNo at h
  split at h
  · rename_i hx
    obtain ⟨k, rfl, g1, g2⟩ := okW_nat hx
    split at h
    · rename_i hm
      split at h
      · exact ⟨k, m.toNat, rfl, by omega, g1, g2, by omega⟩
      · cases h
    · cases h
  · cases h
theorem putB_len (l : List UInt8) (x : Int) (n : Nat) : (putB l x n).length ≤ l.length + 8 := by
  unfold putB
  split
  · rename_i h
    obtain ⟨k, rfl, g1, g2, _⟩ := layNo_zero' h
    rw [List.length_append, layB_len]; simp; omega
  · simp

theorem put_any (v : Value) (l : List UInt8) (x : Int) (n : Nat) (w : World) (h : Bytes w v l) (hl : l.length ≤ 100000) (hn : n < 18446744073709551616) :
    Calls Try.prog 11 #[v, .int .i64 x, .int .u64 n] w fun e w' => ∃ a c, e = .returned (.tuple #[.slice a (putB l x n).length c, .int .i64 (layNo x n)]) ∧ OwnB w.heap.size w' (.slice a (putB l x n).length c) (putB l x n) ∧ Below w.heap.size w w' := by
  unfold putB
  by_cases h0 : layNo x n = 0
  · obtain ⟨k, rfl, g1, g2, g3⟩ := layNo_zero' h0
    rw [if_pos h0, h0, Int.toNat_natCast]
    refine (put_yes k n v l w h hl g1 g2 g3).mono ?_
    rintro e w' ⟨a, m, c, rfl, ho, hb⟩
    obtain rfl := ho.bytes.at
    exact ⟨a, c, rfl, ho, hb⟩
  · rw [if_neg h0]
    refine (put_no x n v l w h hn h0).mono ?_
    rintro e w' ⟨rfl, hb⟩
    exact ⟨_, _, rfl, World.ownsRow_nil _ _ _ _, hb⟩
theorem get_any (v : Value) (l : List UInt8) (m x : Int) (w : World) (h : Bytes w v l) (hl : l.length ≤ 100000) :
    Calls Try.prog 16 #[v, .int .i64 m, .int .i64 x] w fun e w' => e = .returned (.tuple #[.int .u64 (getV l m x), .int .i64 (getNo m x l.length)]) ∧ Below w.heap.size w w' := by
  unfold getV
  by_cases h0 : getNo m x l.length = 0
  · obtain ⟨k, j, rfl, rfl, g1, g2, g3⟩ := getNo_zero h0
    rw [if_pos h0, h0, Int.toNat_natCast, Int.toNat_natCast]
    exact get_yes k j v l w h hl g1 g2 g3
  · rw [if_neg h0]
    exact get_no x m v l w h h0
theorem w_same (l : List UInt8) (v1 v2 : Value) (w : World) (h1 : Bytes w v1 l) (h2 : Bytes w v2 l) :
    Calls Try.prog 18 #[v1, v2] w fun e w' => e = .returned (.bool true) ∧ Below w.heap.size w w' := by
  refine (same_any v1 v2 l l w h1 h2).mono ?_
  rintro e w' ⟨rfl, hb⟩
  exact ⟨by simp, hb⟩

end Go.Proofs.Ytpooakhmpfbmgaa
