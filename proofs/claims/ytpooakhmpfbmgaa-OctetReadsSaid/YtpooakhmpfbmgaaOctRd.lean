/- Readers: words; front. -/
import Derived.Test.YtpooakhmpfbmgaaOctErr
namespace Go.Proofs.Ytpooakhmpfbmgaa
open Go.RowKit

/-- a byte's cell lies in no reader -/
theorem rdC_no {b j : Nat} {a : Option Addr} {n c : Nat} {f : Int} {w : World} {l : List UInt8} {i : Nat} {u : Value} (hb : Blk w b (rdC (.slice a n c) f) 88) (hu : (l.map vb)[i]? = some u) (hc : w.cell? ⟨b, j, none⟩ = some u) : False := by
  rw [hb.cell] at hc
  rw [List.getElem?_map, Option.map_eq_some_iff] at hu
  obtain ⟨x, _, rfl⟩ := hu
  match j with
  | 0 => simp [rdC] at hc
  | 1 => simp [rdC, vb] at hc
  | j + 2 => simp [rdC] at hc
theorem Bytes.gb {w w' : World} {v : Value} {a : Option Addr} {n c : Nat} {f : Int} {l : List UInt8} {b : Nat} (h : Bytes w v l) (hb : Blk w b (rdC (.slice a n c) f) 88) (hg : w.grownBy w' (some b)) : Bytes w' v l := by
  obtain ⟨a', c', h1, h2, h3, h4, h5⟩ := h
  refine ⟨a', c', h1, h2, h3, h4, fun j u hu => ?_⟩
  obtain ⟨p, o, rfl, hc⟩ := h5 j u hu
  refine ⟨p, o, rfl, hg.cell hc ?_⟩
  intro e
  simp only [Option.some.injEq] at e
  subst e
  exact rdC_no hb hu hc
theorem OwnB.gb {base : Nat} {w w' : World} {v : Value} {a : Option Addr} {n c : Nat} {f : Int} {l : List UInt8} {b : Nat} (h : OwnB base w v l) (hb : Blk w b (rdC (.slice a n c) f) 88) (hg : w.grownBy w' (some b)) : OwnB base w' v l := by
  refine World.ownsRow.kept h hg (.inr ?_)
  intro e
  rcases h.2 with ⟨rfl, _⟩ | ⟨g, cap, cur, rfl, _, hgb, _⟩
  · simp [Value.ownBlock] at e
  · obtain rfl : g = b := by simpa [Value.ownBlock] using e
    rw [hb] at hgb
    simp only [Option.some.injEq, Obj.cells.injEq] at hgb
    exact absurd hgb.2.1 (by decide)

/-- a reader that has these bytes left, and failed with f -/
def Rd (w : World) (b : Nat) (l : List UInt8) (f : Int) : Prop := ∃ a c, Blk w b (rdC (.slice a l.length c) f) 88 ∧ Bytes w (.slice a l.length c) l
theorem Rd.below {w w' : World} {b : Nat} {l : List UInt8} {f : Int} (h : Rd w b l f) (hb : Below w.heap.size w w') : Rd w' b l f := by
  obtain ⟨a, c, h1, h2⟩ := h
  exact ⟨a, c, h1.up hb, h2.below hb⟩
theorem Rd.lt {w : World} {b : Nat} {l : List UInt8} {f : Int} (h : Rd w b l f) : b < w.heap.size := by
  obtain ⟨a, c, h1, h2⟩ := h
  exact h1.lt
theorem Rd.bytes {w w' : World} {b : Nat} {l m : List UInt8} {f : Int} {v : Value} (h : Rd w b l f) (hg : w.grownBy w' (some b)) (hm : Bytes w v m) : Bytes w' v m := by
  obtain ⟨a, c, h1, h2⟩ := h
  exact hm.gb h1 hg
theorem Rd.own {w w' : World} {b base : Nat} {l m : List UInt8} {f : Int} {v : Value} (h : Rd w b l f) (hg : w.grownBy w' (some b)) (hm : OwnB base w v m) : OwnB base w' v m := by
  obtain ⟨a, c, h1, h2⟩ := h
  exact hm.gb h1 hg

theorem Bytes.at {w : World} {a : Option Addr} {n c : Nat} {l : List UInt8} (h : Bytes w (.slice a n c) l) : n = l.length := by
  obtain ⟨a', c', e, _⟩ := h
  cases e; rfl

theorem wl_slice_hm {ops : Array Oper} {Q : Exit → Act → World → Prop} {rest : List Oper} {a : Act} {w : World} {dst : Option Tmp} {p q r : Operand} {ty : TypeId} {pos : String} {af : Array Edge} {g : Option (Nat × Bool)} {ad : Option Addr} {n c : Nat} {l : List UInt8} (hi : Nat)
    (hw : Region.wanted ⟨dst, .slice 22 p none (some q) (some r), ty, pos, af, g⟩ (yielded ops a.tmps) = true) (hp : a.eval p = .slice ad n c) (hq : a.eval q = .int .i64 hi) (hr : a.eval r = .int .i64 hi) (hb : Bytes w (.slice ad n c) l) (h1 : hi ≤ l.length)
    (hk : ∀ a' c', Bytes w (.slice a' hi c') (l.take hi) → wpList Try.prog ops Q rest (a.put dst (.slice a' hi c')) w) : wpList Try.prog ops Q (⟨dst, .slice 22 p none (some q) (some r), ty, pos, af, g⟩ :: rest) a w := by
  have hb0 := hb
  obtain ⟨a0, c0, e, q1, _⟩ := hb0
  cases e
  obtain ⟨a', c', e1, hb'⟩ := Bytes.sliced (lo := 0) (m := hi) hb (Nat.zero_le _) h1 (Nat.le_refl _) (Nat.le_trans h1 q1)
  rw [Nat.sub_zero, List.drop_zero] at hb'
  rw [Nat.sub_zero] at e1
  refine wl_of hw ?_ (hk a' c' hb')
  have h := run_slice_hm (P := Try.prog) (w := w) 22 ad l.length c (by kernel_rfl) .i64 .i64 (hi : Int) (hi : Int) (by omega) (by omega) (by omega)
  rw [u8_sz] at h
  simp only [Int.toNat_natCast, Result.andThen_ok, e1] at h
  simp only [execOp, Option.map_some, Option.map_none, hp, hq, hr, Sem.run_bind, run_sliceAt_slice (P := Try.prog) (w := w) 22 _ _ _ _ (by kernel_rfl), h, Result.andThen_ok, Sem.run_pure]

/-- why a front of n of so many bytes cannot be had; 0: it can -/
def frontNo (n : Int) (k : Nat) : Int := if n < 0 then 2 else if (k : Int) < n then 110 else 0

set_option maxRecDepth 100000 in
theorem front_yes (b n : Nat) (l : List UInt8) (f : Int) (w : World) (h : Rd w b l f) (hn : n ≤ l.length) :
    Calls Try.prog 55 #[.pointer (some ⟨b, 0, none⟩), .int .i64 n] w fun e w' => ∃ a c, e = .returned (.slice a n c) ∧ Bytes w (.slice a n c) (l.take n) ∧ w = w' := by
  obtain ⟨a, c, hb, hl⟩ := h
  have e0 : w.cell? ⟨b, 0, none⟩ = some (.slice a l.length c) := hb.cell 0
  have hc := hl.cap
  have q2 : decide ((n : Int) ≤ (l.length : Int)) = true := by simp; omega
  have HL := Lib.hid hl
  clear hl hb
  go_enter Try.func55, Try.ntmps55
  go_wp2_with fail
  refine (c_need_true _ 2 _ (by simp)).mono ?_
  rintro e W1 ⟨rfl, rfl⟩
  go_wp2_with fail
  refine (c_need_true _ 110 _ (by simp)).mono ?_
  rintro e W1 ⟨rfl, rfl⟩
  go_wp2_with (refine wl_slice_hm n rfl rfl rfl rfl HL.out hn ?_; intro sa sc hsl)
  go_ret
  exact ⟨_, _, rfl, hsl, rfl⟩

set_option maxRecDepth 100000 in
theorem front_no (b : Nat) (n : Int) (l : List UInt8) (f : Int) (w : World) (h : Rd w b l f) (hn : frontNo n l.length ≠ 0) :
    Calls Try.prog 55 #[.pointer (some ⟨b, 0, none⟩), .int .i64 n] w fun e w' => e = .panicked (errP (frontNo n l.length)) ∧ w = w' := by
  obtain ⟨a, c, hb, hl⟩ := h
  have e0 : w.cell? ⟨b, 0, none⟩ = some (.slice a l.length c) := hb.cell 0
  have hc := hl.cap
  clear hl hb
  obtain ⟨N, hN⟩ : ∃ N, frontNo n l.length = N := ⟨_, rfl⟩
  rw [hN] at hn ⊢
  unfold frontNo at hN
  by_cases h0 : n < 0
  · rw [if_pos h0] at hN
    subst hN
    go_enter Try.func55, Try.ntmps55
    go_wp2_with fail
    refine (c_need_false _ 2 _ (by simpa using h0)).mono ?_
    rintro e W1 ⟨rfl, rfl⟩
    go_wp2
    exact ⟨rfl, rfl, rfl⟩
  · rw [if_neg h0] at hN
    by_cases h1 : (l.length : Int) < n
    · rw [if_pos h1] at hN
      subst hN
      go_enter Try.func55, Try.ntmps55
      go_wp2_with fail
      refine (c_need_true _ 2 _ (by simp)).mono ?_
      rintro e W1 ⟨rfl, rfl⟩
      go_wp2_with fail
      refine (c_need_false _ 110 _ (by simp; omega)).mono ?_
      rintro e W1 ⟨rfl, rfl⟩
      go_wp2
      exact ⟨rfl, rfl, rfl⟩
    · rw [if_neg h1] at hN
      exact absurd hN.symm hn

end Go.Proofs.Ytpooakhmpfbmgaa
