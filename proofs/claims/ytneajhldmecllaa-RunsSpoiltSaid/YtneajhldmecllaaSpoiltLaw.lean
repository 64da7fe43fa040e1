/- gessolaw10.RunsSpoilt: its walk. -/
import Derived.Test.YtneajhldmecllaaTilesLaw
import Derived.Test.YtneajhldmecllaaRunsPure2
import Derived.Laws.BitsAllLaws
namespace Go.Proofs.Ytneajhldmecllaa
open Go.RowKit

theorem at_in (at_ : Int) (n : Nat) (h : 0 < n) (hn : n ≤ 1000) : ∃ k : Nat, wrap64 ((IntKind.u64.wrap at_).tmod (n : Int)) = (k : Int) ∧ k < n := by
  have h0 : 0 ≤ IntKind.u64.wrap at_ := by simp [IntKind.wrap, IntKind.signed, IntKind.bits]; omega
  have h1 : (IntKind.u64.wrap at_).tmod (n : Int) = (IntKind.u64.wrap at_) % (n : Int) := Int.tmod_eq_emod_of_nonneg h0
  have h2 := Int.emod_nonneg (IntKind.u64.wrap at_) (show (n : Int) ≠ 0 by omega)
  have h3 := Int.emod_lt_of_pos (IntKind.u64.wrap at_) (show (0 : Int) < n by omega)
  refine ⟨((IntKind.u64.wrap at_) % (n : Int)).toNat, ?_, by omega⟩
  rw [h1, Int.toNat_of_nonneg h2]
  exact IntWalk.wrap64_in _ (by omega)

theorem OwnB.block {base : Nat} {w : World} {a : Option Addr} {n c : Nat} {l : List UInt8} (h : OwnB base w (.slice a n c) l) (hl : 0 < l.length) : ∃ g cur, a = some ⟨g, 0, none⟩ ∧ base ≤ g ∧ Blk w g cur 5 ∧ cur.toList.take l.length = l.map vb ∧ l.length ≤ c ∧ c ≤ maxLen ∧ cur.size = c := by
  rcases h.2 with ⟨h1, h2⟩ | ⟨g, cap, cur, hv, hg, hh, h1, h2, h3, h4⟩
  · omega
  · cases hv
    exact ⟨g, cur, rfl, hg, hh, by simpa using h4, h1, h2, by simpa using h3⟩

theorem xor_byte (x y : UInt8) : ∃ z : UInt8, bits .xor .u8 (x.toNat : Int) (y.toNat : Int) = (z.toNat : Int) ∧ (z = x ↔ y = 0) := by
  refine ⟨x ^^^ y, ?_, ?_⟩
  · rw [u8_xor_nat _ _ x.toNat_lt y.toNat_lt]; simp
  · constructor
    · intro h
      have : x ^^^ (x ^^^ y) = x ^^^ x := by rw [h]
      simpa [← UInt8.xor_assoc] using this
    · rintro rfl; simp

/-- a byte of a row of the call's own is written over -/
theorem OwnB.setB {base g n c k : Nat} {w : World} {l : List UInt8} (h : OwnB base w (.slice (some ⟨g, 0, none⟩) n c) l) (z : UInt8) : OwnB base (w.setCell ⟨g, k, none⟩ (vb z)) (.slice (some ⟨g, 0, none⟩) n c) (l.set k z) := by
  rcases h.2 with ⟨h1, h2⟩ | ⟨g', cap, cur, hv, hg, hh, h1, h2, h3, h4⟩
  · cases h1
  · cases hv
    refine ⟨by simp, .inr ⟨g, c, cur.setIfInBounds k (vb z), ?_, hg, Blk.set hh k (vb z), by simpa using h1, h2, by simpa using h3, ?_⟩⟩
    · simp
    · rw [Array.toList_setIfInBounds, List.length_set, List.take_set, h4, List.map_set]

set_option maxRecDepth 100000 in
set_option maxHeartbeats 2000000 in
theorem law_spoilt (T : List Col) (hT : T.length = 64) (at_ : Int) (y : UInt8) (w : World) :
    Calls Try.prog 4 #[tileV T, .int .i64 at_, vb y] w fun e w' => e = .returned (.bool true) ∧ Below w.heap.size w w' := by
  have hel := enc_len T hT
  have hrl := runsOf_le T hT
  have hr1 : 1 ≤ runsOf T := by unfold runsOf; omega
  have hl : 5 ≤ (enc T).length ∧ (enc T).length ≤ 325 := by omega
  obtain ⟨hl1, hl2⟩ := hl
  clear hel hrl hr1
  have hne : (((enc T).length : Int) == 0) = false := by rw [beq_eq_false_iff_ne]; omega
  obtain ⟨k, hk, hkl⟩ := at_in at_ (enc T).length (by omega) (by omega)
  have bT := Blk.new w (tcells T) 29
  unfold tileV
  go_enter Try.func4, Try.ntmps4
  go_wp2_with fail
  refine (wakes_any _).mono ?_
  rintro e w1 ⟨rfl, hB1⟩
  have bT1 := bT.up hB1
  go_wp2_with (first | refine wl_load_tile rfl rfl hT bT1.tileAt ?_)
  refine (tile_any T hT _).mono ?_
  rintro e w2 ⟨v2, rfl, ho2, hB2⟩
  obtain ⟨a2, c2, rfl, hc2, hm2⟩ := ownsRow_slice ho2
  go_wp2_with fail
  refine (clone_bytes _ (enc T) _ (OwnB.bytes (base := w1.heap.size) ho2) (by omega)).mono ?_
  rintro e w3 ⟨v3, rfl, ho3, hB3⟩
  obtain ⟨g, cur, rfl, hg, bG, htk, hc2', _, hcs⟩ := OwnB.block (base := w1.heap.size) ho2 (by omega)
  have bG3 := bG.up hB3
  have hcell : w3.cell? ⟨g, k, none⟩ = some (vb ((enc T)[k]'hkl)) := by
    rw [bG3.cell]
    have := congrArg (fun l => l[k]?) htk
    simp [hkl] at this
    simpa using this
  have hfr := bG3.frozen k
  clear hne
  obtain ⟨z, hz, hzy⟩ := xor_byte ((enc T)[k]'hkl) y
  have HZ := Lib.hid hzy
  clear hzy
  have ho4 := OwnB.setB (base := w1.heap.size) (k := k) (ownsRow_below ho2 hB3 (Nat.le_refl _)) z
  have hW4 : Blk (w3.setCell ⟨g, k, none⟩ (vb z)) w.heap.size (tcells T) 29 := ((bT1.up hB2).up hB3).other _ _ (by have := bT1.lt; simp; omega)
  have h34 : Bytes (w3.setCell ⟨g, k, none⟩ (vb z)) v3 (enc T) := OwnB.bytes (base := w2.heap.size) (ho3.kept (gb_set (gb_refl _ _) k _) (.inr (fun e => own_ne (b := g) ho3 bG.lt e.symm)))
  have hB4 : Below w.heap.size w (w3.setCell ⟨g, k, none⟩ (vb z)) := (Below.up (Below.up (Below.new w _) hB1) (Below.up hB2 hB3)).setCell (p := ⟨g, k, none⟩) (Nat.le_trans (Nat.le_of_lt bT1.lt) hg) _
  obtain ⟨a3, c3, rfl, hc3, hm3⟩ := ownsRow_slice ho3
  go_wp2_with fail
  refine gen_calls (fun W => Below w.heap.size w W ∧ Blk W w.heap.size (tcells T) 29 ∧ Bytes W (.slice (some ⟨g, 0, none⟩) (enc T).length c2) ((enc T).set k z) ∧ Bytes W (.slice a3 (enc T).length c3) (enc T)) ⟨hB4, hW4, ho4.bytes, h34⟩ ?_
  clear bT bT1 ho2 ho3 bG bG3 hW4 h34 hB4 ho4 hcell hfr htk
  rintro W4 ⟨hB4, bT4, h4, h34⟩
  have hl' : ((enc T).set k z).length = (enc T).length := by simp
  have hc := readtile_any (.slice (some ⟨g, 0, none⟩) (enc T).length c2) _ W4 h4
  by_cases hy : y = 0
  · have hy' : ((y.toNat : Int) == 0) = true := by subst hy; rfl
    have hr : readTile ((enc T).set k z) = some (T, (enc T).length) := by
      rw [HZ.out.2 hy, List.set_getElem_self]
      simpa using read_enc T hT []
    refine hc.mono ?_
    rintro e W5 ⟨hB5, he⟩
    rw [hr] at he
    change e = .returned (.tuple #[tileV T, .int .i64 (enc T).length, .int .i64 0]) at he
    subst he
    have bN := Blk.new W5 (tcells T) 29
    have bT5 := (bT4.up hB5).alloc (.cells (tcells T) 29)
    clear hc hr
    go_wp2_with (first | refine wl_alloc_tile rfl ?_ | refine wl_store_tile_new rfl rfl rfl rfl (by rfl) hT ?_ | refine wl_load_tile rfl rfl hT bN.tileAt ?_ | refine wl_load_tile rfl rfl hT bT5.tileAt ?_ | refine wl_eql_tile rfl rfl rfl hT hT ?_)
    go_ret
    exact ⟨rfl, Below.upA (Below.up hB4 hB5) _⟩
  · have hy' : ((y.toNat : Int) == 0) = false := by
      rw [beq_eq_false_iff_ne]
      intro h
      apply hy
      apply UInt8.toNat_inj.1
      simpa using h
    have hzk : z ≠ (enc T)[k] := fun h => hy (HZ.out.1 h)
    have hso := fun U n hU => spoilt_other T U hT hU k n z hkl hzk
    clear HZ hzk
    cases hr : readTile ((enc T).set k z) with
    | none =>
      refine hc.mono ?_
      rintro e W5 ⟨hB5, he⟩
      rw [hr] at he
      change e = .returned (.tuple #[tileV noTile, .int .i64 0, .int .i64 200]) at he
      subst he
      have bN := Blk.new W5 (tcells noTile) 29
      clear hc hr hso hy
      go_wp2_with (first | refine wl_alloc_tile rfl ?_ | refine wl_store_tile_new rfl rfl rfl rfl (by rfl) noTile_len ?_ | refine wl_load_tile rfl rfl noTile_len bN.tileAt ?_ | refine wl_build_tile rfl ?_ | refine wl_eql_tile rfl rfl rfl noTile_len noTile_len ?_)
      go_ret
      exact ⟨rfl, Below.upA (Below.up hB4 hB5) _⟩
    | some p =>
      obtain ⟨U, n⟩ := p
      have hU := readT_len _ _ _ _ hr
      obtain ⟨hn1, hn2, hn3⟩ := read_own _ _ _ hr
      obtain ⟨hne, hpre⟩ := hso U n hU hr
      have hne' : (U != T) = true := by simpa using hne
      refine hc.mono ?_
      rintro e W5 ⟨hB5, he⟩
      rw [hr] at he
      change e = .returned (.tuple #[tileV U, .int .i64 n, .int .i64 0]) at he
      subst he
      have bN := Blk.new W5 (tcells U) 29
      rw [hl'] at hn2
      clear hc hr hso hy hne
      have k5 := Below.upA hB5 (.cells (tcells U) 29)
      go_wp2_with (first | refine wl_alloc_tile rfl ?_ | refine wl_store_tile_new rfl rfl rfl rfl (by rfl) hU ?_ | refine wl_load_tile rfl rfl hU bN.tileAt ?_)
      refine (tile_any U hU _).mono ?_
      rintro e W6 ⟨v6, rfl, ho6, hB6⟩
      have bN6 := bN.up hB6
      have bT6 := bT4.up (Below.up k5 hB6)
      have h6 := OwnB.bytes (base := (W5.alloc (.cells (tcells U) 29)).heap.size) ho6
      have k6 := Below.up k5 hB6
      have hp6 := (h4.below k6).part (k := n) (by rw [hl']; exact hn2)
      rw [hn3] at hp6
      go_wp2_with (first | refine wl_load_tile rfl rfl hU bN6.tileAt ?_ | refine wl_load_tile rfl rfl hT bT6.tileAt ?_ | refine wl_neq_tile rfl rfl rfl hU hT ?_)
      refine (w_equal (enc U) _ _ _ h6 hp6).mono ?_
      rintro e W7 ⟨rfl, hB7⟩
      go_wp2_with (refine wl_min n (enc T).length rfl rfl rfl ?_; intro m hm1 hm2 hm3)
      have hw := ((h34.below k6).below hB7).part hm2
      rw [hm3.out] at hw
      refine (equal_bytes _ _ (enc U) _ _ (h6.below hB7) (by rw [hm3.out]; exact hw)).mono ?_
      rintro e W8 ⟨he, hB8⟩
      rw [show decide (enc U = (enc T).take (min n (enc T).length)) = false from by simpa using hpre] at he
      subst he
      go_wp2
      go_ret
      exact ⟨rfl, Below.up (Below.up (Below.up hB4 k6) hB7) hB8⟩

theorem law_spoilt2 (v : Value) (T : List Col) (at_ : Int) (y : UInt8) (w : World) (h : T.length = 64 ∧ v = tileV T) (_ : (Lit.int .i64 at_).wf = true) :
    Calls Try.prog 4 #[v, .int .i64 at_, vb y] w fun e w' => e = .returned (.bool true) ∧ Below w.heap.size w w' := by
  obtain ⟨hT, rfl⟩ := h
  exact law_spoilt T hT at_ y w

end Go.Proofs.Ytneajhldmecllaa
