/- Rows of tiles: Clone, Equal, Size. -/
import Derived.Test.YtneajhldmecllaaRunsReads
import Derived.Test.YtneajhldmecllaaRunsEnc
namespace Go.Proofs.Ytneajhldmecllaa
open Go.RowKit

/-- the cells of a row of tiles -/
def tlc (L : List (List Col)) : List Value := L.flatMap fun T => (tcells T).toList
/-- all of them have 64 pixels -/
def All64 (L : List (List Col)) : Prop := ∀ T ∈ L, T.length = 64

theorem tlc_len (L : List (List Col)) (h : All64 L) : (tlc L).length = L.length * 256 := by
  induction L with
  | nil => rfl
  | cons T L ih =>
    have h1 : (tcells T).size = 256 := by rw [tcells_size, h T (by simp)]
    unfold tlc at ih ⊢
    rw [List.flatMap_cons, List.length_append, ih (fun U hU => h U (by simp [hU]))]
    simp [h1, Nat.add_mul]; omega

theorem tlc_get (L : List (List Col)) (h : All64 L) (i : Nat) (hi : i < L.length) (j : Nat) (v : Value) (hv : (tcells L[i])[j]? = some v) : (tlc L)[i * 256 + j]? = some v := by
  induction L generalizing i with
  | nil => simp at hi
  | cons T L ih =>
    have h1 : (tcells T).size = 256 := by rw [tcells_size, h T (by simp)]
    have e : tlc (T :: L) = (tcells T).toList ++ tlc L := rfl
    rw [e]
    cases i with
    | zero =>
      have hj := (Array.getElem?_eq_some_iff.1 hv).1
      simp only [List.getElem_cons_zero] at hv hj
      rw [Nat.zero_mul, Nat.zero_add, List.getElem?_append_left (by simpa using hj)]
      simpa using hv
    | succ i =>
      rw [List.getElem?_append_right (by simp [h1]; omega)]
      have := ih (fun U hU => h U (by simp [hU])) i (by simpa using hi) (by simpa using hv)
      rw [← this]
      congr 1
      simp [h1]; omega

theorem one_tlc (L : List (List Col)) : ∀ u ∈ tlc L, u.oneCell' = true := by
  intro u hu
  unfold tlc at hu
  obtain ⟨T, _, h⟩ := List.mem_flatMap.1 hu
  have := tcells_all T
  rw [Array.all_eq_true'] at this
  exact this u (by simpa using h)

theorem elem_tile : Elem Try.prog 22 29 256 256 := Elem.mk' (z := tileV noTile) Try.underlying22 (by kernel_rfl) (by kernel_rfl) (by decide)

/-- a slice of tiles that can be read -/
def Tiles (w : World) (v : Value) (L : List (List Col)) : Prop := All64 L ∧ IsSl w v L.length (tlc L)
def OwnT (base : Nat) (w : World) (v : Value) (L : List (List Col)) : Prop := All64 L ∧ w.ownsRow base 29 256 v L.length (tlc L)
theorem OwnT.tiles {base : Nat} {w : World} {v : Value} {L : List (List Col)} (h : OwnT base w v L) : Tiles w v L := ⟨h.1, IsSl.of_own h.2⟩
theorem Tiles.below {w w' : World} {v : Value} {L : List (List Col)} (h : Tiles w v L) (hb : Below w.heap.size w w') : Tiles w' v L := ⟨h.1, h.2.below hb⟩
theorem Tiles.slice {w : World} {v : Value} {L : List (List Col)} (h : Tiles w v L) : ∃ a c, v = .slice a L.length c ∧ L.length ≤ c ∧ c ≤ maxLen := by
  obtain ⟨_, a, c, e, h1, h2, _⟩ := h; exact ⟨a, c, e, h1, h2⟩
theorem Tiles.get {w : World} {a : Option Addr} {n c : Nat} {L : List (List Col)} (h : Tiles w (.slice a n c) L) (i : Nat) (hi : i < L.length) : ∃ b o, a = some ⟨b, o, none⟩ ∧ TileAt w b (o + i * 256) L[i] ∧ b < w.heap.size := by
  obtain ⟨h64, a', c', e, _, _, _, r⟩ := h
  cases e
  have hT := h64 L[i] (by simp)
  have h0 := (tcells_at L[i] 0 (by omega)).1
  obtain ⟨b, o, ea, hc⟩ := r (i * 256 + 0) _ (tlc_get L h64 i hi 0 _ h0)
  refine ⟨b, o, ea, fun j v hv => ?_, World.block_lt_of_cell? w _ hc⟩
  obtain ⟨b', o', ea', hc'⟩ := r (i * 256 + j) v (tlc_get L h64 i hi j v hv)
  rw [ea] at ea'
  cases ea'
  rw [Nat.add_assoc]
  exact hc'
theorem Tiles.nil (w : World) : Tiles w (.slice none 0 0) [] := ⟨by simp [All64], IsSl.nil w⟩

set_option maxHeartbeats 1000000 in
theorem clone_tiles (v : Value) (L : List (List Col)) (w : World) (h : Tiles w v L) (hlen : L.length ≤ 1000) :
    Calls Try.prog 9 #[v] w fun e w' => ∃ v', e = .returned v' ∧ OwnT w.heap.size w' v' L ∧ Below w.heap.size w w' := by
  have h' := h.2
  obtain ⟨a, c, rfl, hc, hm, hnil, r⟩ := h'
  cases a with
  | none =>
    obtain rfl : c = 0 := hnil rfl
    obtain rfl : L = [] := List.eq_nil_of_length_eq_zero (by omega)
    have hq := Lib.run_eql_slice_nil (P := Try.prog) w 22 29 none 0 0 0 0 Try.underlying22
    go_enter Try.func9, Try.ntmps9
    go_wp2
    go_ret
    exact ⟨_, rfl, ⟨h.1, World.ownsRow_nil _ _ _ _⟩, Below.refl _ _⟩
  | some ad =>
    have hq := Lib.run_eql_slice_nil (P := Try.prog) w 22 29 (some ad) L.length c 0 0 Try.underlying22
    have H := Lib.hid h
    have hl := tlc_len L h.1
    clear h
    go_enter Try.func9, Try.ntmps9
    go_wp2_with (refine wl_append (w.heap.size) elem_tile rfl rfl rfl (World.ownsRow_lit (base := w.heap.size) (e := 29) (size := 256) w #[] 0 (Nat.le_refl _) (by unfold maxLen; omega) rfl) (H.out.2.below ((Below.refl _ w).alloc (Nat.le_refl _) _)) hl (one_tlc L) (by unfold maxLen; omega) (by omega) (by simp) ?_; intro v' w1 hown hg)
    go_ret
    exact ⟨_, rfl, ⟨H.out.1, by simpa using hown⟩, by
      refine below_append (base := w.heap.size) ((Below.refl _ w).alloc (Nat.le_refl _) _) (Nat.le_refl _) (by simp) (World.ownsRow_lit (base := w.heap.size) (e := 29) (size := 256) w #[] 0 (Nat.le_refl _) (by unfold maxLen; omega) rfl) hg⟩

set_option maxHeartbeats 1000000 in
theorem equal_tiles (v1 v2 : Value) (l1 l2 : List (List Col)) (w : World) (h1 : Tiles w v1 l1) (h2 : Tiles w v2 l2) :
    Calls Try.prog 48 #[v1, v2] w fun e w' => e = .returned (.bool (decide (l1 = l2))) ∧ Below w.heap.size w w' := by
  obtain ⟨a1, c1, rfl, hc1, hm1⟩ := h1.slice
  obtain ⟨a2, c2, rfl, hc2, hm2⟩ := h2.slice
  unfold maxLen at hm1 hm2
  by_cases hlen : l1.length = l2.length
  · have HL := Lib.hid hlen
    have hb : ((l1.length : Int) != (l2.length : Int)) = false := by simp; omega
    clear hlen
    go_enter Try.func48, Try.ntmps48
    go_wp2
    go_loopw [13] (fun i wr => ∃ k : Nat, k ≤ l1.length ∧ i = .int .i64 k ∧ l1.take k = l2.take k ∧ Below w.heap.size w wr) (fun i _ => l1.length - (intOf i).toNat)
    case atStart => exact ⟨0, by omega, rfl, by simp, Below.refl _ _⟩
    case round =>
      obtain ⟨k, hk, rfl, heq, hB⟩ := hrel
      by_cases hlt : k < l1.length
      · have hlt2 : k < l2.length := by have := HL.out; omega
        obtain ⟨b1, o1, rfl, e1, x1⟩ := h1.get k hlt
        obtain ⟨b2, o2, rfl, e2, x2⟩ := h2.get k hlt2
        have e1' := e1.below hB x1
        have e2' := e2.below hB x2
        have t1 : l1[k].length = 64 := h1.1 _ (by simp)
        have t2 : l2[k].length = 64 := h2.1 _ (by simp)
        have HE := Lib.hid heq
        clear e1 e2 heq
        by_cases hx : l1[k] = l2[k]
        · have hxb : (l1[k] != l2[k]) = false := by rw [hx]; simp
          have HX := Lib.hid hx
          clear hx
          go_wp2
          refine wp_region_quiet_lit (by kernel_rfl) (by kernel_rfl) ?_
          repeat (first | (refine wq_load_tile rfl rfl t1 (by rintro w' ⟨m, rfl⟩; exact e1') ?_; simp only [Act.put, List.setIfInBounds_toArray, List.set_cons_succ, List.set_cons_zero]) | (refine wq_load_tile rfl rfl t2 (by rintro w' ⟨m, rfl⟩; exact e2') ?_; simp only [Act.put, List.setIfInBounds_toArray, List.set_cons_succ, List.set_cons_zero]) | (refine wq_neq_tile rfl rfl rfl t1 t2 ?_; rw [hxb]) | go_big_quiet_step (fail) | quiet_step (fail))
          refine wpQuiet_nil ?_
          intro _ hw'
          obtain ⟨nq, hw''⟩ := hw'
          subst hw''
          go_wp2
          go_roundw
          case rel => exact ⟨k + 1, by omega, by go_num, by rw [List.take_succ_eq_append_getElem hlt, List.take_succ_eq_append_getElem hlt2, HE.out, HX.out], hB.trans (below_drewN _ _ _)⟩
          case measure => simp only [intOf]; omega
        · have hxb : (l1[k] != l2[k]) = true := by simpa using hx
          go_wp2
          refine wp_region_quiet_lit (by kernel_rfl) (by kernel_rfl) ?_
          repeat (first | (refine wq_load_tile rfl rfl t1 (by rintro w' ⟨m, rfl⟩; exact e1') ?_; simp only [Act.put, List.setIfInBounds_toArray, List.set_cons_succ, List.set_cons_zero]) | (refine wq_load_tile rfl rfl t2 (by rintro w' ⟨m, rfl⟩; exact e2') ?_; simp only [Act.put, List.setIfInBounds_toArray, List.set_cons_succ, List.set_cons_zero]) | (refine wq_neq_tile rfl rfl rfl t1 t2 ?_; rw [hxb]) | go_big_quiet_step (fail) | quiet_step (fail))
          refine wpQuiet_nil ?_
          intro _ hw'
          obtain ⟨nq, hw''⟩ := hw'
          subst hw''
          go_wp2
          go_ret
          refine ⟨?_, hB.trans (below_drewN _ _ _)⟩
          have : ¬ l1 = l2 := fun h => hx (by subst h; rfl)
          simp [this]
      · obtain rfl : k = l1.length := by omega
        have : l1 = l2 := by rw [List.take_of_length_le (Nat.le_refl _), List.take_of_length_le (by have := HL.out; omega)] at heq; exact heq
        have HT := Lib.hid this
        clear this heq
        go_wp2
        go_ret
        exact ⟨by have := HT.out; simp [this], hB⟩
  · have hb : ((l1.length : Int) != (l2.length : Int)) = true := by simp; omega
    have hne : ¬ l1 = l2 := fun h => hlen (by rw [h])
    clear hlen
    go_enter Try.func48, Try.ntmps48
    go_wp2
    go_ret
    exact ⟨by simp [hne], Below.refl _ _⟩

end Go.Proofs.Ytneajhldmecllaa
