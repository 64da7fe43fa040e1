/- Walks by data and names, part 33: Rows of tiles: Clone, Equal, Size. Runs: the plain law. A tile is read by its maximal runs just if the tile's own bytes stand there. runs.Size. -/
import Derived.Test.YtkjpcjccddggoaaGreatPk32
import Derived.Test.YtkjpcjccddggoaaGreatPk1
namespace Go.Proofs.YtkjpcjccddggoaaGreat
set_option maxRecDepth 20000
open Go.RowKit
/-- the cells of a row of tiles -/
def tlc (L : List (List Col)) : List Value := L.flatMap fun T => (tcells T).toList
/-- all of them have 64 pixels -/
def All64 (L : List (List Col)) : Prop := ∀ T ∈ L, T.length = 64
theorem tlc_len (L : List (List Col)) (h : All64 L) : (tlc L).length = L.length * 256 := by
  induction L with
  | nil => rfl
  | cons T L ih =>
    have h1 : (tcells T).size = 256 := by rw [tcells_size, h T (by simp)]
    unfold tlc at ih ⊢
    rw [List.flatMap_cons, List.length_append, ih (fun U hU => h U (by simp [hU]))]
    simp [h1, Nat.add_mul]; omega
theorem tlc_get (L : List (List Col)) (h : All64 L) (i : Nat) (hi : i < L.length) (j : Nat) (v : Value) (hv : (tcells L[i])[j]? = some v) : (tlc L)[i * 256 + j]? = some v := by
  induction L generalizing i with
  | nil => simp at hi
  | cons T L ih =>
    have h1 : (tcells T).size = 256 := by rw [tcells_size, h T (by simp)]
    have e : tlc (T :: L) = (tcells T).toList ++ tlc L := rfl
    rw [e]
    cases i with
    | zero =>
      have hj := (Array.getElem?_eq_some_iff.1 hv).1
      simp only [List.getElem_cons_zero] at hv hj
      rw [Nat.zero_mul, Nat.zero_add, List.getElem?_append_left (by simpa using hj)]
      simpa using hv
    | succ i =>
      rw [List.getElem?_append_right (by simp [h1]; omega)]
      have := ih (fun U hU => h U (by simp [hU])) i (by simpa using hi) (by simpa using hv)
      rw [← this]
      congr 1
      simp [h1]; omega
theorem one_tlc (L : List (List Col)) : ∀ u ∈ tlc L, u.oneCell' = true := by
  intro u hu
  unfold tlc at hu
  obtain ⟨T, _, h⟩ := List.mem_flatMap.1 hu
  have := tcells_all T
  rw [Array.all_eq_true'] at this
  exact this u (by simpa using h)
theorem elem_tile : Elem Tryz.prog 48 109 256 256 := Elem.mk' (z := tileV noTile) Tryz.underlying48 (by kernel_rfl) (by kernel_rfl) (by decide)
/-- a slice of tiles that can be read -/
def Tiles (w : World) (v : Value) (L : List (List Col)) : Prop := All64 L ∧ IsSl w v L.length (tlc L)
def OwnT (base : Nat) (w : World) (v : Value) (L : List (List Col)) : Prop := All64 L ∧ w.ownsRow base 109 256 v L.length (tlc L)
theorem OwnT.tiles {base : Nat} {w : World} {v : Value} {L : List (List Col)} (h : OwnT base w v L) : Tiles w v L := ⟨h.1, IsSl.of_own h.2⟩
theorem Tiles.below {w w' : World} {v : Value} {L : List (List Col)} (h : Tiles w v L) (hb : Below w.heap.size w w') : Tiles w' v L := ⟨h.1, h.2.below hb⟩
theorem Tiles.slice {w : World} {v : Value} {L : List (List Col)} (h : Tiles w v L) : ∃ a c, v = .slice a L.length c ∧ L.length ≤ c ∧ c ≤ maxLen := by
  obtain ⟨_, a, c, e, h1, h2, _⟩ := h; exact ⟨a, c, e, h1, h2⟩
theorem Tiles.get {w : World} {a : Option Addr} {n c : Nat} {L : List (List Col)} (h : Tiles w (.slice a n c) L) (i : Nat) (hi : i < L.length) : ∃ b o, a = some ⟨b, o, none⟩ ∧ TileAt w b (o + i * 256) L[i] ∧ b < w.heap.size := by
  obtain ⟨h64, a', c', e, _, _, _, r⟩ := h
  cases e
  have hT := h64 L[i] (by simp)
  have h0 := (tcells_at L[i] 0 (by omega)).1
  obtain ⟨b, o, ea, hc⟩ := r (i * 256 + 0) _ (tlc_get L h64 i hi 0 _ h0)
  refine ⟨b, o, ea, fun j v hv => ?_, World.block_lt_of_cell? w _ hc⟩
  obtain ⟨b', o', ea', hc'⟩ := r (i * 256 + j) v (tlc_get L h64 i hi j v hv)
  rw [ea] at ea'
  cases ea'
  rw [Nat.add_assoc]
  exact hc'
theorem Tiles.nil (w : World) : Tiles w (.slice none 0 0) [] := ⟨by simp [All64], IsSl.nil w⟩
set_option maxHeartbeats 1000000 in
theorem clone_tiles (v : Value) (L : List (List Col)) (w : World) (h : Tiles w v L) (hlen : L.length ≤ 1000) :
    Calls Tryz.prog 59 #[v] w fun e w' => ∃ v', e = .returned v' ∧ OwnT w.heap.size w' v' L ∧ Below w.heap.size w w' := by
  have h' := h.2
  obtain ⟨a, c, rfl, hc, hm, hnil, r⟩ := h'
  cases a with
  | none =>
    obtain rfl : c = 0 := hnil rfl
    obtain rfl : L = [] := List.eq_nil_of_length_eq_zero (by omega)
    have hq := Lib.run_eql_slice_nil (P := Tryz.prog) w 48 109 none 0 0 0 0 Tryz.underlying48
    go_enter Tryz.func59, Tryz.ntmps59
    go_wp2
    go_ret
    exact ⟨_, rfl, ⟨h.1, World.ownsRow_nil _ _ _ _⟩, Below.refl _ _⟩
  | some ad =>
    have hq := Lib.run_eql_slice_nil (P := Tryz.prog) w 48 109 (some ad) L.length c 0 0 Tryz.underlying48
    have H := Lib.hid h
    have hl := tlc_len L h.1
    clear h
    go_enter Tryz.func59, Tryz.ntmps59
    go_wp2_with (refine wl_append (w.heap.size) elem_tile rfl rfl rfl (World.ownsRow_lit (base := w.heap.size) (e := 109) (size := 256) w #[] 0 (Nat.le_refl _) (by unfold maxLen; omega) rfl) (H.out.2.below ((Below.refl _ w).alloc (Nat.le_refl _) _)) hl (one_tlc L) (by unfold maxLen; omega) (by omega) (by simp) ?_; intro v' w1 hown hg)
    go_ret
    exact ⟨_, rfl, ⟨H.out.1, by simpa using hown⟩, by
      refine below_append (base := w.heap.size) ((Below.refl _ w).alloc (Nat.le_refl _) _) (Nat.le_refl _) (by simp) (World.ownsRow_lit (base := w.heap.size) (e := 109) (size := 256) w #[] 0 (Nat.le_refl _) (by unfold maxLen; omega) rfl) hg⟩
set_option maxHeartbeats 1000000 in
theorem equal_tiles (v1 v2 : Value) (l1 l2 : List (List Col)) (w : World) (h1 : Tiles w v1 l1) (h2 : Tiles w v2 l2) :
    Calls Tryz.prog 99 #[v1, v2] w fun e w' => e = .returned (.bool (decide (l1 = l2))) ∧ Below w.heap.size w w' := by
  obtain ⟨a1, c1, rfl, hc1, hm1⟩ := h1.slice
  obtain ⟨a2, c2, rfl, hc2, hm2⟩ := h2.slice
  unfold maxLen at hm1 hm2
  by_cases hlen : l1.length = l2.length
  · have HL := Lib.hid hlen
    have hb : ((l1.length : Int) != (l2.length : Int)) = false := by simp; omega
    clear hlen
    go_enter Tryz.func99, Tryz.ntmps99
    go_wp2
    go_loopw [13] (fun i wr => ∃ k : Nat, k ≤ l1.length ∧ i = .int .i64 k ∧ l1.take k = l2.take k ∧ Below w.heap.size w wr) (fun i _ => l1.length - (intOf i).toNat)
    case atStart => exact ⟨0, by omega, rfl, by simp, Below.refl _ _⟩
    case round =>
      obtain ⟨k, hk, rfl, heq, hB⟩ := hrel
      by_cases hlt : k < l1.length
      · have hlt2 : k < l2.length := by have := HL.out; omega
        obtain ⟨b1, o1, rfl, e1, x1⟩ := h1.get k hlt
        obtain ⟨b2, o2, rfl, e2, x2⟩ := h2.get k hlt2
        have e1' := e1.below hB x1
        have e2' := e2.below hB x2
        have t1 : l1[k].length = 64 := h1.1 _ (by simp)
        have t2 : l2[k].length = 64 := h2.1 _ (by simp)
        have HE := Lib.hid heq
        clear e1 e2 heq
        by_cases hx : l1[k] = l2[k]
        · have hxb : (l1[k] != l2[k]) = false := by rw [hx]; simp
          have HX := Lib.hid hx
          clear hx
          go_wp2
          refine wp_region_quiet_lit (by kernel_rfl) (by kernel_rfl) ?_
          repeat (first | (refine wq_load_tile rfl rfl t1 (by rintro w' ⟨m, rfl⟩; exact e1') ?_; simp only [Act.put, List.setIfInBounds_toArray, List.set_cons_succ, List.set_cons_zero]) | (refine wq_load_tile rfl rfl t2 (by rintro w' ⟨m, rfl⟩; exact e2') ?_; simp only [Act.put, List.setIfInBounds_toArray, List.set_cons_succ, List.set_cons_zero]) | (refine wq_neq_tile rfl rfl rfl t1 t2 ?_; rw [hxb]) | go_big_quiet_step (fail) | quiet_step (fail))
          refine wpQuiet_nil ?_
          intro _ hw'
          obtain ⟨nq, hw''⟩ := hw'
          subst hw''
          go_wp2
          go_roundw
          case rel => exact ⟨k + 1, by omega, by go_num, by rw [List.take_succ_eq_append_getElem hlt, List.take_succ_eq_append_getElem hlt2, HE.out, HX.out], hB.trans (below_drewN _ _ _)⟩
          case measure => simp only [intOf]; omega
        · have hxb : (l1[k] != l2[k]) = true := by simpa using hx
          go_wp2
          refine wp_region_quiet_lit (by kernel_rfl) (by kernel_rfl) ?_
          repeat (first | (refine wq_load_tile rfl rfl t1 (by rintro w' ⟨m, rfl⟩; exact e1') ?_; simp only [Act.put, List.setIfInBounds_toArray, List.set_cons_succ, List.set_cons_zero]) | (refine wq_load_tile rfl rfl t2 (by rintro w' ⟨m, rfl⟩; exact e2') ?_; simp only [Act.put, List.setIfInBounds_toArray, List.set_cons_succ, List.set_cons_zero]) | (refine wq_neq_tile rfl rfl rfl t1 t2 ?_; rw [hxb]) | go_big_quiet_step (fail) | quiet_step (fail))
          refine wpQuiet_nil ?_
          intro _ hw'
          obtain ⟨nq, hw''⟩ := hw'
          subst hw''
          go_wp2
          go_ret
          refine ⟨?_, hB.trans (below_drewN _ _ _)⟩
          have : ¬ l1 = l2 := fun h => hx (by subst h; rfl)
          simp [this]
      · obtain rfl : k = l1.length := by omega
        have : l1 = l2 := by rw [List.take_of_length_le (Nat.le_refl _), List.take_of_length_le (by have := HL.out; omega)] at heq; exact heq
        have HT := Lib.hid this
        clear this heq
        go_wp2
        go_ret
        exact ⟨by have := HT.out; simp [this], hB⟩
  · have hb : ((l1.length : Int) != (l2.length : Int)) = true := by simp; omega
    have hne : ¬ l1 = l2 := fun h => hlen (by rw [h])
    clear hlen
    go_enter Tryz.func99, Tryz.ntmps99
    go_wp2
    go_ret
    exact ⟨by simp [hne], Below.refl _ _⟩
end Go.Proofs.YtkjpcjccddggoaaGreat

namespace Go.Proofs.YtkjpcjccddggoaaGreat
set_option maxRecDepth 20000
def expand (rs : List (Nat × Col)) : List Col := rs.flatMap fun x => List.replicate x.1 x.2
/-- the runs that bytes begin with, behind so many pixels -/
def parse (n : Nat) (l : List UInt8) : Option (List (Nat × Col)) :=
  if n = 64 then some [] else
  match l with
  | m :: r :: g :: b :: a :: rest => if 0 < m.toNat ∧ n + m.toNat ≤ 64 then (parse (n + m.toNat) rest).map ((m.toNat, ⟨r, g, b, a⟩) :: ·) else none
  | _ => none
/-- the tile of them, so too if a run is not all of its own -/
def readR (T : List Col) (l : List UInt8) : Option (List Col × Nat) :=
  if T.length = 64 then some (T, 0) else
  match l with
  | m :: r :: g :: b :: a :: rest => if 0 < m.toNat ∧ T.length + m.toNat ≤ 64 then (readR (T ++ List.replicate m.toNat ⟨r, g, b, a⟩) rest).map fun p => (p.1, p.2 + 5) else none
  | _ => none
def chain : Option Col → List (Nat × Col) → Bool
  | _, [] => true
  | o, x :: rs => decide (o ≠ some x.2) && chain (some x.2) rs
theorem readR_parse (T : List Col) (l : List UInt8) : readR T l = (parse T.length l).map fun rs => (T ++ expand rs, 5 * rs.length) := by
  by_cases h : T.length = 64
  · unfold readR parse; rw [if_pos h, if_pos h]; simp [expand]
  · match l with
    | m :: r :: g :: b :: a :: rest =>
      rw [readR, parse, if_neg h, if_neg h]
      split
      · have ih := readR_parse (T ++ List.replicate m.toNat ⟨r, g, b, a⟩) rest
        rw [ih, List.length_append, List.length_replicate, Option.map_map, Option.map_map]
        congr 1
        funext rs
        simp [Function.comp, expand, Nat.mul_add]
      · rfl
    | [] => unfold readR parse; simp [h]
    | [_] => unfold readR parse; simp [h]
    | [_, _] => unfold readR parse; simp [h]
    | [_, _, _] => unfold readR parse; simp [h]
    | [_, _, _, _] => unfold readR parse; simp [h]
termination_by l.length
theorem readT_parse (T : List Col) (l : List UInt8) : readT T l = (parse T.length l).bind fun rs => if chain T.getLast? rs then some (T ++ expand rs, 5 * rs.length) else none := by
  by_cases h : T.length = 64
  · unfold readT parse; rw [if_pos h, if_pos h]; simp [expand, chain]
  · match l with
    | m :: r :: g :: b :: a :: rest =>
      rw [readT, parse, if_neg h, if_neg h]
      by_cases hm : 0 < m.toNat ∧ T.length + m.toNat ≤ 64
      · rw [if_pos hm]
        have hl : (T ++ List.replicate m.toNat (⟨r, g, b, a⟩ : Col)).getLast? = some ⟨r, g, b, a⟩ := by
          obtain ⟨k, hk⟩ : ∃ k, m.toNat = k + 1 := ⟨m.toNat - 1, by omega⟩
          rw [hk, List.replicate_succ', ← List.append_assoc, List.getLast?_concat]
        by_cases hc : T.getLast? = some ⟨r, g, b, a⟩
        · rw [if_neg (fun h => h.2.2 hc)]
          cases parse (T.length + m.toNat) rest with
          | none => rfl
          | some rs => simp [chain, hc]
        · rw [if_pos ⟨hm.1, hm.2, hc⟩]
          have ih := readT_parse (T ++ List.replicate m.toNat ⟨r, g, b, a⟩) rest
          rw [ih, List.length_append, List.length_replicate, hl]
          cases parse (T.length + m.toNat) rest with
          | none => rfl
          | some rs =>
            simp only [Option.bind_some, Option.map_some, chain, hc, ne_eq, not_false_eq_true, decide_true, Bool.true_and]
            split
            · simp [expand, Nat.mul_add]
            · rfl
      · rw [if_neg hm, if_neg (fun h => hm ⟨h.1, h.2.1⟩)]; rfl
    | [] => unfold readT parse; simp [h]
    | [_] => unfold readT parse; simp [h]
    | [_, _] => unfold readT parse; simp [h]
    | [_, _, _] => unfold readT parse; simp [h]
    | [_, _, _, _] => unfold readT parse; simp [h]
termination_by l.length
theorem parse_facts (n : Nat) (l : List UInt8) (rs : List (Nat × Col)) (hp : parse n l = some rs) : (∀ x ∈ rs, 0 < x.1 ∧ x.1 < 256) ∧ encR rs <+: l := by
  by_cases h : n = 64
  · unfold parse at hp; rw [if_pos h] at hp; cases hp; simp [encR]
  · match l, hp with
    | m :: r :: g :: b :: a :: rest, hp =>
      rw [parse, if_neg h] at hp
      split at hp
      · rename_i hm
        obtain ⟨rs', hp', he⟩ := Option.map_eq_some_iff.1 hp
        subst he
        obtain ⟨h1, h2⟩ := parse_facts _ rest rs' hp'
        refine ⟨?_, ?_⟩
        · intro x hx
          rcases List.mem_cons.1 hx with rfl | hx
          · exact ⟨hm.1, by have := m.toNat_lt; simpa using this⟩
          · exact h1 x hx
        · obtain ⟨t, ht⟩ := h2
          exact ⟨t, by rw [← ht]; simp [encR, rleB]⟩
      · cases hp
    | [], hp => unfold parse at hp; simp [h] at hp
    | [_], hp => unfold parse at hp; simp [h] at hp
    | [_, _], hp => unfold parse at hp; simp [h] at hp
    | [_, _, _], hp => unfold parse at hp; simp [h] at hp
    | [_, _, _, _], hp => unfold parse at hp; simp [h] at hp
termination_by l.length
theorem rleGo_rep (m n : Nat) (c : Col) (ds : List Col) : rleGo n c (List.replicate m c ++ ds) = rleGo (n + m) c ds := by
  induction m generalizing n with
  | zero => rfl
  | succ m ih => rw [List.replicate_succ, List.cons_append, rleGo, if_pos rfl, ih]; congr 1; omega
theorem rleGo_expand (rs : List (Nat × Col)) : ∀ (n : Nat) (c : Col), chain (some c) rs = true → (∀ x ∈ rs, 0 < x.1 ∧ x.1 < 256) → rleGo n c (expand rs) = (n, c) :: rs := by
  induction rs with
  | nil => intro n c _ _; rfl
  | cons x rs ih =>
    intro n c hc hp
    obtain ⟨m, d⟩ := x
    simp only [chain, Bool.and_eq_true, decide_eq_true_eq] at hc
    have hm := (hp (m, d) (by simp)).1
    obtain ⟨k, hk⟩ : ∃ k, m = k + 1 := ⟨m - 1, by simp at hm; omega⟩
    have hne : ¬ d = c := fun e => hc.1 (by rw [e])
    subst hk
    show rleGo n c (List.replicate (k + 1) d ++ expand rs) = _
    rw [List.replicate_succ, List.cons_append, rleGo, if_neg hne, rleGo_rep, ih _ _ hc.2 (fun x hx => hp x (by simp [hx]))]
    congr 2
    congr 1
    omega
theorem rle_expand (rs : List (Nat × Col)) (hc : chain none rs = true) (hp : ∀ x ∈ rs, 0 < x.1 ∧ x.1 < 256) : rle (expand rs) = rs := by
  cases rs with
  | nil => rfl
  | cons x rs =>
    obtain ⟨m, d⟩ := x
    simp only [chain, Bool.and_eq_true, decide_eq_true_eq] at hc
    have hm := (hp (m, d) (by simp)).1
    obtain ⟨k, hk⟩ : ∃ k, m = k + 1 := ⟨m - 1, by simp at hm; omega⟩
    subst hk
    show rle (List.replicate (k + 1) d ++ expand rs) = _
    rw [List.replicate_succ, List.cons_append, rle, rleGo_rep, rleGo_expand _ _ _ hc.2 (fun x hx => hp x (by simp [hx]))]
    congr 2
    omega
theorem rleGo_chain (ds : List Col) : ∀ (n : Nat) (c : Col) (o : Option Col), o ≠ some c → 0 < n → n + ds.length < 256 → chain o (rleGo n c ds) = true ∧ ∀ x ∈ rleGo n c ds, 0 < x.1 ∧ x.1 < 256 := by
  induction ds with
  | nil => intro n c o ho hn hl; simp [rleGo, chain, ho, hn]; simpa using hl
  | cons d ds ih =>
    intro n c o ho hn hl
    simp at hl
    unfold rleGo
    split
    · exact ih (n + 1) c o ho (by omega) (by omega)
    · rename_i hne
      obtain ⟨h1, h2⟩ := ih 1 d (some c) (by simpa using fun e => hne e.symm) (by omega) (by omega)
      refine ⟨by simp [chain, ho, h1], fun x hx => ?_⟩
      rcases List.mem_cons.1 hx with rfl | hx
      · exact ⟨hn, by simp; omega⟩
      · exact h2 x hx
theorem rle_chain (T : List Col) (h : T.length < 256) : chain none (rle T) = true ∧ ∀ x ∈ rle T, 0 < x.1 ∧ x.1 < 256 := by
  cases T with
  | nil => simp [rle, chain]
  | cons c cs => exact rleGo_chain cs 1 c none (by simp) (by omega) (by simpa [Nat.add_comm] using h)
theorem encR_inj : ∀ (rs rs' : List (Nat × Col)), (∀ x ∈ rs, 0 < x.1 ∧ x.1 < 256) → (∀ x ∈ rs', 0 < x.1 ∧ x.1 < 256) → encR rs = encR rs' → rs = rs'
  | [], [], _, _, _ => rfl
  | [], x :: rs', _, _, h => by simp [encR, rleB] at h
  | x :: rs, [], _, _, h => by simp [encR, rleB] at h
  | (n, ⟨r, g, b, a⟩) :: rs, (n', ⟨r', g', b', a'⟩) :: rs', h1, h2, h => by
    have e : rleB (n, ⟨r, g, b, a⟩) ++ encR rs = rleB (n', ⟨r', g', b', a'⟩) ++ encR rs' := h
    simp only [rleB, List.cons_append, List.nil_append, List.cons.injEq] at e
    obtain ⟨e1, rfl, rfl, rfl, rfl, e2⟩ := e
    have ih := encR_inj rs rs' (fun x hx => h1 x (by simp [hx])) (fun x hx => h2 x (by simp [hx])) e2
    have b1 := (h1 (n, ⟨r, g, b, a⟩) (by simp)).2
    have b2 := (h2 (n', ⟨r, g, b, a⟩) (by simp)).2
    have e3 := congrArg UInt8.toNat e1
    simp at e3 b1 b2
    rw [Nat.mod_eq_of_lt b1, Nat.mod_eq_of_lt b2] at e3
    rw [ih, e3]
theorem readR_len (T : List Col) (l : List UInt8) (T' : List Col) (k : Nat) (hr : readR T l = some (T', k)) : T'.length = 64 := by
  by_cases h : T.length = 64
  · unfold readR at hr; rw [if_pos h] at hr; cases hr; exact h
  · match l, hr with
    | m :: r :: g :: b :: a :: rest, hr =>
      rw [readR, if_neg h] at hr
      split at hr
      · obtain ⟨p, hp, he⟩ := Option.map_eq_some_iff.1 hr
        cases he
        exact readR_len _ rest p.1 p.2 hp
      · cases hr
    | [], hr => unfold readR at hr; simp [h] at hr
    | [_], hr => unfold readR at hr; simp [h] at hr
    | [_, _], hr => unfold readR at hr; simp [h] at hr
    | [_, _, _], hr => unfold readR at hr; simp [h] at hr
    | [_, _, _, _], hr => unfold readR at hr; simp [h] at hr
termination_by l.length
/-- THE PLAIN LAW of a tile that is read: by its bytes, or by its runs, it is the same. -/
theorem read_ref (l : List UInt8) : readTile l = (readR [] l).bind fun p => if (enc p.1).length = p.2 ∧ enc p.1 <+: l then some p else none := by
  unfold readTile
  have hlen := readR_len [] l
  rw [readR_parse] at hlen ⊢
  rw [readT_parse]
  cases hp : parse ([] : List Col).length l with
  | none => rfl
  | some rs =>
    obtain ⟨h1, h2⟩ := parse_facts _ _ _ hp
    rw [hp] at hlen
    have h64 : (expand rs).length = 64 := by simpa using hlen ([] ++ expand rs) (5 * rs.length) rfl
    simp only [Option.bind_some, Option.map_some, List.nil_append]
    by_cases hc : chain ([] : List Col).getLast? rs = true
    · rw [if_pos hc, if_pos]
      unfold enc
      rw [rle_expand rs (show chain none rs = true from hc) h1]
      exact ⟨rleB_len rs, h2⟩
    · rw [if_neg hc, if_neg]
      rintro ⟨e1, e2⟩
      obtain ⟨c1, c2⟩ := rle_chain (expand rs) (by omega)
      have e : encR (rle (expand rs)) = encR rs := by
        have t1 := List.prefix_iff_eq_take.1 e2
        have t2 := List.prefix_iff_eq_take.1 h2
        rw [rleB_len] at t2
        rw [e1] at t1
        exact t1.trans t2.symm
      rw [encR_inj _ _ c2 h1 e] at c1
      exact hc c1
end Go.Proofs.YtkjpcjccddggoaaGreat

namespace Go.Proofs.YtkjpcjccddggoaaGreat
set_option maxRecDepth 20000
open Go.RowKit
/-! ### the number of runs -/
theorem rleGo_count (ds : List Col) : ∀ (n : Nat) (c : Col), (rleGo n c ds).length = 1 + chg c ds := by
  induction ds with
  | nil => intro n c; rfl
  | cons d ds ih =>
    intro n c
    unfold rleGo chg
    by_cases h : d = c
    · subst h; rw [if_pos rfl, ih]; simp
    · rw [if_neg h, List.length_cons, ih]; simp [h]; omega
theorem chg_self (c : Col) (ds : List Col) : chg c (c :: ds) = chg c ds := by simp [chg]
theorem runs_count (T : List Col) (h : T ≠ []) : runsOf T = (rle T).length := by
  cases T with
  | nil => exact absurd rfl h
  | cons c cs => unfold runsOf; rw [show (c :: cs).head! = c from rfl, chg_self]; exact (rleGo_count cs 1 c).symm
theorem enc_len (T : List Col) (hT : T.length = 64) : (enc T).length = 5 * runsOf T := by
  unfold enc
  rw [rleB_len, runs_count T (by rintro rfl; simp at hT)]
theorem runsOf_le (T : List Col) (hT : T.length = 64) : runsOf T ≤ 65 := by unfold runsOf; have := chg_le T.head! T; omega
end Go.Proofs.YtkjpcjccddggoaaGreat

namespace Go.Proofs.YtkjpcjccddggoaaGreat
set_option maxRecDepth 20000
open Go.RowKit
set_option maxHeartbeats 400000 in
theorem sizes_any (x y : Int) (w : World) :
    Calls Tryz.prog 96 #[.int .i64 x, .int .i64 y] w fun e w' => e = .returned (.bool (decide (1 ≤ x ∧ x ≤ 4 ∧ 1 ≤ y ∧ y ≤ 4))) ∧ w = w' := by
  by_cases h1 : 1 ≤ x <;> by_cases h2 : x ≤ 4 <;> by_cases h3 : 1 ≤ y <;> by_cases h4 : y ≤ 4
  all_goals first
    | (exfalso; omega)
    | (go_enter Tryz.func96, Tryz.ntmps96
       go_wp2
       go_ret
       simp [*])
set_option maxHeartbeats 400000 in
theorem may_any (x y : Int) (w : World) :
    Calls Tryz.prog 97 #[.agg #[.int .i64 x, .int .i64 y]] w fun e w' => e = .returned (.bool (decide (1 ≤ x ∧ x ≤ 4 ∧ 1 ≤ y ∧ y ≤ 4))) ∧ Below w.heap.size w w' := by
  by_cases h1 : 1 ≤ x <;> by_cases h2 : x ≤ 4 <;> by_cases h3 : 1 ≤ y <;> by_cases h4 : y ≤ 4
  all_goals first
    | (exfalso; omega)
    | (go_enter Tryz.func97, Tryz.ntmps97
       go_wp2
       go_ret
       refine ⟨by simp [*], (Below.refl _ _).alloc (Nat.le_refl _) _⟩)
/-- a canvas as a value: its sizes, and the slice of its tiles -/
abbrev canV (x y : Int) (s : Value) : Value := .agg #[.int .i64 x, .int .i64 y, s]
/-- may there be a canvas of these sizes, and so many tiles? -/
def canOk (x y : Int) (n : Nat) : Bool := decide (1 ≤ x ∧ x ≤ 4 ∧ 1 ≤ y ∧ y ≤ 4 ∧ (n : Int) = x * y)
theorem mul_le (x y : Int) (h1 : 1 ≤ x) (h2 : x ≤ 4) (h3 : 1 ≤ y) (h4 : y ≤ 4) : 1 ≤ x * y ∧ x * y ≤ 16 := by
  have e1 : x = 1 ∨ x = 2 ∨ x = 3 ∨ x = 4 := by omega
  rcases e1 with rfl | rfl | rfl | rfl <;> omega
set_option maxHeartbeats 400000 in
theorem check_no1 (x y : Int) (a : Option Addr) (n c : Nat) (w : World) (h : ¬ (1 ≤ x ∧ x ≤ 4 ∧ 1 ≤ y ∧ y ≤ 4)) :
    Calls Tryz.prog 62 #[canV x y (.slice a n c)] w fun e w' => e = .returned (.int .i64 150) ∧ Below w.heap.size w w' := by
  have H : decide (1 ≤ x ∧ x ≤ 4 ∧ 1 ≤ y ∧ y ≤ 4) = false := by simpa using h
  clear h
  go_enter Tryz.func62, Tryz.ntmps62
  go_wp2_with (go_at_call 97; refine (may_any _ _ _).mono ?_; rintro e w' ⟨rfl, hb⟩)
  go_ret
  refine ⟨rfl, ?_⟩
  repeat (first | assumption | exact Below.refl _ _ | refine below_dN ?_ _ | refine Below.alloc ?_ (by first | exact Nat.le_refl _ | omega | (simp; fail_if_success (focus skip)) | (simp; omega)) _ | refine Below.setCell ?_ (by first | exact Nat.le_refl _ | omega | (simp; fail_if_success (focus skip)) | (simp; omega)) _ | refine Below.drew ?_ | refine Below.trans ?_ (Below.mono (by assumption) (by first | exact Nat.le_refl _ | omega | (simp; fail_if_success (focus skip)) | (simp; omega))))
set_option maxHeartbeats 400000 in
theorem check_no2 (x y : Int) (a : Option Addr) (n c : Nat) (w : World) (h1 : 1 ≤ x) (h2 : x ≤ 4) (h3 : 1 ≤ y) (h4 : y ≤ 4) (h : ¬ (n : Int) = x * y) :
    Calls Tryz.prog 62 #[canV x y (.slice a n c)] w fun e w' => e = .returned (.int .i64 150) ∧ Below w.heap.size w w' := by
  have H : decide (1 ≤ x ∧ x ≤ 4 ∧ 1 ≤ y ∧ y ≤ 4) = true := by simpa using ⟨h1, h2, h3, h4⟩
  have hm := mul_le x y h1 h2 h3 h4
  have hw : IntKind.i64.wrap (x * y) = x * y := IntWalk.i64_in _ (by omega)
  have h' : ((n : Int) != x * y) = true := by simpa using h
  go_enter Tryz.func62, Tryz.ntmps62
  go_wp2_with (go_at_call 97; refine (may_any _ _ _).mono ?_; rintro e w' ⟨rfl, hb⟩; obtain ⟨hc, hf⟩ := bcell hb)
  go_ret
  refine ⟨rfl, ?_⟩
  repeat (first | assumption | exact Below.refl _ _ | refine below_dN ?_ _ | refine Below.alloc ?_ (by first | exact Nat.le_refl _ | omega | (simp; fail_if_success (focus skip)) | (simp; omega)) _ | refine Below.setCell ?_ (by first | exact Nat.le_refl _ | omega | (simp; fail_if_success (focus skip)) | (simp; omega)) _ | refine Below.drew ?_ | refine Below.trans ?_ (Below.mono (by assumption) (by first | exact Nat.le_refl _ | omega | (simp; fail_if_success (focus skip)) | (simp; omega))))
set_option maxHeartbeats 400000 in
theorem check_yes (x y : Int) (a : Option Addr) (n c : Nat) (w : World) (h1 : 1 ≤ x) (h2 : x ≤ 4) (h3 : 1 ≤ y) (h4 : y ≤ 4) (h : (n : Int) = x * y) :
    Calls Tryz.prog 62 #[canV x y (.slice a n c)] w fun e w' => e = .returned (.int .i64 0) ∧ Below w.heap.size w w' := by
  have H : decide (1 ≤ x ∧ x ≤ 4 ∧ 1 ≤ y ∧ y ≤ 4) = true := by simpa using ⟨h1, h2, h3, h4⟩
  have hm := mul_le x y h1 h2 h3 h4
  have hw : IntKind.i64.wrap (x * y) = x * y := IntWalk.i64_in _ (by omega)
  have h' : ((n : Int) != x * y) = false := by simpa using h
  clear h
  go_enter Tryz.func62, Tryz.ntmps62
  go_wp2_with (go_at_call 97; refine (may_any _ _ _).mono ?_; rintro e w' ⟨rfl, hb⟩; obtain ⟨hc, hf⟩ := bcell hb)
  go_ret
  refine ⟨rfl, ?_⟩
  repeat (first | assumption | exact Below.refl _ _ | refine below_dN ?_ _ | refine Below.alloc ?_ (by first | exact Nat.le_refl _ | omega | (simp; fail_if_success (focus skip)) | (simp; omega)) _ | refine Below.setCell ?_ (by first | exact Nat.le_refl _ | omega | (simp; fail_if_success (focus skip)) | (simp; omega)) _ | refine Below.drew ?_ | refine Below.trans ?_ (Below.mono (by assumption) (by first | exact Nat.le_refl _ | omega | (simp; fail_if_success (focus skip)) | (simp; omega))))
end Go.Proofs.YtkjpcjccddggoaaGreat
