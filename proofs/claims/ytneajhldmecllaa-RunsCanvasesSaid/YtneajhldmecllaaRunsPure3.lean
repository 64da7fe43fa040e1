/- Runs: the plain laws of canvases and patches: what is told is read, whatever stands behind; what is read has just its bytes. -/
import Derived.Test.YtneajhldmecllaaRunsPure2
import Derived.Test.YtneajhldmecllaaRunsReadCan
import Derived.Test.YtneajhldmecllaaRunsApp
namespace Go.Proofs.Ytneajhldmecllaa

theorem enc_head (T : List Col) (hT : T.length = 64) : ∃ b l, enc T = b :: l ∧ b ≠ 0 := by
  obtain ⟨_, h2⟩ := rle_chain T (by omega)
  have hs := rle_sum T
  unfold enc encR
  cases hr : rle T with
  | nil => rw [hr] at hs; simp at hs; omega
  | cons x rs =>
    have hx := h2 x (by simp [hr])
    refine ⟨UInt8.ofNat x.1, _, rfl, ?_⟩
    intro h
    have := congrArg UInt8.toNat h
    simp at this
    omega

theorem bodyB_congr (Z Z' : Nat → List Col) (L : List (List Col)) : ∀ k, (∀ j, j < L.length → Z (k + j) = Z' (k + j)) → bodyB Z k L = bodyB Z' k L := by
  induction L with
  | nil => intro k _; rfl
  | cons T L ih =>
    intro k h
    have h0 := h 0 (by simp)
    simp only [Nat.add_zero] at h0
    unfold bodyB
    rw [h0, ih (k + 1) (fun j hj => by have := h (j + 1) (by simpa using hj); rwa [show k + 1 + j = k + (j + 1) from by omega])]

theorem readTs_enc (Zf : List (List Col) → List Col) (more : List UInt8) : ∀ (rest A : List (List Col)), All64 rest →
    readTs Zf rest.length A (bodyB (fun i => Zf ((A ++ rest).take i)) A.length rest ++ more) = some (A ++ rest, (bodyB (fun i => Zf ((A ++ rest).take i)) A.length rest).length)
  | [], A, _ => by simp [readTs, bodyB]
  | T :: rest, A, h => by
    have hT := h T (by simp)
    have ih := readTs_enc Zf more rest (A ++ [T]) (fun U hU => h U (by simp [hU]))
    have e1 : A ++ [T] ++ rest = A ++ T :: rest := by simp
    have e2 : (A ++ [T]).length = A.length + 1 := by simp
    rw [e1, e2] at ih
    have hz : Zf ((A ++ T :: rest).take A.length) = Zf A := by rw [List.take_left' rfl]
    obtain ⟨R, hR⟩ : ∃ R, bodyB (fun i => Zf ((A ++ T :: rest).take i)) (A.length + 1) rest = R := ⟨_, rfl⟩
    rw [hR] at ih
    unfold bodyB
    simp only [hz, hR, List.length_cons]
    unfold stepB
    by_cases he : T = Zf A
    · rw [if_pos he]
      simp only [List.cons_append, List.nil_append]
      unfold readTs
      rw [if_pos rfl, ← he, ih]
      simp
    · rw [if_neg he]
      obtain ⟨b, l, hb, hb0⟩ := enc_head T hT
      have hrd := read_enc T hT (R ++ more)
      unfold readTile at hrd
      rw [List.append_assoc]
      have hdrop : (enc T ++ (R ++ more)).drop (enc T).length = R ++ more := List.drop_left' rfl
      rw [hb] at hrd hdrop ⊢
      simp only [List.cons_append] at hrd hdrop ⊢
      unfold readTs
      rw [if_neg hb0, hrd]
      simp only
      rw [if_neg he, hdrop, ih]
      simp
      omega

theorem readTs_own (Zf : List (List Col) → List Col) (hZ : ∀ A, All64 A → (Zf A).length = 64) : ∀ (m : Nat) (A : List (List Col)) (l : List UInt8) (A' : List (List Col)) (n : Nat), All64 A → readTs Zf m A l = some (A', n) →
    ∃ rest, A' = A ++ rest ∧ rest.length = m ∧ All64 rest ∧ n ≤ l.length ∧ bodyB (fun i => Zf (A'.take i)) A.length rest = l.take n
  | 0, A, l, A', n, _, h => by
    simp [readTs] at h
    obtain ⟨rfl, rfl⟩ := h
    exact ⟨[], by simp, rfl, by simp [All64], by omega, by simp [bodyB]⟩
  | m + 1, A, [], A', n, _, h => by simp [readTs] at h
  | m + 1, A, b :: l, A', n, hA, h => by
    unfold readTs at h
    by_cases hb : b = 0
    · rw [if_pos hb] at h
      obtain ⟨⟨B, k⟩, h1, h2⟩ := Option.map_eq_some_iff.1 h
      simp only [Prod.mk.injEq] at h2
      obtain ⟨rfl, rfl⟩ := h2
      have hz := hZ A hA
      obtain ⟨rest, rfl, h4, h5, h6, h7⟩ := readTs_own Zf hZ m (A ++ [Zf A]) l B k (by intro T hT; rcases List.mem_append.1 hT with h | h; exact hA T h; rw [List.mem_singleton.1 h]; exact hz) h1
      refine ⟨Zf A :: rest, by simp, by simp [h4], by intro T hT; rcases List.mem_cons.1 hT with h | h; rw [h]; exact hz; exact h5 T h, by simp; omega, ?_⟩
      have e : (A ++ [Zf A]).length = A.length + 1 := by simp
      rw [e] at h7
      unfold bodyB
      rw [h7]
      have hz2 : Zf ((A ++ [Zf A] ++ rest).take A.length) = Zf A := by rw [List.append_assoc, List.take_left' rfl]
      simp only [hz2]
      unfold stepB
      rw [if_pos rfl, hb]
      simp
    · rw [if_neg hb] at h
      cases hr : readT [] (b :: l) with
      | none => rw [hr] at h; cases h
      | some p =>
        obtain ⟨T, k⟩ := p
        rw [hr] at h
        simp only at h
        split at h
        · cases h
        · rename_i hT
          obtain ⟨⟨B, k'⟩, h1, h2⟩ := Option.map_eq_some_iff.1 h
          simp only [Prod.mk.injEq] at h2
          obtain ⟨rfl, rfl⟩ := h2
          have hT64 := readT_len _ _ _ _ hr
          obtain ⟨g1, g2, g3⟩ := read_own (b :: l) T k hr
          obtain ⟨rest, rfl, h4, h5, h6, h7⟩ := readTs_own Zf hZ m (A ++ [T]) _ B k' (by intro U hU; rcases List.mem_append.1 hU with h | h; exact hA U h; rw [List.mem_singleton.1 h]; exact hT64) h1
          rw [List.length_drop] at h6
          refine ⟨T :: rest, by simp, by simp [h4], by intro U hU; rcases List.mem_cons.1 hU with h | h; rw [h]; exact hT64; exact h5 U h, by omega, ?_⟩
          have e : (A ++ [T]).length = A.length + 1 := by simp
          rw [e] at h7
          unfold bodyB
          rw [h7]
          have hz2 : Zf ((A ++ [T] ++ rest).take A.length) = Zf A := by rw [List.append_assoc, List.take_left' rfl]
          simp only [hz2]
          unfold stepB
          rw [if_neg hT, ← g3, Nat.add_comm k' k, List.take_add]

theorem ahead_take (L : List (List Col)) : bodyB (aheadZ L) 0 L = bodyB (fun i => aheadF (L.take i)) 0 L := by
  apply bodyB_congr
  intro j hj
  simp only [Nat.zero_add]
  unfold aheadF aheadZ
  rw [List.length_take, Nat.min_eq_left (by omega)]
  split
  · rfl
  · rw [List.getD_eq_getElem?_getD, List.getD_eq_getElem?_getD, List.getElem?_take, if_pos (by omega)]
theorem old_take (O L : List (List Col)) : bodyB (oldZ O) 0 L = bodyB (fun i => oldF O (L.take i)) 0 L := by
  apply bodyB_congr
  intro j hj
  simp only [Nat.zero_add]
  unfold oldF
  rw [List.length_take, Nat.min_eq_left (by omega)]

theorem canOk_nat {x y : Int} {n : Nat} (h : canOk x y n = true) : ∃ a b : Nat, x = a ∧ y = b ∧ 1 ≤ a ∧ a ≤ 4 ∧ 1 ≤ b ∧ b ≤ 4 ∧ n = a * b := by
  unfold canOk at h
  simp at h
  refine ⟨x.toNat, y.toNat, by omega, by omega, by omega, by omega, by omega, by omega, ?_⟩
  have hx : (x.toNat : Int) = x := by omega
  have hy : (y.toNat : Int) = y := by omega
  have : ((x.toNat * y.toNat : Nat) : Int) = x * y := by rw [Int.natCast_mul, hx, hy]
  omega

theorem readcan_enc (a b : Nat) (L : List (List Col)) (ha : 1 ≤ a ∧ a ≤ 4) (hb : 1 ≤ b ∧ b ≤ 4) (hl : L.length = a * b) (hL : All64 L) (more : List UInt8) :
    readCan (canvasB a b L ++ more) = some (a, b, L, (canvasB a b L).length) := by
  have h := readTs_enc aheadF more L [] hL
  simp only [List.nil_append, List.length_nil] at h
  have ea : (UInt8.ofNat a).toNat = a := by simp; omega
  have eb : (UInt8.ofNat b).toNat = b := by simp; omega
  unfold canvasB headB
  rw [ahead_take]
  simp only [List.cons_append, List.nil_append]
  rw [readCan_cons, ea, eb, if_pos ⟨ha.1, ha.2, hb.1, hb.2⟩, ← hl, h]
  simp

theorem readcan_own (l : List UInt8) (a b : Nat) (L : List (List Col)) (n : Nat) (h : readCan l = some (a, b, L, n)) :
    (1 ≤ a ∧ a ≤ 4) ∧ (1 ≤ b ∧ b ≤ 4) ∧ L.length = a * b ∧ All64 L ∧ n ≤ l.length ∧ 2 ≤ n ∧ canvasB a b L = l.take n := by
  match l, h with
  | [], h => simp [readCan] at h
  | [_], h => simp [readCan] at h
  | p :: q :: rest, h =>
    rw [readCan_cons] at h
    split at h
    · rename_i hh
      obtain ⟨⟨B, k⟩, h1, h2⟩ := Option.map_eq_some_iff.1 h
      simp only [Prod.mk.injEq] at h2
      obtain ⟨rfl, rfl, rfl, rfl⟩ := h2
      obtain ⟨rest', e, h4, h5, h6, h7⟩ := readTs_own aheadF (fun A hA => aheadF_len A hA) _ [] _ _ _ (by simp [All64]) h1
      simp only [List.nil_append] at e
      subst e
      refine ⟨⟨hh.1, hh.2.1⟩, ⟨hh.2.2.1, hh.2.2.2⟩, h4, h5, by simp; omega, by omega, ?_⟩
      unfold canvasB headB
      rw [ahead_take]
      simp only [List.length_nil] at h7
      rw [h7]
      simp
    · cases h

theorem readapp_enc (a b : Nat) (O L : List (List Col)) (ha : a ≤ 4) (hb : b ≤ 4) (hl : L.length = a * b) (hL : All64 L) (more : List UInt8) :
    readApp a b O (patchB a b O L ++ more) = some (a, b, L, (patchB a b O L).length) := by
  have h := readTs_enc (oldF O) more L [] hL
  simp only [List.nil_append, List.length_nil] at h
  have ea : (UInt8.ofNat a).toNat = a := by simp; omega
  have eb : (UInt8.ofNat b).toNat = b := by simp; omega
  unfold patchB headB
  rw [old_take]
  simp only [List.cons_append, List.nil_append]
  rw [readApp_cons, ea, eb, if_pos ⟨rfl, rfl⟩, ← hl, h]
  simp

/-- a patch from a canvas to itself is a byte for each tile -/
theorem body_self (Z : Nat → List Col) (L : List (List Col)) : ∀ k, (∀ j (hj : j < L.length), Z (k + j) = L[j]) → bodyB Z k L = List.replicate L.length 0 := by
  induction L with
  | nil => intro k _; rfl
  | cons T L ih =>
    intro k h
    have h0 := h 0 (by simp)
    simp at h0
    unfold bodyB
    rw [h0, ih (k + 1) (fun j hj => by have := h (j + 1) (by simpa using hj); rw [show k + 1 + j = k + (j + 1) from by omega]; simpa using this)]
    simp [stepB, List.replicate_succ]
theorem patch_self_len (a b : Nat) (L : List (List Col)) : (patchB a b L L).length = 2 + L.length := by
  unfold patchB headB
  rw [body_self (oldZ L) L 0 (fun j hj => by unfold oldZ; rw [Nat.zero_add, List.getD_eq_getElem?_getD, List.getElem?_eq_getElem hj]; rfl)]
  simp
  omega

/-- less bytes than a tile's are no tile's -/
theorem read_short (T : List Col) (hT : T.length = 64) (k : Nat) (hk : k < (enc T).length) : readTile ((enc T).take k) = none := by
  cases hr : readTile ((enc T).take k) with
  | none => rfl
  | some p =>
    obtain ⟨U, n⟩ := p
    obtain ⟨h1, h2, h3⟩ := read_own _ _ _ hr
    have hU := readT_len _ _ _ _ hr
    have hp : enc U <+: enc T := by rw [← h3]; exact (List.take_prefix _ _).trans (List.take_prefix _ _)
    have := enc_prefix T U hT hU hp
    subst this
    simp at h2
    omega
theorem readcan_short (a b : Nat) (L : List (List Col)) (ha : 1 ≤ a ∧ a ≤ 4) (hb : 1 ≤ b ∧ b ≤ 4) (hl : L.length = a * b) (hL : All64 L) (k : Nat) (hk : k < (canvasB a b L).length) : readCan ((canvasB a b L).take k) = none := by
  cases hr : readCan ((canvasB a b L).take k) with
  | none => rfl
  | some p =>
    obtain ⟨a', b', M, n⟩ := p
    obtain ⟨h1, h2, h3, h4, h5, h6, h7⟩ := readcan_own _ _ _ _ _ hr
    obtain ⟨more, hm⟩ : canvasB a' b' M <+: canvasB a b L := by rw [h7]; exact (List.take_prefix _ _).trans (List.take_prefix _ _)
    have r1 := readcan_enc a' b' M h1 h2 h3 h4 more
    have r2 := readcan_enc a b L ha hb hl hL []
    rw [List.append_nil, ← hm, r1] at r2
    simp only [Option.some.injEq, Prod.mk.injEq] at r2
    have h8 : (canvasB a' b' M).length ≤ k := by rw [h7]; simp; omega
    rw [hm] at r2
    omega

end Go.Proofs.Ytneajhldmecllaa
