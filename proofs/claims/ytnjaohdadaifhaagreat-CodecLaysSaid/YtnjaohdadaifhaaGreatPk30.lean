/- Walks by data and names, part 30: Layer 19, plain: what is read is what was laid. Layer 11, by V: ids that may be, and which stands ahead. -/
import Derived.Test.YtnjaohdadaifhaaGreatPk29
import Derived.Test.YtnjaohdadaifhaaGreatPk14
namespace Go.Proofs.YtnjaohdadaifhaaGreat
set_option maxRecDepth 20000
open Go.RowKit
theorem lay1 (n : Nat) : layN 1 n = [UInt8.ofNat (n % 256)] := by simp [layN]
theorem lay2 (n : Nat) : layN 2 n = [UInt8.ofNat (n / 256 % 256), UInt8.ofNat (n % 256)] := by simp [layN]
theorem lay1_u (x : UInt8) : layN 1 x.toNat = [x] := by
  have := x.toNat_lt
  rw [lay1, Nat.mod_eq_of_lt this]; simp
theorem lay2_u (x y : UInt8) : layN 2 (256 * x.toNat + y.toNat) = [x, y] := by
  have h1 := x.toNat_lt
  have h2 := y.toNat_lt
  rw [lay2, show (256 * x.toNat + y.toNat) / 256 % 256 = x.toNat by omega, show (256 * x.toNat + y.toNat) % 256 = y.toNat by omega]; simp
theorem u8_z (n : Int) (h0 : 0 ≤ n) (h1 : n < 256) : ((UInt8.ofNat (n.toNat % 256)).toNat : Int) = n := by
  rw [u8_of _ (by omega)]; omega
theorem rdId_by {i : Idd} (h : idB i = true) (r : List UInt8) : rdId (idBy i ++ r) = some (i, r) := by
  have hi := idB_in h
  have l1 := layN_len 8 i.t
  have l2 := layN_len 1 i.s.toNat
  have l3 := layN_len 8 i.q
  have n1 := numN_layN 8 i.t (by omega)
  have n2 := numN_layN 1 i.s.toNat (by omega)
  have n3 := numN_layN 8 i.q (by omega)
  unfold idBy
  generalize layN 8 i.t = A at *
  generalize layN 1 i.s.toNat = B at *
  generalize layN 8 i.q = C at *
  rw [rdId, if_pos (by simp; omega)]
  have e1 : (A ++ B ++ C ++ r).take 8 = A := by rw [List.append_assoc, List.append_assoc, List.take_append_of_le_length (by omega), List.take_of_length_le (by omega)]
  have e2 : ((A ++ B ++ C ++ r).drop 8).take 1 = B := by
    rw [List.append_assoc, List.append_assoc, List.drop_append_of_le_length (by omega), List.drop_of_length_le (by omega), List.nil_append, List.take_append_of_le_length (by omega), List.take_of_length_le (by omega)]
  have e3 : ((A ++ B ++ C ++ r).drop 9).take 8 = C := by
    rw [List.append_assoc, List.drop_append_of_le_length (by simp; omega), List.drop_of_length_le (by simp; omega), List.nil_append, List.take_append_of_le_length (by omega), List.take_of_length_le (by omega)]
  have e4 : (A ++ B ++ C ++ r).drop 17 = r := by rw [List.drop_append_of_le_length (by simp; omega), List.drop_of_length_le (by simp; omega), List.nil_append]
  rw [e1, e2, e3, e4, n1, n2, n3]
  obtain ⟨t, s, q⟩ := i
  simp only [Option.some.injEq, Prod.mk.injEq, Idd.mk.injEq, and_true, true_and]
  simp only at hi; omega
theorem rdAt_by {x y : Int} (hx : atB x = true) (hy : atB y = true) (r : List UInt8) : rdAt (at1 x ++ at1 y ++ r) = some ((x, y), r) := by
  simp only [atB, Bool.and_eq_true, decide_eq_true_eq] at hx hy
  simp only [at1, lay1, List.cons_append, List.nil_append, rdAt]
  rw [u8_z _ (by omega) (by omega), u8_z _ (by omega) (by omega)]
  simp; omega
theorem rdSz_by {n : Int} (h0 : 0 ≤ n) (h1 : n ≤ 1020) (r : List UInt8) : rdSz (layN 2 n.toNat ++ r) = some (n.toNat, r) := by
  simp only [lay2, List.cons_append, List.nil_append, rdSz]
  rw [u8_of _ (by omega), u8_of _ (by omega)]
  simp; omega
theorem rdCol_by (c : Col) (r : List UInt8) : rdCol (c4 c ++ r) = some (c, r) := rfl
theorem rdSide_by {n : Int} (h : sideB n = true) (r : List UInt8) : rdSide (layN 1 n.toNat ++ r) = .ok (n.toNat, r) := by
  simp only [sideB, Bool.and_eq_true, decide_eq_true_eq] at h
  simp only [lay1, List.cons_append, List.nil_append, rdSide]
  rw [u8_of _ (by omega), if_pos (by omega), show n.toNat % 256 = n.toNat by omega]
theorem rdPx_by : ∀ (l : List Col) (r : List UInt8), rdPx l.length (pxBy l ++ r) = some (l, r)
  | [], r => rfl
  | c :: l, r => by
    simp only [pxBy, List.flatMap_cons, List.length_cons, rdPx, List.append_assoc]
    rw [rdCol_by c]
    simp only
    rw [show rdPx l.length (List.flatMap c4 l ++ r) = some (l, r) from rdPx_by l r]
    rfl
theorem opB_in {o : Opp} (h : opB o = true) : idB o.id = true ∧ (1 ≤ o.k ∧ o.k ≤ 8) ∧ plainO o = o ∧ (atB o.x = true ∧ atB o.y = true ∧ atB o.x2 = true ∧ atB o.y2 = true) ∧ (0 ≤ o.z ∧ o.z ≤ (if o.k = 5 then 1020 else 15)) ∧ (o.k = 6 → stB o = true) ∧ (7 ≤ o.k → idB o.tg = true ∧ idLt o.tg o.id = true) := by
  simp only [opB, Bool.and_eq_true, Bool.or_eq_true, decide_eq_true_eq] at h
  obtain ⟨⟨⟨⟨⟨⟨⟨⟨⟨⟨⟨h1, h2⟩, h3⟩, h4⟩, h5⟩, h6⟩, h7⟩, h8⟩, h9⟩, ha⟩, hb⟩, hc⟩ := h
  refine ⟨h1, ⟨h2, h3⟩, h4, ⟨h5, h6, h7, h8⟩, ⟨h9, ha⟩, fun h => hb.resolve_left (fun hn => hn h), fun h => hc.resolve_left (by omega)⟩
theorem opB_z {o : Opp} (h : opB o = true) : 0 ≤ o.z ∧ o.z ≤ 1020 := by
  have h := (opB_in h).2.2.2.2.1
  split at h <;> omega
theorem st_in {o : Opp} (h : stB o = true) : sideB o.w = true ∧ sideB o.h = true ∧ o.px.length = o.w.toNat * o.h.toNat := by
  simp only [stB, Bool.and_eq_true, decide_eq_true_eq] at h
  obtain ⟨⟨h1, h2⟩, h3⟩ := h
  refine ⟨h1, h2, ?_⟩
  simp only [sideB, Bool.and_eq_true, decide_eq_true_eq] at h1 h2
  have : ((o.w.toNat * o.h.toNat : Nat) : Int) = o.w * o.h := by rw [Int.natCast_mul, Int.toNat_of_nonneg (by omega), Int.toNat_of_nonneg (by omega)]
  omega
theorem rdTail_by {o : Opp} (h : opB o = true) (r : List UInt8) : rdTail { Opp.zero with id := o.id, k := o.k } (tailBy o ++ r) = .ok (o, r) := by
  obtain ⟨h1, h2, h3, ⟨h4, h5, h6, h7⟩, h8, h9, ha⟩ := opB_in h
  have hz := opB_z h
  have e1 : ∀ r, rdAt (at1 o.x ++ (at1 o.y ++ r)) = some ((o.x, o.y), r) := fun r => by rw [← List.append_assoc]; exact rdAt_by h4 h5 r
  have e2 : ∀ r, rdAt (at1 o.x2 ++ (at1 o.y2 ++ r)) = some ((o.x2, o.y2), r) := fun r => by rw [← List.append_assoc]; exact rdAt_by h6 h7 r
  have e3 : ∀ r, rdSz (layN 2 o.z.toNat ++ r) = some (o.z.toNat, r) := fun r => rdSz_by hz.1 hz.2 r
  have e4 : ∀ r, rdCol (o.c.r :: o.c.g :: o.c.b :: o.c.a :: r) = some (o.c, r) := fun r => rfl
  have e5 : o.k = 6 → ∀ r, rdSt (layN 1 o.w.toNat ++ (layN 1 o.h.toNat ++ (pxBy o.px ++ r))) = .ok ((o.w.toNat, o.h.toNat, o.px), r) := fun h r => by
    obtain ⟨s1, s2, s3⟩ := st_in (h9 h)
    rw [rdSt, rdSide_by s1]; simp only
    rw [rdSide_by s2]; simp only
    rw [← s3, rdPx_by]
  have e6 : 7 ≤ o.k → ∀ r, rdId (idBy o.tg ++ r) = some (o.tg, r) := fun h r => rdId_by (ha h).1 r
  have hs : o.k = 6 → ((o.w.toNat : Nat) : Int) = o.w ∧ ((o.h.toNat : Nat) : Int) = o.h := fun h => by
    obtain ⟨s1, s2, _⟩ := st_in (h9 h)
    simp only [sideB, Bool.and_eq_true, decide_eq_true_eq] at s1 s2
    omega
  have hzn : ((o.z.toNat : Nat) : Int) = o.z := by omega
  simp only [tailBy, frBy, toBy, szBy, rdTail]
  obtain ⟨i, k, x, y, x2, y2, z, c, w, hh, px, tg⟩ := o
  simp only at h2 e1 e2 e3 e4 e5 e6 hs hzn
  clear h4 h5 h6 h7 h8 h9 ha hz h h1
  have hk : k = 1 ∨ k = 2 ∨ k = 3 ∨ k = 4 ∨ k = 5 ∨ k = 6 ∨ k = 7 ∨ k = 8 := by omega
  rcases hk with rfl | rfl | rfl | rfl | rfl | rfl | rfl | rfl
  all_goals simp [plainO] at h3
  all_goals simp [c4, List.append_assoc, e1, e2, e3, e4, e5, e6, hzn, Opp.zero]
  all_goals (simp_all; omega)
theorem rdOp_by {o : Opp} (h : opB o = true) (r : List UInt8) : rdOp (opBy o ++ r) = .ok (o, r) := by
  obtain ⟨h1, h2, _⟩ := opB_in h
  have hk : ((UInt8.ofNat (o.k.toNat % 256)).toNat : Int) = o.k := u8_z _ (by omega) (by omega)
  rw [opBy, lay1, List.append_assoc, List.append_assoc, List.cons_append, List.nil_append, rdOp, if_pos (by omega), rdId_by h1]
  simp only
  rw [hk, rdTail_by h]
  simp [h]
theorem rdOps_by : ∀ (l : List Opp), (∀ o ∈ l, opB o = true) → ∀ r, rdOps l.length (l.flatMap opBy ++ r) = .ok (l, r)
  | [], _, r => rfl
  | o :: l, h, r => by
    rw [List.length_cons, rdOps, List.flatMap_cons, List.append_assoc, rdOp_by (h o (by simp))]
    simp only
    rw [rdOps_by l (fun p hp => h p (by simp [hp]))]
theorem rdRow_by {l : List Opp} (h : ∀ o ∈ l, opB o = true) (hl : l.length ≤ 64) (r : List UInt8) : rdRow (opsBy l ++ r) = .ok (l, r) := by
  rw [opsBy, lay1, List.append_assoc, List.cons_append, List.nil_append, rdRow, u8_of _ (by omega), if_pos (by omega), show l.length % 256 = l.length by omega, rdOps_by l h]
theorem by_id {b t : List UInt8} {i : Idd} (h : rdId b = some (i, t)) (hi : idB i = true) : idBy i ++ t = b := by
  simp only [rdId] at h
  split at h
  · rename_i hl
    simp only [Option.some.injEq, Prod.mk.injEq] at h
    obtain ⟨rfl, rfl⟩ := h
    simp only [idBy, Int.toNat_natCast]
    have e1 : layN 8 (numN (b.take 8)) = b.take 8 := by have := layN_numN (b.take 8); rwa [List.length_take, show min 8 b.length = 8 by omega] at this
    have e2 : layN 1 (numN ((b.drop 8).take 1)) = (b.drop 8).take 1 := by have := layN_numN ((b.drop 8).take 1); rwa [List.length_take, List.length_drop, show min 1 (b.length - 8) = 1 by omega] at this
    have e3 : layN 8 (numN ((b.drop 9).take 8)) = (b.drop 9).take 8 := by have := layN_numN ((b.drop 9).take 8); rwa [List.length_take, List.length_drop, show min 8 (b.length - 9) = 8 by omega] at this
    rw [e1, e2, e3]
    conv => rhs; rw [← List.take_append_drop 8 b, ← List.take_append_drop 1 (b.drop 8), List.drop_drop, ← List.take_append_drop 8 (b.drop 9), List.drop_drop]
    simp only [List.append_assoc]
  · cases h
theorem by_at {b t : List UInt8} {x y : Int} (h : rdAt b = some ((x, y), t)) : at1 x ++ at1 y ++ t = b ∧ -64 ≤ x ∧ -64 ≤ y := by
  match b, h with
  | u :: v :: r, h =>
    simp only [rdAt, Option.some.injEq, Prod.mk.injEq] at h
    obtain ⟨⟨rfl, rfl⟩, rfl⟩ := h
    refine ⟨?_, by omega, by omega⟩
    simp only [at1]
    rw [show ((u.toNat : Int) + -64 + 64).toNat = u.toNat by omega, show ((v.toNat : Int) + -64 + 64).toNat = v.toNat by omega, lay1_u, lay1_u]; rfl
theorem by_sz {b t : List UInt8} {n : Nat} (h : rdSz b = some (n, t)) : layN 2 n ++ t = b := by
  match b, h with
  | u :: v :: r, h =>
    simp only [rdSz, Option.some.injEq, Prod.mk.injEq] at h
    obtain ⟨rfl, rfl⟩ := h
    rw [lay2_u]; rfl
theorem by_col {b t : List UInt8} {c : Col} (h : rdCol b = some (c, t)) : c4 c ++ t = b := by
  match b, h with
  | r :: g :: l :: a :: k, h =>
    simp only [rdCol, Option.some.injEq, Prod.mk.injEq] at h
    obtain ⟨rfl, rfl⟩ := h
    rfl
theorem by_side {b t : List UInt8} {n : Nat} (h : rdSide b = .ok (n, t)) : layN 1 n ++ t = b ∧ 1 ≤ n ∧ n ≤ 8 := by
  match b, h with
  | u :: r, h =>
    simp only [rdSide] at h
    split at h
    · simp only [Except.ok.injEq, Prod.mk.injEq] at h
      obtain ⟨rfl, rfl⟩ := h
      rw [lay1_u]; exact ⟨rfl, by omega⟩
    · cases h
theorem by_px : ∀ (n : Nat) {b t : List UInt8} {l : List Col}, rdPx n b = some (l, t) → pxBy l ++ t = b ∧ l.length = n
  | 0, b, t, l, h => by
    simp only [rdPx, Option.some.injEq, Prod.mk.injEq] at h
    obtain ⟨rfl, rfl⟩ := h
    exact ⟨rfl, rfl⟩
  | n + 1, b, t, l, h => by
    simp only [rdPx] at h
    split at h
    · cases h
    · rename_i c b' hc
      obtain ⟨z, hz, e⟩ := Option.map_eq_some_iff.1 h
      obtain ⟨l', t'⟩ := z
      simp only [Prod.mk.injEq] at e
      obtain ⟨rfl, rfl⟩ := e
      obtain ⟨h1, h2⟩ := by_px n hz
      refine ⟨?_, by simp [h2]⟩
      rw [← by_col hc, ← h1]; rfl
theorem by_st {b t : List UInt8} {w h : Nat} {l : List Col} (he : rdSt b = .ok ((w, h, l), t)) : layN 1 w ++ layN 1 h ++ pxBy l ++ t = b := by
  simp only [rdSt] at he
  split at he
  · cases he
  · rename_i w' b1 h1
    split at he
    · cases he
    · rename_i h' b2 h2
      split at he
      · cases he
      · rename_i l' b3 h3
        simp only [Except.ok.injEq, Prod.mk.injEq] at he
        obtain ⟨⟨rfl, rfl, rfl⟩, rfl⟩ := he
        rw [← (by_side h1).1, ← (by_side h2).1, ← (by_px _ h3).1]
        simp only [List.append_assoc]
theorem by_tail {i : Idd} {k : Int} {b t : List UInt8} {o : Opp} (hk : 1 ≤ k ∧ k ≤ 8) (h : rdTail { Opp.zero with id := i, k := k } b = .ok (o, t)) (ho : opB o = true) : o.id = i ∧ o.k = k ∧ tailBy o ++ t = b := by
  obtain ⟨_, _, _, _, _, _, ha⟩ := opB_in ho
  simp only [rdTail] at h
  split at h
  · rename_i h6
    split at h
    · cases h
    · rename_i x y b1 e1
      have f1 := (by_at e1).1
      split at h
      · rename_i h4
        split at h
        · cases h
        · rename_i x2 y2 b2 e2
          have f2 := (by_at e2).1
          split at h
          · rename_i h2
            split at h
            · cases h
            · rename_i z b3 e3
              have f3 := by_sz e3
              split at h
              · cases h
              · rename_i c b4 e4
                have f4 := by_col e4
                simp only [Except.ok.injEq, Prod.mk.injEq] at h
                obtain ⟨rfl, rfl⟩ := h
                refine ⟨rfl, rfl, ?_⟩
                simp only [tailBy]
                rw [if_pos (by omega), ← f1, ← f2, ← f3, ← f4]
                simp only [frBy, toBy, szBy, Int.toNat_natCast, List.append_assoc]
          · rename_i h2
            split at h
            · cases h
            · rename_i c b4 e4
              have f4 := by_col e4
              simp only [Except.ok.injEq, Prod.mk.injEq] at h
              obtain ⟨rfl, rfl⟩ := h
              refine ⟨rfl, rfl, ?_⟩
              simp only [tailBy]
              rw [if_neg (by omega), if_pos (by omega), ← f1, ← f2, ← f4]
              simp only [frBy, toBy, List.append_assoc]
      · rename_i h4
        split at h
        · rename_i h5
          split at h
          · cases h
          · rename_i z b3 e3
            have f3 := by_sz e3
            split at h
            · cases h
            · rename_i c b4 e4
              have f4 := by_col e4
              simp only [Except.ok.injEq, Prod.mk.injEq] at h
              obtain ⟨rfl, rfl⟩ := h
              refine ⟨rfl, rfl, ?_⟩
              simp only [tailBy]
              rw [if_neg (by omega), if_neg (by omega), if_pos (by omega), ← f1, ← f3, ← f4]
              simp only [frBy, szBy, Int.toNat_natCast, List.append_assoc]
        · rename_i h5
          split at h
          · cases h
          · rename_i w hh l b3 e3
            have f3 := by_st e3
            simp only [Except.ok.injEq, Prod.mk.injEq] at h
            obtain ⟨rfl, rfl⟩ := h
            refine ⟨rfl, rfl, ?_⟩
            simp only [tailBy]
            rw [if_neg (by omega), if_neg (by omega), if_neg (by omega), if_pos (by omega), ← f1, ← f3]
            simp only [frBy, Int.toNat_natCast, List.append_assoc]
  · rename_i h6
    split at h
    · cases h
    · rename_i j b1 e1
      simp only [Except.ok.injEq, Prod.mk.injEq] at h
      obtain ⟨rfl, rfl⟩ := h
      refine ⟨rfl, rfl, ?_⟩
      have f1 := by_id e1 (ha (by simp only; omega)).1
      simp only [tailBy]
      rw [if_neg (by omega), if_neg (by omega), if_neg (by omega), if_neg (by omega), f1]
theorem by_op {b t : List UInt8} {o : Opp} (h : rdOp b = .ok (o, t)) : opB o = true ∧ opBy o ++ t = b := by
  match b, h with
  | k :: b, h =>
    simp only [rdOp] at h
    split at h
    · rename_i hk
      split at h
      · cases h
      · rename_i i b1 e1
        split at h
        · cases h
        · rename_i o' b2 e2
          split at h
          · rename_i ho
            simp only [Except.ok.injEq, Prod.mk.injEq] at h
            obtain ⟨rfl, rfl⟩ := h
            obtain ⟨g1, g2, g3⟩ := by_tail (by omega) e2 ho
            have hi := (opB_in ho).1
            rw [g1] at hi
            have f1 := by_id e1 hi
            refine ⟨ho, ?_⟩
            rw [opBy, g1, g2, Int.toNat_natCast, lay1_u, ← f1, ← g3]
            simp
          · cases h
    · cases h
theorem by_ops : ∀ (n : Nat) {b t : List UInt8} {l : List Opp}, rdOps n b = .ok (l, t) → (∀ o ∈ l, opB o = true) ∧ l.length = n ∧ l.flatMap opBy ++ t = b
  | 0, b, t, l, h => by
    simp only [rdOps, Except.ok.injEq, Prod.mk.injEq] at h
    obtain ⟨rfl, rfl⟩ := h
    exact ⟨by simp, rfl, rfl⟩
  | n + 1, b, t, l, h => by
    simp only [rdOps] at h
    split at h
    · cases h
    · rename_i o b1 e1
      split at h
      · cases h
      · rename_i l' b2 e2
        simp only [Except.ok.injEq, Prod.mk.injEq] at h
        obtain ⟨rfl, rfl⟩ := h
        obtain ⟨h1, h2⟩ := by_op e1
        obtain ⟨h3, h4, h5⟩ := by_ops n e2
        refine ⟨?_, by simp [h4], ?_⟩
        · intro p hp
          rcases List.mem_cons.1 hp with rfl | hp
          · exact h1
          · exact h3 p hp
        · rw [List.flatMap_cons, List.append_assoc, h5, h2]
theorem by_row {b t : List UInt8} {l : List Opp} (h : rdRow b = .ok (l, t)) : (∀ o ∈ l, opB o = true) ∧ l.length ≤ 64 ∧ opsBy l ++ t = b := by
  match b, h with
  | n :: b, h =>
    simp only [rdRow] at h
    split at h
    · rename_i hn
      obtain ⟨h1, h2, h3⟩ := by_ops _ h
      refine ⟨h1, by omega, ?_⟩
      rw [opsBy, h2, lay1_u, ← h3]; simp
    · cases h
theorem rdPx_short : ∀ (n : Nat) {b : List UInt8}, b.length < 4 * n → rdPx n b = none
  | 0, b, h => by omega
  | n + 1, b, h => by
    simp only [rdPx]
    match b, h with
    | r :: g :: l :: a :: t, h =>
      simp only [rdCol]
      rw [rdPx_short n (by simp at h; omega)]; rfl
    | [], _ => rfl
    | [_], _ => rfl
    | [_, _], _ => rfl
    | [_, _, _], _ => rfl
theorem pxBy_len : ∀ (l : List Col), (pxBy l).length = 4 * l.length
  | [] => rfl
  | c :: l => by
    have := pxBy_len l
    simp only [pxBy] at this
    simp [pxBy, this]; omega
theorem rdTail_short {o : Opp} (h : opB o = true) {n : Nat} (hn : n < (tailBy o).length) : rdTail { Opp.zero with id := o.id, k := o.k } ((tailBy o).take n) = .error 110 := by
  obtain ⟨h1, h2, h3, ⟨h4, h5, h6, h7⟩, h8, h9, ha⟩ := opB_in h
  have hs : o.k = 6 → (∀ r, rdSide (layN 1 o.w.toNat ++ r) = .ok (o.w.toNat, r)) ∧ (∀ r, rdSide (layN 1 o.h.toNat ++ r) = .ok (o.h.toNat, r)) ∧ o.px.length = o.w.toNat * o.h.toNat := fun h => by
    obtain ⟨s1, s2, s3⟩ := st_in (h9 h)
    exact ⟨fun r => rdSide_by s1 r, fun r => rdSide_by s2 r, s3⟩
  simp only [tailBy, frBy, toBy, szBy, rdTail] at hn ⊢
  obtain ⟨i, k, x, y, x2, y2, z, c, w, hh, px, tg⟩ := o
  simp only at hn h2 hs
  clear h4 h5 h6 h7 h8 h9 ha h h1 h3
  have hk : k = 1 ∨ k = 2 ∨ k = 3 ∨ k = 4 ∨ k = 5 ∨ k = 6 ∨ k = 7 ∨ k = 8 := by omega
  rcases hk with rfl | rfl | rfl | rfl | rfl | rfl | rfl | rfl
  all_goals simp at hs
  all_goals simp [lay1, lay2, c4] at hn
  all_goals simp [lay1, lay2, c4]
  · match n, hn with
    | 0, _ | 1, _ | 2, _ | 3, _ | 4, _ | 5, _ | 6, _ | 7, _ | 8, _ | 9, _ => rfl
  · match n, hn with
    | 0, _ | 1, _ | 2, _ | 3, _ | 4, _ | 5, _ | 6, _ | 7, _ | 8, _ | 9, _ => rfl
  · match n, hn with
    | 0, _ | 1, _ | 2, _ | 3, _ | 4, _ | 5, _ | 6, _ | 7, _ => rfl
  · match n, hn with
    | 0, _ | 1, _ | 2, _ | 3, _ | 4, _ | 5, _ | 6, _ | 7, _ => rfl
  · match n, hn with
    | 0, _ | 1, _ | 2, _ | 3, _ | 4, _ | 5, _ | 6, _ | 7, _ => rfl
  · obtain ⟨s1, s2, s3⟩ := hs
    rw [pxBy_len] at hn
    have s1 := s1
    simp only [lay1, List.cons_append, List.nil_append] at s1 s2
    match n, hn with
    | 0, _ | 1, _ => rfl
    | 2, _ => rfl
    | 3, _ => simp only [List.take_succ_cons, List.take_zero, rdAt, rdSt]; rw [s1]; rfl
    | n + 4, hn =>
      simp only [List.take_succ_cons, rdAt, rdSt]
      rw [s1]; simp only
      rw [s2]; simp only
      rw [rdPx_short _ (by rw [List.length_take, pxBy_len, ← s3]; omega)]
  · simp only [rdId]
    rw [if_neg (by rw [idBy_len] at hn; simp; omega)]
  · simp only [rdId]
    rw [if_neg (by rw [idBy_len] at hn; simp; omega)]
theorem rdOp_short {o : Opp} (h : opB o = true) {n : Nat} (hn : n < (opBy o).length) : rdOp ((opBy o).take n) = .error 110 := by
  obtain ⟨h1, h2, _⟩ := opB_in h
  have hk : ((UInt8.ofNat (o.k.toNat % 256)).toNat : Int) = o.k := u8_z _ (by omega) (by omega)
  have hl := idBy_len o.id
  simp only [opBy, lay1, List.cons_append, List.nil_append, List.length_cons, List.length_append] at hn ⊢
  cases n with
  | zero => rfl
  | succ n =>
    rw [List.take_succ_cons, rdOp, if_pos (by omega)]
    by_cases hs : n < 17
    · have : rdId ((idBy o.id ++ tailBy o).take n) = none := by rw [rdId, if_neg (by simp; omega)]
      rw [this]
    · rw [List.take_append, List.take_of_length_le (by omega), rdId_by h1]
      simp only
      rw [hk, rdTail_short h (by omega)]
theorem rdOps_short : ∀ (l : List Opp), (∀ o ∈ l, opB o = true) → ∀ {n : Nat}, n < (l.flatMap opBy).length → rdOps l.length ((l.flatMap opBy).take n) = .error 110
  | [], _, n, hn => by simp at hn
  | o :: l, h, n, hn => by
    have ho := h o (by simp)
    rw [List.length_cons, rdOps, List.flatMap_cons]
    rw [List.flatMap_cons, List.length_append] at hn
    by_cases hs : n < (opBy o).length
    · rw [List.take_append_of_le_length (by omega), rdOp_short ho hs]
    · rw [List.take_append, List.take_of_length_le (by omega), rdOp_by ho]
      simp only
      rw [rdOps_short l (fun p hp => h p (by simp [hp])) (by omega)]
theorem rdRow_short {l : List Opp} (h : ∀ o ∈ l, opB o = true) (hl : l.length ≤ 64) {n : Nat} (hn : n < (opsBy l).length) : rdRow ((opsBy l).take n) = .error 110 := by
  simp only [opsBy, lay1, List.cons_append, List.nil_append, List.length_cons] at hn ⊢
  cases n with
  | zero => rfl
  | succ n =>
    rw [List.take_succ_cons, rdRow, u8_of _ (by omega), if_pos (by omega), show l.length % 256 = l.length by omega, rdOps_short l h (by omega)]
end Go.Proofs.YtnjaohdadaifhaaGreat

namespace Go.Proofs.YtnjaohdadaifhaaGreat
set_option maxRecDepth 20000
open Go.RowKit
set_option maxRecDepth 10000
set_option maxHeartbeats 4000000
theorem isite_v (n : Int) : VP Tryz.prog 85 [i64D n] (· = .ret (.lit (.bool (siteB n)))) := by
  refine vp_of Tryz.func85 rfl Tryz.ntmps85 rfl Tryz.results85 fun B => ?_
  repeat' (first | refine nz1 ?_ | refine nzo ?_ | refine nc ?_ ?_ | (with_reducible intro _ <;> (try (exfalso; omega))) | refine nnil ?_ | (refine nd ?_ ?_ <;> intro hg <;> first | exact xo hg | rw [hg]))
  all_goals simp [siteB, *]
theorem icheck_v (i : Idd) : VP Tryz.prog 50 [.agg (idD i)] (· = .ret (i64D (if idB i then 0 else 210))) := by
  have cs := isite_v i.s
  obtain ⟨sb, hs⟩ : ∃ sb, siteB i.s = sb := ⟨_, rfl⟩
  rw [hs] at cs
  obtain ⟨ib, hb⟩ : ∃ ib, idB i = ib := ⟨_, rfl⟩
  have hi := hb
  rw [hb]
  simp only [idB, hs] at hi
  simp only [idD]
  cases sb
  all_goals
    refine vp_of Tryz.func50 rfl Tryz.ntmps50 rfl Tryz.results50 fun B => ?_
    repeat' (first | refine nz1 ?_ | (refine vid ?_; first | refine cz (cs) ?_) | refine nzo ?_ | refine nc ?_ ?_ | (with_reducible intro _ <;> (try (exfalso; omega))) | refine nnil ?_ | (refine nd ?_ ?_ <;> intro hg <;> first | exact xo hg | rw [hg]))
  all_goals (subst hi; simp; try (first | omega | (rw [Bool.eq_iff_iff]; simp; omega)))
theorem rsite_v (n : Int) : VP Tryz.prog 60 [i64D n] (· = .ret (.lit (.bool (siteB n)))) := by
  refine vp_of Tryz.func60 rfl Tryz.ntmps60 rfl Tryz.results60 fun B => ?_
  repeat' (first | refine nz1 ?_ | refine nzo ?_ | refine nc ?_ ?_ | (with_reducible intro _ <;> (try (exfalso; omega))) | refine nnil ?_ | (refine nd ?_ ?_ <;> intro hg <;> first | exact xo hg | rw [hg]))
  all_goals simp [siteB, *]
theorem rright11_v (i : Idd) : VP Tryz.prog 22 [.agg (idD i)] (· = .ret (.lit (.bool (idB i)))) := by
  have cs := rsite_v i.s
  obtain ⟨sb, hs⟩ : ∃ sb, siteB i.s = sb := ⟨_, rfl⟩
  rw [hs] at cs
  obtain ⟨ib, hb⟩ : ∃ ib, idB i = ib := ⟨_, rfl⟩
  have hi := hb
  rw [hb]
  simp only [idB, hs] at hi
  simp only [idD]
  cases sb
  all_goals
    refine vp_of Tryz.func22 rfl Tryz.ntmps22 rfl Tryz.results22 fun B => ?_
    repeat' (first | refine nz1 ?_ | (refine vid ?_; first | refine cz (cs) ?_) | refine nzo ?_ | refine nc ?_ ?_ | (with_reducible intro _ <;> (try (exfalso; omega))) | refine nnil ?_ | (refine nd ?_ ?_ <;> intro hg <;> first | exact xo hg | rw [hg]))
  all_goals (subst hi; simp; try (first | omega | (rw [Bool.eq_iff_iff]; simp; omega)))
theorem id_eq (a b : Idd) : decide ([(a.t : Int), a.s, (a.q : Int)] = [(b.t : Int), b.s, (b.q : Int)]) = decide (a = b) := by
  obtain ⟨t, s, q⟩ := a
  obtain ⟨t', s', q'⟩ := b
  rw [decide_eq_decide]; simp; omega
def cmpZ (a b : Int) : Int := if a < b then -1 else if b < a then 1 else 0
theorem nanU_v (n : Int) : VP Tryz.prog 141 [.lit (.int .u64 n)] (· = .ret (.lit (.bool false))) := by
  refine vp_of Tryz.func141 rfl Tryz.ntmps141 rfl Tryz.results141 fun B => ?_
  repeat' (first | refine nz1 ?_ | refine nzo ?_ | refine nc ?_ ?_ | (with_reducible intro _ <;> (try (exfalso; omega))) | refine nnil ?_ | (refine nd ?_ ?_ <;> intro hg <;> first | exact xo hg | rw [hg]))
  all_goals simp
theorem nanI_v (n : Int) : VP Tryz.prog 142 [i64D n] (· = .ret (.lit (.bool false))) := by
  refine vp_of Tryz.func142 rfl Tryz.ntmps142 rfl Tryz.results142 fun B => ?_
  repeat' (first | refine nz1 ?_ | refine nzo ?_ | refine nc ?_ ?_ | (with_reducible intro _ <;> (try (exfalso; omega))) | refine nnil ?_ | (refine nd ?_ ?_ <;> intro hg <;> first | exact xo hg | rw [hg]))
  all_goals simp
theorem cmpU_v (a b : Nat) : VP Tryz.prog 125 [u64D a, u64D b] (· = .ret (i64D (cmpZ a b))) := by
  have c1 := nanU_v a
  have c2 := nanU_v b
  refine vp_of Tryz.func125 rfl Tryz.ntmps125 rfl Tryz.results125 fun B => ?_
  repeat' (first | refine nz1 ?_ | (refine vid ?_; first | refine cz (c1) ?_ | refine cz (c2) ?_) | refine nzo ?_ | refine nc ?_ ?_ | (with_reducible intro _ <;> (try (exfalso; omega))) | refine nnil ?_ | (refine nd ?_ ?_ <;> intro hg <;> first | exact xo hg | rw [hg]))
  all_goals (simp only [cmpZ]; simp_all; try omega)
theorem cmpI_v (a b : Int) : VP Tryz.prog 126 [i64D a, i64D b] (· = .ret (i64D (cmpZ a b))) := by
  have c1 := nanI_v a
  have c2 := nanI_v b
  refine vp_of Tryz.func126 rfl Tryz.ntmps126 rfl Tryz.results126 fun B => ?_
  repeat' (first | refine nz1 ?_ | (refine vid ?_; first | refine cz (c1) ?_ | refine cz (c2) ?_) | refine nzo ?_ | refine nc ?_ ?_ | (with_reducible intro _ <;> (try (exfalso; omega))) | refine nnil ?_ | (refine nd ?_ ?_ <;> intro hg <;> first | exact xo hg | rw [hg]))
  all_goals (simp only [cmpZ]; simp_all; try omega)
def orZ (a b c : Int) : Int := if a ≠ 0 then a else if b ≠ 0 then b else c
theorem cmpOr_v (a b c : Int) : VP Tryz.prog 124 [.sl false false [[i64D a], [i64D b], [i64D c]]] (· = .ret (i64D (orZ a b c))) := by
  have hl : ([[i64D a], [i64D b], [i64D c]] : List (List D)).length = 3 := rfl
  refine vp_of Tryz.func124 rfl Tryz.ntmps124 rfl Tryz.results124 fun B => ?_
  repeat' (first | refine nz1 ?_ | refine nzo ?_ | refine nc ?_ ?_ | (with_reducible intro _ <;> (try (exfalso; omega))) | refine nnil ?_ | (refine nd ?_ ?_ <;> intro hg <;> first | exact xo hg | rw [hg]))
  refine vw_rounds 4 ?_
  repeat' (first | refine nz1 ?_ | refine nzo ?_ | refine nc ?_ ?_ | (with_reducible intro _ <;> (try (exfalso; omega))) | refine nnil ?_ | (refine nd ?_ ?_ <;> intro hg <;> first | exact xo hg | rw [hg]))
  all_goals (simp only [orZ]; simp_all)
def idCmp (a b : Idd) : Int := if a = b then 0 else orZ (cmpZ a.t b.t) (cmpZ a.s b.s) (cmpZ a.q b.q)
theorem idCmp_lt (a b : Idd) : decide (idCmp a b < 0) = idLt a b := by
  obtain ⟨t, s, q⟩ := a
  obtain ⟨t', s', q'⟩ := b
  simp only [idCmp, idLt, orZ, cmpZ, Idd.mk.injEq]
  repeat' split
  all_goals (simp; try omega)
theorem icompare_v (a b : Idd) : VP Tryz.prog 118 [.agg (idD a), .agg (idD b)] (· = .ret (i64D (idCmp a b))) := by
  have c1 := cmpU_v a.t b.t
  have c2 := cmpI_v a.s b.s
  have c3 := cmpU_v a.q b.q
  have c4 := cmpOr_v (cmpZ a.t b.t) (cmpZ a.s b.s) (cmpZ a.q b.q)
  have he := id_eq a b
  simp only [idCmp]
  simp only [idD] at *
  generalize cmpZ a.t b.t = z1 at *
  generalize cmpZ a.s b.s = z2 at *
  generalize cmpZ a.q b.q = z3 at *
  refine vp_of Tryz.func118 rfl Tryz.ntmps118 rfl Tryz.results118 fun B => ?_
  repeat' (first | refine vs_bsd ?_ | refine vd_bsd ?_ | refine nz1 ?_ | (refine vid ?_; first | refine cz (c1) ?_ | refine cz (c2) ?_ | refine cz (c3) ?_ | refine cz (c4) ?_) | refine nzo ?_ | refine nc ?_ ?_ | (with_reducible intro _ <;> (try (exfalso; omega))) | refine nnil ?_ | (refine nd ?_ ?_ <;> intro hg <;> first | exact xo hg | rw [hg]))
  all_goals simp_all
theorem iless_v (a b : Idd) : VP Tryz.prog 95 [.agg (idD a), .agg (idD b)] (· = .ret (.lit (.bool (idLt a b)))) := by
  have c := icompare_v a b
  rw [← idCmp_lt]
  generalize idCmp a b = z at *
  simp only [idD] at *
  refine vp_of Tryz.func95 rfl Tryz.ntmps95 rfl Tryz.results95 fun B => ?_
  repeat' (first | refine nz1 ?_ | (refine vid ?_; first | refine cz (c) ?_) | refine nzo ?_ | refine nc ?_ ?_ | (with_reducible intro _ <;> (try (exfalso; omega))) | refine nnil ?_ | (refine nd ?_ ?_ <;> intro hg <;> first | exact xo hg | rw [hg]))
  all_goals rfl
theorem rless_v (a b : Idd) : VP Tryz.prog 65 [.agg (idD a), .agg (idD b)] (· = .ret (.lit (.bool (idLt a b)))) := by
  simp only [idLt]
  simp only [idD] at *
  refine vp_of Tryz.func65 rfl Tryz.ntmps65 rfl Tryz.results65 fun B => ?_
  repeat' (first | refine nz1 ?_ | refine nzo ?_ | refine nc ?_ ?_ | (with_reducible intro _ <;> (try (exfalso; omega))) | refine nnil ?_ | (refine nd ?_ ?_ <;> intro hg <;> first | exact xo hg | rw [hg]))
  all_goals (simp only [R.ret.injEq, D.lit.injEq, Value.bool.injEq]; repeat' split) <;> (first | omega | (rw [decide_eq_decide]; omega) | rw [decide_eq_decide])
end Go.Proofs.YtnjaohdadaifhaaGreat
