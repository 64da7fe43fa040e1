/- Walks by data and names, part 27: Layer 19, plain: what is read is what was laid. Layer 11, by V: ids that may be, and which stands ahead. Layer 12, by V: which operations are the same, and what one uses. -/
import Derived.Test.YtbgcjnfhadhjeaaGreatQk26
import Derived.Test.YtbgcjnfhadhjeaaGreatQk12
import Derived.Test.YtbgcjnfhadhjeaaGreatQk23
import Derived.Test.YtbgcjnfhadhjeaaGreatQk25
namespace Go.Proofs.YtbgcjnfhadhjeaaGreat
set_option maxRecDepth 20000
open Go.RowKit
theorem Sx (n : Nat) : AF 1 n = [UInt8.ofNat (n % 256)] := by simp [AF]
theorem Ab7 (n : Nat) : AF 2 n = [UInt8.ofNat (n / 256 % 256), UInt8.ofNat (n % 256)] := by simp [AF]
theorem Ls (x : UInt8) : AF 1 x.toNat = [x] := by
 have := x.toNat_lt
 rw [Sx, Nat.mod_eq_of_lt this]; simp
theorem Aau (x y : UInt8) : AF 2 (256 * x.toNat + y.toNat) = [x, y] := by
 have h1 := x.toNat_lt
 have h2 := y.toNat_lt
 rw [Ab7, show (256 * x.toNat + y.toNat) / 256 % 256 = x.toNat by omega, show (256 * x.toNat + y.toNat) % 256 = y.toNat by omega]; simp
theorem WO (n : Int) (h0 : 0 ≤ n) (h1 : n < 256) : ((UInt8.ofNat (n.toNat % 256)).toNat : Int) = n := by
 rw [KO _ (by omega)]; omega
theorem Rc {i : Ba} (h : J1 i = true) (r : List UInt8) : D6 (Hu i ++ r) = some (i, r) := by
 have hi := VG h
 have l1 := AI 8 i.t
 have l2 := AI 1 i.s.toNat
 have l3 := AI 8 i.q
 have n1 := Ff 8 i.t (by omega)
 have n2 := Ff 1 i.s.toNat (by omega)
 have n3 := Ff 8 i.q (by omega)
 unfold Hu
 generalize AF 8 i.t = A at *
 generalize AF 1 i.s.toNat = B at *
 generalize AF 8 i.q = C at *
 rw [D6, if_pos (by simp; omega)]
 have e1 : (A ++ B ++ C ++ r).take 8 = A := by rw [List.append_assoc, List.append_assoc, List.take_append_of_le_length (by omega), List.take_of_length_le (by omega)]
 have e2 : ((A ++ B ++ C ++ r).drop 8).take 1 = B := by
  rw [List.append_assoc, List.append_assoc, List.drop_append_of_le_length (by omega), List.drop_of_length_le (by omega), List.nil_append, List.take_append_of_le_length (by omega), List.take_of_length_le (by omega)]
 have e3 : ((A ++ B ++ C ++ r).drop 9).take 8 = C := by
  rw [List.append_assoc, List.drop_append_of_le_length (by simp; omega), List.drop_of_length_le (by simp; omega), List.nil_append, List.take_append_of_le_length (by omega), List.take_of_length_le (by omega)]
 have e4 : (A ++ B ++ C ++ r).drop 17 = r := by rw [List.drop_append_of_le_length (by simp; omega), List.drop_of_length_le (by simp; omega), List.nil_append]
 rw [e1, e2, e3, e4, n1, n2, n3]
 obtain ⟨t, s, q⟩ := i
 simp only [Option.some.injEq, Prod.mk.injEq, Ba.mk.injEq, and_true, true_and]
 simp only at hi; omega
theorem Re {x y : Int} (hx : LV x = true) (hy : LV y = true) (r : List UInt8) : Ck (Md x ++ Md y ++ r) = some ((x, y), r) := by
 simp only [LV, Bool.and_eq_true, decide_eq_true_eq] at hx hy
 simp only [Md, Sx, List.cons_append, List.nil_append, Ck]
 rw [WO _ (by omega) (by omega), WO _ (by omega) (by omega)]
 simp; omega
theorem Xb {n : Int} (h0 : 0 ≤ n) (h1 : n ≤ 1020) (r : List UInt8) : Dh (AF 2 n.toNat ++ r) = some (n.toNat, r) := by
 simp only [Ab7, List.cons_append, List.nil_append, Dh]
 rw [KO _ (by omega), KO _ (by omega)]
 simp; omega
theorem Us (c : BO) (r : List UInt8) : Bs (c4 c ++ r) = some (c, r) := rfl
theorem MG {n : Int} (h : BQ n = true) (r : List UInt8) : CS (AF 1 n.toNat ++ r) = .ok (n.toNat, r) := by
 simp only [BQ, Bool.and_eq_true, decide_eq_true_eq] at h
 simp only [Sx, List.cons_append, List.nil_append, CS]
 rw [KO _ (by omega), if_pos (by omega), show n.toNat % 256 = n.toNat by omega]
theorem Q8 : ∀ (l : List BO) (r : List UInt8), EX l.length (GC l ++ r) = some (l, r)
 | [], r => rfl
 | c :: l, r => by
  simp only [GC, List.flatMap_cons, List.length_cons, EX, List.append_assoc]
  rw [Us c]
  simp only
  rw [show EX l.length (List.flatMap c4 l ++ r) = some (l, r) from Q8 l r]
  rfl
theorem FS {o : A5} (h : Dr o = true) : J1 o.id = true ∧ (1 ≤ o.k ∧ o.k ≤ 8) ∧ BL o = o ∧ (LV o.x = true ∧ LV o.y = true ∧ LV o.x2 = true ∧ LV o.y2 = true) ∧ (0 ≤ o.z ∧ o.z ≤ (if o.k = 5 then 1020 else 15)) ∧ (o.k = 6 → QT o = true) ∧ (7 ≤ o.k → J1 o.tg = true ∧ Ib o.tg o.id = true) := by
 simp only [Dr, Bool.and_eq_true, Bool.or_eq_true, decide_eq_true_eq] at h
 obtain ⟨⟨⟨⟨⟨⟨⟨⟨⟨⟨⟨h1, h2⟩, h3⟩, h4⟩, h5⟩, h6⟩, h7⟩, h8⟩, h9⟩, ha⟩, hb⟩, hc⟩ := h
 refine ⟨h1, ⟨h2, h3⟩, h4, ⟨h5, h6, h7, h8⟩, ⟨h9, ha⟩, fun h => hb.resolve_left (fun hn => hn h), fun h => hc.resolve_left (by omega)⟩
theorem YH {o : A5} (h : Dr o = true) : 0 ≤ o.z ∧ o.z ≤ 1020 := by
 have h := (FS h).2.2.2.2.1
 split at h <;> omega
theorem KT {o : A5} (h : QT o = true) : BQ o.w = true ∧ BQ o.h = true ∧ o.px.length = o.w.toNat * o.h.toNat := by
 simp only [QT, Bool.and_eq_true, decide_eq_true_eq] at h
 obtain ⟨⟨h1, h2⟩, h3⟩ := h
 refine ⟨h1, h2, ?_⟩
 simp only [BQ, Bool.and_eq_true, decide_eq_true_eq] at h1 h2
 have : ((o.w.toNat * o.h.toNat : Nat) : Int) = o.w * o.h := by rw [Int.natCast_mul, Int.toNat_of_nonneg (by omega), Int.toNat_of_nonneg (by omega)]
 omega
theorem Sm {o : A5} (h : Dr o = true) (r : List UInt8) : AR { A5.zero with id := o.id, k := o.k } (Cz o ++ r) = .ok (o, r) := by
 obtain ⟨h1, h2, h3, ⟨h4, h5, h6, h7⟩, h8, h9, ha⟩ := FS h
 have hz := YH h
 have e1 : ∀ r, Ck (Md o.x ++ (Md o.y ++ r)) = some ((o.x, o.y), r) := fun r => by rw [← List.append_assoc]; exact Re h4 h5 r
 have e2 : ∀ r, Ck (Md o.x2 ++ (Md o.y2 ++ r)) = some ((o.x2, o.y2), r) := fun r => by rw [← List.append_assoc]; exact Re h6 h7 r
 have e3 : ∀ r, Dh (AF 2 o.z.toNat ++ r) = some (o.z.toNat, r) := fun r => Xb hz.1 hz.2 r
 have e4 : ∀ r, Bs (o.c.r :: o.c.g :: o.c.b :: o.c.a :: r) = some (o.c, r) := fun r => rfl
 have e5 : o.k = 6 → ∀ r, Er (AF 1 o.w.toNat ++ (AF 1 o.h.toNat ++ (GC o.px ++ r))) = .ok ((o.w.toNat, o.h.toNat, o.px), r) := fun h r => by
  obtain ⟨s1, s2, s3⟩ := KT (h9 h)
  rw [Er, MG s1]; simp only
  rw [MG s2]; simp only
  rw [← s3, Q8]
 have e6 : 7 ≤ o.k → ∀ r, D6 (Hu o.tg ++ r) = some (o.tg, r) := fun h r => Rc (ha h).1 r
 have hs : o.k = 6 → ((o.w.toNat : Nat) : Int) = o.w ∧ ((o.h.toNat : Nat) : Int) = o.h := fun h => by
  obtain ⟨s1, s2, _⟩ := KT (h9 h)
  simp only [BQ, Bool.and_eq_true, decide_eq_true_eq] at s1 s2
  omega
 have hzn : ((o.z.toNat : Nat) : Int) = o.z := by omega
 simp only [Cz, Dy, Gw, GY, AR]
 obtain ⟨i, k, x, y, x2, y2, z, c, w, hh, px, tg⟩ := o
 simp only at h2 e1 e2 e3 e4 e5 e6 hs hzn
 clear h4 h5 h6 h7 h8 h9 ha hz h h1
 have hk : k = 1 ∨ k = 2 ∨ k = 3 ∨ k = 4 ∨ k = 5 ∨ k = 6 ∨ k = 7 ∨ k = 8 := by omega
 rcases hk with rfl | rfl | rfl | rfl | rfl | rfl | rfl | rfl
 all_goals simp [BL] at h3
 all_goals simp [c4, List.append_assoc, e1, e2, e3, e4, e5, e6, hzn, A5.zero]
 all_goals (simp_all; omega)
theorem Xe {o : A5} (h : Dr o = true) (r : List UInt8) : Da (Fk o ++ r) = .ok (o, r) := by
 obtain ⟨h1, h2, _⟩ := FS h
 have hk : ((UInt8.ofNat (o.k.toNat % 256)).toNat : Int) = o.k := WO _ (by omega) (by omega)
 rw [Fk, Sx, List.append_assoc, List.append_assoc, List.cons_append, List.nil_append, Da, if_pos (by omega), Rc h1]
 simp only
 rw [hk, Sm h]
 simp [h]
theorem ON : ∀ (l : List A5), (∀ o ∈ l, Dr o = true) → ∀ r, Dp l.length (l.flatMap Fk ++ r) = .ok (l, r)
 | [], _, r => rfl
 | o :: l, h, r => by
  rw [List.length_cons, Dp, List.flatMap_cons, List.append_assoc, Xe (h o (by simp))]
  simp only
  rw [ON l (fun p hp => h p (by simp [hp]))]
theorem Un {l : List A5} (h : ∀ o ∈ l, Dr o = true) (hl : l.length ≤ 64) (r : List UInt8) : EZ (D8 l ++ r) = .ok (l, r) := by
 rw [D8, Sx, List.append_assoc, List.cons_append, List.nil_append, EZ, KO _ (by omega), if_pos (by omega), show l.length % 256 = l.length by omega, ON l h]
theorem Y1 {b t : List UInt8} {i : Ba} (h : D6 b = some (i, t)) (hi : J1 i = true) : Hu i ++ t = b := by
 simp only [D6] at h
 split at h
 ·rename_i hl
  simp only [Option.some.injEq, Prod.mk.injEq] at h
  obtain ⟨rfl, rfl⟩ := h
  simp only [Hu, Int.toNat_natCast]
  have e1 : AF 8 (AV (b.take 8)) = b.take 8 := by have := Gd (b.take 8); rwa [List.length_take, show min 8 b.length = 8 by omega] at this
  have e2 : AF 1 (AV ((b.drop 8).take 1)) = (b.drop 8).take 1 := by have := Gd ((b.drop 8).take 1); rwa [List.length_take, List.length_drop, show min 1 (b.length - 8) = 1 by omega] at this
  have e3 : AF 8 (AV ((b.drop 9).take 8)) = (b.drop 9).take 8 := by have := Gd ((b.drop 9).take 8); rwa [List.length_take, List.length_drop, show min 8 (b.length - 9) = 8 by omega] at this
  rw [e1, e2, e3]
  conv => rhs; rw [← List.take_append_drop 8 b, ← List.take_append_drop 1 (b.drop 8), List.drop_drop, ← List.take_append_drop 8 (b.drop 9), List.drop_drop]
  simp only [List.append_assoc]
 ·cases h
theorem Y2 {b t : List UInt8} {x y : Int} (h : Ck b = some ((x, y), t)) : Md x ++ Md y ++ t = b ∧ -64 ≤ x ∧ -64 ≤ y := by
 match b, h with
 | u :: v :: r, h =>
  simp only [Ck, Option.some.injEq, Prod.mk.injEq] at h
  obtain ⟨⟨rfl, rfl⟩, rfl⟩ := h
  refine ⟨?_, by omega, by omega⟩
  simp only [Md]
  rw [show ((u.toNat : Int) + -64 + 64).toNat = u.toNat by omega, show ((v.toNat : Int) + -64 + 64).toNat = v.toNat by omega, Ls, Ls]; rfl
theorem Y0 {b t : List UInt8} {n : Nat} (h : Dh b = some (n, t)) : AF 2 n ++ t = b := by
 match b, h with
 | u :: v :: r, h =>
  simp only [Dh, Option.some.injEq, Prod.mk.injEq] at h
  obtain ⟨rfl, rfl⟩ := h
  rw [Aau]; rfl
theorem N2 {b t : List UInt8} {c : BO} (h : Bs b = some (c, t)) : c4 c ++ t = b := by
 match b, h with
 | r :: g :: l :: a :: k, h =>
  simp only [Bs, Option.some.injEq, Prod.mk.injEq] at h
  obtain ⟨rfl, rfl⟩ := h
  rfl
theorem KD {b t : List UInt8} {n : Nat} (h : CS b = .ok (n, t)) : AF 1 n ++ t = b ∧ 1 ≤ n ∧ n ≤ 8 := by
 match b, h with
 | u :: r, h =>
  simp only [CS] at h
  split at h
  ·simp only [Except.ok.injEq, Prod.mk.injEq] at h
   obtain ⟨rfl, rfl⟩ := h
   rw [Ls]; exact ⟨rfl, by omega⟩
  ·cases h
theorem V3 : ∀ (n : Nat) {b t : List UInt8} {l : List BO}, EX n b = some (l, t) → GC l ++ t = b ∧ l.length = n
 | 0, b, t, l, h => by
  simp only [EX, Option.some.injEq, Prod.mk.injEq] at h
  obtain ⟨rfl, rfl⟩ := h
  exact ⟨rfl, rfl⟩
 | n + 1, b, t, l, h => by
  simp only [EX] at h
  split at h
  ·cases h
  ·rename_i c b' hc
   obtain ⟨z, hz, e⟩ := Option.map_eq_some_iff.1 h
   obtain ⟨l', t'⟩ := z
   simp only [Prod.mk.injEq] at e
   obtain ⟨rfl, rfl⟩ := e
   obtain ⟨h1, h2⟩ := V3 n hz
   refine ⟨?_, by simp [h2]⟩
   rw [← N2 hc, ← h1]; rfl
theorem Acz {b t : List UInt8} {w h : Nat} {l : List BO} (he : Er b = .ok ((w, h, l), t)) : AF 1 w ++ AF 1 h ++ GC l ++ t = b := by
 simp only [Er] at he
 split at he
 ·cases he
 ·rename_i w' b1 h1
  split at he
  ·cases he
  ·rename_i h' b2 h2
   split at he
   ·cases he
   ·rename_i l' b3 h3
    simp only [Except.ok.injEq, Prod.mk.injEq] at he
    obtain ⟨⟨rfl, rfl, rfl⟩, rfl⟩ := he
    rw [← (KD h1).1, ← (KD h2).1, ← (V3 _ h3).1]
    simp only [List.append_assoc]
theorem Yi {i : Ba} {k : Int} {b t : List UInt8} {o : A5} (hk : 1 ≤ k ∧ k ≤ 8) (h : AR { A5.zero with id := i, k := k } b = .ok (o, t)) (ho : Dr o = true) : o.id = i ∧ o.k = k ∧ Cz o ++ t = b := by
 obtain ⟨_, _, _, _, _, _, ha⟩ := FS ho
 simp only [AR] at h
 split at h
 ·rename_i h6
  split at h
  ·cases h
  ·rename_i x y b1 e1
   have f1 := (Y2 e1).1
   split at h
   ·rename_i h4
    split at h
    ·cases h
    ·rename_i x2 y2 b2 e2
     have f2 := (Y2 e2).1
     split at h
     ·rename_i h2
      split at h
      ·cases h
      ·rename_i z b3 e3
       have f3 := Y0 e3
       split at h
       ·cases h
       ·rename_i c b4 e4
        have f4 := N2 e4
        simp only [Except.ok.injEq, Prod.mk.injEq] at h
        obtain ⟨rfl, rfl⟩ := h
        refine ⟨rfl, rfl, ?_⟩
        simp only [Cz]
        rw [if_pos (by omega), ← f1, ← f2, ← f3, ← f4]
        simp only [Dy, Gw, GY, Int.toNat_natCast, List.append_assoc]
     ·rename_i h2
      split at h
      ·cases h
      ·rename_i c b4 e4
       have f4 := N2 e4
       simp only [Except.ok.injEq, Prod.mk.injEq] at h
       obtain ⟨rfl, rfl⟩ := h
       refine ⟨rfl, rfl, ?_⟩
       simp only [Cz]
       rw [if_neg (by omega), if_pos (by omega), ← f1, ← f2, ← f4]
       simp only [Dy, Gw, List.append_assoc]
   ·rename_i h4
    split at h
    ·rename_i h5
     split at h
     ·cases h
     ·rename_i z b3 e3
      have f3 := Y0 e3
      split at h
      ·cases h
      ·rename_i c b4 e4
       have f4 := N2 e4
       simp only [Except.ok.injEq, Prod.mk.injEq] at h
       obtain ⟨rfl, rfl⟩ := h
       refine ⟨rfl, rfl, ?_⟩
       simp only [Cz]
       rw [if_neg (by omega), if_neg (by omega), if_pos (by omega), ← f1, ← f3, ← f4]
       simp only [Dy, GY, Int.toNat_natCast, List.append_assoc]
    ·rename_i h5
     split at h
     ·cases h
     ·rename_i w hh l b3 e3
      have f3 := Acz e3
      simp only [Except.ok.injEq, Prod.mk.injEq] at h
      obtain ⟨rfl, rfl⟩ := h
      refine ⟨rfl, rfl, ?_⟩
      simp only [Cz]
      rw [if_neg (by omega), if_neg (by omega), if_neg (by omega), if_pos (by omega), ← f1, ← f3]
      simp only [Dy, Int.toNat_natCast, List.append_assoc]
 ·rename_i h6
  split at h
  ·cases h
  ·rename_i j b1 e1
   simp only [Except.ok.injEq, Prod.mk.injEq] at h
   obtain ⟨rfl, rfl⟩ := h
   refine ⟨rfl, rfl, ?_⟩
   have f1 := Y1 e1 (ha (by simp only; omega)).1
   simp only [Cz]
   rw [if_neg (by omega), if_neg (by omega), if_neg (by omega), if_neg (by omega), f1]
theorem RP {b t : List UInt8} {o : A5} (h : Da b = .ok (o, t)) : Dr o = true ∧ Fk o ++ t = b := by
 match b, h with
 | k :: b, h =>
  simp only [Da] at h
  split at h
  ·rename_i hk
   split at h
   ·cases h
   ·rename_i i b1 e1
    split at h
    ·cases h
    ·rename_i o' b2 e2
     split at h
     ·rename_i ho
      simp only [Except.ok.injEq, Prod.mk.injEq] at h
      obtain ⟨rfl, rfl⟩ := h
      obtain ⟨g1, g2, g3⟩ := Yi (by omega) e2 ho
      have hi := (FS ho).1
      rw [g1] at hi
      have f1 := Y1 e1 hi
      refine ⟨ho, ?_⟩
      rw [Fk, g1, g2, Int.toNat_natCast, Ls, ← f1, ← g3]
      simp
     ·cases h
  ·cases h
theorem V4 : ∀ (n : Nat) {b t : List UInt8} {l : List A5}, Dp n b = .ok (l, t) → (∀ o ∈ l, Dr o = true) ∧ l.length = n ∧ l.flatMap Fk ++ t = b
 | 0, b, t, l, h => by
  simp only [Dp, Except.ok.injEq, Prod.mk.injEq] at h
  obtain ⟨rfl, rfl⟩ := h
  exact ⟨by simp, rfl, rfl⟩
 | n + 1, b, t, l, h => by
  simp only [Dp] at h
  split at h
  ·cases h
  ·rename_i o b1 e1
   split at h
   ·cases h
   ·rename_i l' b2 e2
    simp only [Except.ok.injEq, Prod.mk.injEq] at h
    obtain ⟨rfl, rfl⟩ := h
    obtain ⟨h1, h2⟩ := RP e1
    obtain ⟨h3, h4, h5⟩ := V4 n e2
    refine ⟨?_, by simp [h4], ?_⟩
    ·intro p hp
     rcases List.mem_cons.1 hp with rfl | hp
     ·exact h1
     ·exact h3 p hp
    ·rw [List.flatMap_cons, List.append_assoc, h5, h2]
theorem N0 {b t : List UInt8} {l : List A5} (h : EZ b = .ok (l, t)) : (∀ o ∈ l, Dr o = true) ∧ l.length ≤ 64 ∧ D8 l ++ t = b := by
 match b, h with
 | n :: b, h =>
  simp only [EZ] at h
  split at h
  ·rename_i hn
   obtain ⟨h1, h2, h3⟩ := V4 _ h
   refine ⟨h1, by omega, ?_⟩
   rw [D8, h2, Ls, ← h3]; simp
  ·cases h
theorem IU : ∀ (l : List BO), (GC l).length = 4 * l.length
 | [] => rfl
 | c :: l => by
  have := IU l
  simp only [GC] at this
  simp [GC, this]; omega

set_option maxRecDepth 10000
set_option maxHeartbeats 4000000
theorem X1 (n : Int) : VP Tryz.prog 163 [An n] (· = .ret (.lit (.bool (Cg n)))) := by
 refine Al fun B => ?_
 repeat' (first | refine Ai ?_ | refine Ah ?_ | refine nc ?_ ?_ | (with_reducible intro _ <;> (try (exfalso; omega))) | refine Aa ?_ | (refine nd ?_ ?_ <;> intro hg <;> first | exact xo hg | rw [hg]))
 all_goals simp [Cg, *]
theorem O9 (i : Ba) : VP Tryz.prog 114 [.agg (GJ i)] (· = .ret (An (if J1 i then 0 else 210))) := by
 have cs := X1 i.s
 obtain ⟨sb, hs⟩ : ∃ sb, Cg i.s = sb := ⟨_, rfl⟩
 rw [hs] at cs
 obtain ⟨ib, hb⟩ : ∃ ib, J1 i = ib := ⟨_, rfl⟩
 have hi := hb
 rw [hb]
 simp only [J1, hs] at hi
 simp only [GJ]
 cases sb
 all_goals
  refine Al fun B => ?_
  repeat' (first | refine Ai ?_ | (refine As ?_; first | refine cz (cs) ?_) | refine Ah ?_ | refine nc ?_ ?_ | (with_reducible intro _ <;> (try (exfalso; omega))) | refine Aa ?_ | (refine nd ?_ ?_ <;> intro hg <;> first | exact xo hg | rw [hg]))
 all_goals (subst hi; simp; try (first | omega | (rw [Bool.eq_iff_iff]; simp; omega)))
theorem HO (n : Int) : VP Tryz.prog 35 [An n] (· = .ret (.lit (.bool (Cg n)))) := by
 refine Al fun B => ?_
 repeat' (first | refine Ai ?_ | refine Ah ?_ | refine nc ?_ ?_ | (with_reducible intro _ <;> (try (exfalso; omega))) | refine Aa ?_ | (refine nd ?_ ?_ <;> intro hg <;> first | exact xo hg | rw [hg]))
 all_goals simp [Cg, *]
theorem K0 (i : Ba) : VP Tryz.prog 106 [.agg (GJ i)] (· = .ret (.lit (.bool (J1 i)))) := by
 have cs := HO i.s
 obtain ⟨sb, hs⟩ : ∃ sb, Cg i.s = sb := ⟨_, rfl⟩
 rw [hs] at cs
 obtain ⟨ib, hb⟩ : ∃ ib, J1 i = ib := ⟨_, rfl⟩
 have hi := hb
 rw [hb]
 simp only [J1, hs] at hi
 simp only [GJ]
 cases sb
 all_goals
  refine Al fun B => ?_
  repeat' (first | refine Ai ?_ | (refine As ?_; first | refine cz (cs) ?_) | refine Ah ?_ | refine nc ?_ ?_ | (with_reducible intro _ <;> (try (exfalso; omega))) | refine Aa ?_ | (refine nd ?_ ?_ <;> intro hg <;> first | exact xo hg | rw [hg]))
 all_goals (subst hi; simp; try (first | omega | (rw [Bool.eq_iff_iff]; simp; omega)))
theorem O7 (a b : Ba) : decide ([(a.t : Int), a.s, (a.q : Int)] = [(b.t : Int), b.s, (b.q : Int)]) = decide (a = b) := by
 obtain ⟨t, s, q⟩ := a
 obtain ⟨t', s', q'⟩ := b
 rw [decide_eq_decide]; simp; omega
def Jh (a b : Int) : Int := if a < b then -1 else if b < a then 1 else 0
theorem Vk (n : Int) : VP Tryz.prog 208 [.lit (.int .u64 n)] (· = .ret (.lit (.bool false))) := by
 refine Al fun B => ?_
 repeat' (first | refine Ai ?_ | refine Ah ?_ | refine nc ?_ ?_ | (with_reducible intro _ <;> (try (exfalso; omega))) | refine Aa ?_ | (refine nd ?_ ?_ <;> intro hg <;> first | exact xo hg | rw [hg]))
 all_goals simp
theorem Vl (n : Int) : VP Tryz.prog 209 [An n] (· = .ret (.lit (.bool false))) := by
 refine Al fun B => ?_
 repeat' (first | refine Ai ?_ | refine Ah ?_ | refine nc ?_ ?_ | (with_reducible intro _ <;> (try (exfalso; omega))) | refine Aa ?_ | (refine nd ?_ ?_ <;> intro hg <;> first | exact xo hg | rw [hg]))
 all_goals simp
theorem VY (a b : Nat) : VP Tryz.prog 169 [AK a, AK b] (· = .ret (An (Jh a b))) := by
 have c1 := Vk a
 have c2 := Vk b
 refine Al fun B => ?_
 repeat' (first | refine Ai ?_ | (refine As ?_; first | refine cz (c1) ?_ | refine cz (c2) ?_) | refine Ah ?_ | refine nc ?_ ?_ | (with_reducible intro _ <;> (try (exfalso; omega))) | refine Aa ?_ | (refine nd ?_ ?_ <;> intro hg <;> first | exact xo hg | rw [hg]))
 all_goals (simp only [Jh]; simp_all; try omega)
theorem AaO (a b : Int) : VP Tryz.prog 170 [An a, An b] (· = .ret (An (Jh a b))) := by
 have c1 := Vl a
 have c2 := Vl b
 refine Al fun B => ?_
 repeat' (first | refine Ai ?_ | (refine As ?_; first | refine cz (c1) ?_ | refine cz (c2) ?_) | refine Ah ?_ | refine nc ?_ ?_ | (with_reducible intro _ <;> (try (exfalso; omega))) | refine Aa ?_ | (refine nd ?_ ?_ <;> intro hg <;> first | exact xo hg | rw [hg]))
 all_goals (simp only [Jh]; simp_all; try omega)
def orZ (a b c : Int) : Int := if a ≠ 0 then a else if b ≠ 0 then b else c
theorem Yc (a b c : Int) : VP Tryz.prog 168 [.sl false false [[An a], [An b], [An c]]] (· = .ret (An (orZ a b c))) := by
 have hl : ([[An a], [An b], [An c]] : List (List D)).length = 3 := rfl
 refine Al fun B => ?_
 repeat' (first | refine Ai ?_ | refine Ah ?_ | refine nc ?_ ?_ | (with_reducible intro _ <;> (try (exfalso; omega))) | refine Aa ?_ | (refine nd ?_ ?_ <;> intro hg <;> first | exact xo hg | rw [hg]))
 refine AB 4 ?_
 repeat' (first | refine Ai ?_ | refine Ah ?_ | refine nc ?_ ?_ | (with_reducible intro _ <;> (try (exfalso; omega))) | refine Aa ?_ | (refine nd ?_ ?_ <;> intro hg <;> first | exact xo hg | rw [hg]))
 all_goals (simp only [orZ]; simp_all)
def O8 (a b : Ba) : Int := if a = b then 0 else orZ (Jh a.t b.t) (Jh a.s b.s) (Jh a.q b.q)
theorem VF (a b : Ba) : decide (O8 a b < 0) = Ib a b := by
 obtain ⟨t, s, q⟩ := a
 obtain ⟨t', s', q'⟩ := b
 simp only [O8, Ib, orZ, Jh, Ba.mk.injEq]
 repeat' split
 all_goals (simp; try omega)
theorem Ql (a b : Ba) : VP Tryz.prog 122 [.agg (GJ a), .agg (GJ b)] (· = .ret (An (O8 a b))) := by
 have c1 := VY a.t b.t
 have c2 := AaO a.s b.s
 have c3 := VY a.q b.q
 have c4 := Yc (Jh a.t b.t) (Jh a.s b.s) (Jh a.q b.q)
 have he := O7 a b
 simp only [O8]
 simp only [GJ] at *
 generalize Jh a.t b.t = z1 at *
 generalize Jh a.s b.s = z2 at *
 generalize Jh a.q b.q = z3 at *
 refine Al fun B => ?_
 repeat' (first | refine C7 ?_ | refine Ha ?_ | refine Ai ?_ | (refine As ?_; first | refine cz (c1) ?_ | refine cz (c2) ?_ | refine cz (c3) ?_ | refine cz (c4) ?_) | refine Ah ?_ | refine nc ?_ ?_ | (with_reducible intro _ <;> (try (exfalso; omega))) | refine Aa ?_ | (refine nd ?_ ?_ <;> intro hg <;> first | exact xo hg | rw [hg]))
 all_goals simp_all
theorem RB (a b : Ba) : VP Tryz.prog 80 [.agg (GJ a), .agg (GJ b)] (· = .ret (.lit (.bool (Ib a b)))) := by
 have c := Ql a b
 rw [← VF]
 generalize O8 a b = z at *
 simp only [GJ] at *
 refine Al fun B => ?_
 repeat' (first | refine Ai ?_ | (refine As ?_; first | refine cz (c) ?_) | refine Ah ?_ | refine nc ?_ ?_ | (with_reducible intro _ <;> (try (exfalso; omega))) | refine Aa ?_ | (refine nd ?_ ?_ <;> intro hg <;> first | exact xo hg | rw [hg]))
 all_goals rfl
theorem Q4 (a b : Ba) : VP Tryz.prog 67 [.agg (GJ a), .agg (GJ b)] (· = .ret (.lit (.bool (Ib a b)))) := by
 simp only [Ib]
 simp only [GJ] at *
 refine Al fun B => ?_
 repeat' (first | refine Ai ?_ | refine Ah ?_ | refine nc ?_ ?_ | (with_reducible intro _ <;> (try (exfalso; omega))) | refine Aa ?_ | (refine nd ?_ ?_ <;> intro hg <;> first | exact xo hg | rw [hg]))
 all_goals (simp only [R.ret.injEq, D.lit.injEq, Value.bool.injEq]; repeat' split) <;> (first | omega | (rw [decide_eq_decide]; omega) | rw [decide_eq_decide])

set_option maxRecDepth 20000
set_option maxRecDepth 10000
abbrev Jg (l : List BO) : D := .sl false false (l.map Cq)
instance AcR (l : List BO) : CO (l.map Cq) (l.map Cq) := BM l _ _ (fun _ => inferInstance) (fun _ => rfl)
instance Ab2 (l : List BO) : FN (l.map Cq) := HU l _
theorem EL (l : List BO) : (l.map Cq).length = l.length := List.length_map _
theorem YY (l : List BO) : ∀ x ∈ l.map Cq, x.length = 4 := fun x hx => by
 obtain ⟨y, _, rfl⟩ := List.mem_map.1 hx; rfl
theorem NU (c d : BO) : decide ([(c.r.toNat : Int), c.g.toNat, c.b.toNat, c.a.toNat] = [(d.r.toNat : Int), d.g.toNat, d.b.toNat, d.a.toNat]) = decide (c = d) := by
 obtain ⟨r, g, b, a⟩ := c
 obtain ⟨r', g', b', a'⟩ := d
 rw [decide_eq_decide]
 simp only [List.cons.injEq, and_true, BO.mk.injEq, Int.natCast_inj, UInt8.toNat_inj]
theorem SF (a b : List BO) : VP Tryz.prog 123 [Jg a, Jg b] (· = .ret (.lit (.bool (decide (a = b))))) := by
 refine Al fun B => ?_
 have hb := EL b
 have ha := EL a
 repeat' (first | refine Ai ?_ | refine Ah ?_ | refine nc ?_ ?_ | (with_reducible intro _ <;> (try (exfalso; omega))) | refine Aa ?_ | (refine nd ?_ ?_ <;> intro hg <;> first | exact xo hg | rw [hg]))
 ·rw [decide_eq_false (fun h => by subst h; omega)]
 ·refine Bo 0 a Cq (fun (i : Nat) (_ : Unit) => ⟨[(13, I .i64 i), (12, I .i64 (a.map Cq).length), (0, .d (Jg a)), (1, .d (Jg b))], [], 0⟩) (fun i _ => decide (a = b) = decide (a.drop i = b.drop i)) () (AE) rfl (fun i y x hT hi hx hx' hlt hlm hlen hdr => ?_) (fun y hT hlt hlm => ?_)
  ·have hlb : i < b.length := by omega
   have hb' : b[i]? = some b[i] := List.getElem?_eq_getElem hlb
   have hbd := List.drop_eq_getElem_cons hlb
   generalize b[i] = z at *
   have hbx : (b.map Cq)[((i : Nat) : Int).toNat]? = some (Cq z) := by simp [hb']
   have he := NU x z
   rw [hdr, hbd] at hT
   by_cases hxz : x = z
   ·rw [decide_eq_true hxz] at he
    repeat' (first | refine Ai ?_ | refine Ah ?_ | refine nc ?_ ?_ | (with_reducible intro _ <;> (try (exfalso; omega))) | refine Aa ?_ | (refine nd ?_ ?_ <;> intro hg <;> first | exact xo hg | rw [hg]))
    refine Bd () hi ?_ (AE)
    rw [hT, hxz]; simp
   ·rw [decide_eq_false hxz] at he
    repeat' (first | refine Ai ?_ | refine Ah ?_ | refine nc ?_ ?_ | (with_reducible intro _ <;> (try (exfalso; omega))) | refine Aa ?_ | (refine nd ?_ ?_ <;> intro hg <;> first | exact xo hg | rw [hg]))
    rw [hT, decide_eq_false (fun h => hxz (List.cons.inj h).1)]
  ·repeat' (first | refine Ai ?_ | refine Ah ?_ | refine nc ?_ ?_ | (with_reducible intro _ <;> (try (exfalso; omega))) | refine Aa ?_ | (refine nd ?_ ?_ <;> intro hg <;> first | exact xo hg | rw [hg]))
   rw [hT, List.drop_of_length_le (Nat.le_refl _), List.drop_of_length_le (by omega), decide_eq_true rfl]
theorem SI (l : List BO) (hb : l.length ≤ 1000000) : VP Tryz.prog 32 [Jg l] (· = .ret (.sl false true (l.map Cq))) := by
 have hl := EL l
 have hz := YY l
 refine VP.le ?_
 refine Al fun B => ?_
 repeat' (first | refine Ai ?_ | refine Ah ?_ | refine nc ?_ ?_ | (with_reducible intro _ <;> (try (exfalso; omega))) | refine Aa ?_ | (refine nd ?_ ?_ <;> intro hg <;> first | exact xo hg | rw [hg]))
 ·have : l = [] := List.eq_nil_of_length_eq_zero (by simp_all)
  subst this
  exact Qo
 ·exact A7 _
def Jv (o p : A5) : Bool := decide (o.w = p.w) && decide (o.h = p.h) && decide (o.px = p.px)
theorem TP (o p : A5) : VP Tryz.prog 83 [.agg [An o.w, An o.h, Jg o.px], .agg [An p.w, An p.h, Jg p.px]] (· = .ret (.lit (.bool (Jv o p)))) := by
 have c := SF o.px p.px
 simp only [Jv]
 generalize decide (o.px = p.px) = r at *
 refine Al fun B => ?_
 repeat' (first | refine Ai ?_ | (refine As ?_; first | refine cz (c) ?_) | refine Ah ?_ | refine nc ?_ ?_ | (with_reducible intro _ <;> (try (exfalso; omega))) | refine Aa ?_ | (refine nd ?_ ?_ <;> intro hg <;> first | exact xo hg | rw [hg]))
 all_goals simp_all
theorem RG (o : A5) : VP Tryz.prog 81 [.agg (oD o)] (· = .ret (.agg [An o.x, An o.y])) := by
 simp only [oD, C6]
 refine Al fun B => ?_
 repeat' (first | refine Ai ?_ | refine Ah ?_ | refine nc ?_ ?_ | (with_reducible intro _ <;> (try (exfalso; omega))) | refine Aa ?_ | (refine nd ?_ ?_ <;> intro hg <;> first | exact xo hg | rw [hg]))
 all_goals rfl
theorem Yv (o : A5) : VP Tryz.prog 82 [.agg (oD o)] (· = .ret (.agg [An o.x2, An o.y2])) := by
 simp only [oD, C6]
 refine Al fun B => ?_
 repeat' (first | refine Ai ?_ | refine Ah ?_ | refine nc ?_ ?_ | (with_reducible intro _ <;> (try (exfalso; omega))) | refine Aa ?_ | (refine nd ?_ ?_ <;> intro hg <;> first | exact xo hg | rw [hg]))
 all_goals rfl

set_option maxRecDepth 20000
theorem NJ {m nb nb' : Nat} {st : List E} {r r' : RC} {st' : List E} {nw : Bool} {ver : Nat} {e : TypeId} {sz : Nat} {l : List (List D)} (k : Nat) (hr : Az k st = some (true, nw, ver, e, sz, l)) (h : Gy m r' st' nb' r (.r false nw k ver e sz l :: st) nb) : Gy m r' st' nb' r st nb := fun B g w e' hs hi hr' => by
 obtain ⟨g1, h1, h2, h3⟩ := Lw hi hs hr
 obtain ⟨g2, k1, k2⟩ := h B g1 w e' h2 h3 (by
  cases r with
  | ret v => obtain ⟨u, e, hu⟩ := hr'; exact ⟨u, e, h1.vrep hu⟩
  | panic v => obtain ⟨u, e, hu⟩ := hr'; exact ⟨u, e, h1.vrep hu⟩)
 exact ⟨g2, (h1.ext False m).trans2 k1, k2⟩
theorem Ua {n : Nat} {ρ : Ren} {st : List E} {y : D} {v : V} (h : Fz st v = some y) : KF n ρ st (.d y) v := fun B g w u k hu => by
 have := EO k h hu
 simp only [vrep]
 exact A4 (Nat.le_refl _) (fun b _ hb => ⟨C9 hb, rfl⟩) this
theorem GE {m nb nb' : Nat} {v v' : V} {st st' : List E} (ρ : Ren) (hv : KF nb' ρ st v' v := by ((repeat' (first | exact trivial | exact DD | refine CX ?_ ?_ | exact DG | exact EW | exact DB rfl | exact DA rfl rfl | exact CW rfl rfl | refine DH ?_ | refine Dz ?_ | refine DF ?_ | refine EU ?_ ?_ | exact ET | exact DC | exact EV | exact ES rfl | exact ER rfl | refine ⟨⟨rfl, _, rfl, ?_⟩, ?_⟩ | exact Ua rfl | exact GT rfl (by infer_instance) | refine ⟨⟨_, rfl, ?_⟩, ?_⟩ | refine ⟨⟨rfl, .inl ⟨rfl, _, _, rfl, rfl⟩⟩, ?_⟩ | refine ⟨⟨rfl, .inr ⟨rfl, rfl, rfl⟩⟩, ?_⟩ | refine ⟨⟨rfl, _, rfl, ?_⟩, ?_⟩ | refine ⟨?_, ?_⟩)); fail_if_success (focus skip))) (h2 : Jo nb' ρ st st' := by ((repeat' (first | exact trivial | exact DD | refine CX ?_ ?_ | exact DG | exact EW | exact DB rfl | exact DA rfl rfl | exact CW rfl rfl | refine DH ?_ | refine Dz ?_ | refine DF ?_ | refine EU ?_ ?_ | exact ET | exact DC | exact EV | exact ES rfl | exact ER rfl | refine ⟨⟨rfl, _, rfl, ?_⟩, ?_⟩ | exact Ua rfl | exact GT rfl (by infer_instance) | refine ⟨⟨_, rfl, ?_⟩, ?_⟩ | refine ⟨⟨rfl, .inl ⟨rfl, _, _, rfl, rfl⟩⟩, ?_⟩ | refine ⟨⟨rfl, .inr ⟨rfl, rfl, rfl⟩⟩, ?_⟩ | refine ⟨⟨rfl, _, rfl, ?_⟩, ?_⟩ | refine ⟨?_, ?_⟩)); fail_if_success (focus skip))) (hρ : GU m ρ = true := by first | rfl | decide) (h3 : Nat.ble m nb' = true := by rfl) : Gy m (.ret v') st' nb' (.ret v) st nb := Ou ρ hv h2 hρ h3

set_option maxRecDepth 10000
instance Acr {c f : Bool} : DL (.lit (.slice none 0 0)) (.sl c f (AG [])) := (inferInstance : DL (.lit (.slice none 0 0)) (.sl c f []))
abbrev lyE (b : List UInt8) : List E := [.c 0 0 [.d (BD b)]]
abbrev lyX (b : List UInt8) : List E := [.c 0 0 [.d (.sl true true (AG b))]]
theorem Ec (b : List UInt8) (w : Nat) (n : Int) (hw : 1 ≤ w ∧ w ≤ 8) (h0 : 0 ≤ n) (hn : n.toNat < 256 ^ w) (hb : b.length ≤ 100000000) : Dk Tryz.prog 181 1 [.ptr 0 0, .d (An w), .d (.lit (.int .u64 n))] (lyE b) 1 (.ret (.tup [])) (lyX (b ++ AF w n.toNat)) 1 := by
 have c := US b w n.toNat hw hn hb
 rw [AK, show ((n.toNat : Nat) : Int) = n by omega] at c
 generalize AF w n.toNat = L at *
 refine AH fun B M => ?_
 repeat' (first | refine Ai ?_ | (refine As ?_; first | refine cz (c) ?_ | (refine AJ (Ab 0) ?_; first | refine Ag (Ab 0) ?_ | refine Ao (Ak 0) ?_ | (refine Aj (Ad _ 0) ?_ ?_ <;> intro _ <;> (try (exfalso; omega))) | (refine Ap (Ad _ 0) ?_ ?_ <;> intro _))) | refine Ah ?_ | refine nc ?_ ?_ | (with_reducible intro _ <;> (try (exfalso; omega))) | refine Aa ?_ | (refine nd ?_ ?_ <;> intro hg <;> first | exact xo hg | rw [hg]))
 exact A8 []
theorem Ry (b : List UInt8) (i : Ba) (h : J1 i = true) (hb : b.length ≤ 90000000) : Dk Tryz.prog 214 1 [.ptr 0 0, .d (.agg (GJ i))] (lyE b) 1 (.ret (.tup [])) (lyX (b ++ Hu i)) 1 := by
 have hi := VG h
 have c1 := Ec b 8 i.t (by omega) (by omega) (by omega) (by omega)
 have c2 := Ec (b ++ AF 8 i.t) 1 i.s (by omega) (by omega) (by omega) (by simp [AI]; omega)
 have c3 := Ec (b ++ AF 8 i.t ++ AF 1 i.s.toNat) 8 i.q (by omega) (by omega) (by omega) (by simp [AI]; omega)
 simp only [Int.toNat_natCast] at c1 c2 c3
 rw [show ((8 : Nat) : Int) = 8 from rfl] at c1 c3
 rw [show ((1 : Nat) : Int) = 1 from rfl] at c2
 rw [Hu, ← List.append_assoc, ← List.append_assoc]
 generalize b ++ AF 8 i.t = B1 at *
 generalize B1 ++ AF 1 i.s.toNat = B2 at *
 generalize B2 ++ AF 8 i.q = B3 at *
 simp only [GJ]
 refine AH fun B M => ?_
 repeat' (first | refine Ai ?_ | (refine As ?_; first | refine Am [(0, none)] c1 ?_ | refine Am [(0, none)] c2 ?_ | refine Am [(0, none)] c3 ?_) | refine Ah ?_ | refine nc ?_ ?_ | (with_reducible intro _ <;> (try (exfalso; omega))) | refine Aa ?_ | (refine nd ?_ ?_ <;> intro hg <;> first | exact xo hg | rw [hg]))
 exact A8 []
theorem Kw (b : List UInt8) (n : Int) (h : LV n = true) (hb : b.length ≤ 90000000) : Dk Tryz.prog 309 1 [.ptr 0 0, .d (An n)] (lyE b) 1 (.ret (.tup [])) (lyX (b ++ Md n)) 1 := by
 simp only [LV, Bool.and_eq_true, decide_eq_true_eq] at h
 have c1 := Ec b 1 (n - -64) (by omega) (by omega) (by omega) (by omega)
 rw [show (n - -64).toNat = (n + 64).toNat by omega, show ((1 : Nat) : Int) = 1 from rfl] at c1
 simp only [Md]
 generalize b ++ AF 1 (n + 64).toNat = B1 at *
 refine AH fun B M => ?_
 repeat' (first | refine Ai ?_ | (refine As ?_; first | refine Am [(0, none)] c1 ?_) | refine Ah ?_ | refine nc ?_ ?_ | (with_reducible intro _ <;> (try (exfalso; omega))) | refine Aa ?_ | (refine nd ?_ ?_ <;> intro hg <;> first | exact xo hg | rw [hg]))
 exact A8 []
theorem Rz (b : List UInt8) (c : BO) (hb : b.length ≤ 90000000) : Dk Tryz.prog 310 1 [.ptr 0 0, .d (.agg (Cq c))] (lyX b) 1 (.ret (.tup [])) [.c 0 0 [.row 1 0], .r true true 1 0 5 1 (AG (b ++ c4 c))] 2 := by
 have hbl := Av b
 rw [show AG (b ++ c4 c) = AG b ++ [[.lit (vb c.r)], [.lit (vb c.g)], [.lit (vb c.b)], [.lit (vb c.a)]] by simp [AG, c4]]
 simp only [Cq]
 refine AH fun B M => ?_
 repeat' (first | refine Ai ?_ | refine Ah ?_ | refine nc ?_ ?_ | (with_reducible intro _ <;> (try (exfalso; omega))) | refine Aa ?_ | (refine nd ?_ ?_ <;> intro hg <;> first | exact xo hg | rw [hg]))
 exact A8 [(1, _, _)]
theorem Vu (b : List UInt8) (c : BO) (hb : b.length ≤ 90000000) : Dk Tryz.prog 310 1 [.ptr 0 0, .d (.agg (Cq c))] [.c 0 0 [.row 1 0], .r true true 1 0 5 1 (AG b)] 2 (.ret (.tup [])) [.c 0 0 [.row 1 0], .r true true 1 0 5 1 (AG (b ++ c4 c))] 2 := by
 have hbl := Av b
 rw [show AG (b ++ c4 c) = AG b ++ [[.lit (vb c.r)], [.lit (vb c.g)], [.lit (vb c.b)], [.lit (vb c.a)]] by simp [AG, c4]]
 simp only [Cq]
 refine AH fun B M => ?_
 repeat' (first | refine Bw (id := 1) [1] ?_ | refine Ai ?_ | refine Ah ?_ | refine nc ?_ ?_ | (with_reducible intro _ <;> (try (exfalso; omega))) | refine Aa ?_ | (refine nd ?_ ?_ <;> intro hg <;> first | exact xo hg | rw [hg]))
 exact A8 [(1, _, _)]

end Go.Proofs.YtbgcjnfhadhjeaaGreat