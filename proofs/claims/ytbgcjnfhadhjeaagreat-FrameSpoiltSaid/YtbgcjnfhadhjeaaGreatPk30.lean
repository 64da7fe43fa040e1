/- Walks by data and names, part 30: Layer 19, plain: what is read is what was laid. Layer 11, by V: ids that may be, and which stands ahead. Layer 12, by V: which operations are the same, and what one uses. -/
import Derived.Test.YtbgcjnfhadhjeaaGreatPk29
import Derived.Test.YtbgcjnfhadhjeaaGreatPk14
import Derived.Test.YtbgcjnfhadhjeaaGreatPk25
namespace Go.Proofs.YtbgcjnfhadhjeaaGreat
set_option maxRecDepth 20000
open Go.RowKit
theorem Qw (n : Nat) : Av 1 n = [UInt8.ofNat (n % 256)] := by simp [Av]
theorem AbW (n : Nat) : Av 2 n = [UInt8.ofNat (n / 256 % 256), UInt8.ofNat (n % 256)] := by simp [Av]
theorem Jx (x : UInt8) : Av 1 x.toNat = [x] := by
 have := x.toNat_lt
 rw [Qw, Nat.mod_eq_of_lt this]; simp
theorem Aaa (x y : UInt8) : Av 2 (256 * x.toNat + y.toNat) = [x, y] := by
 have h1 := x.toNat_lt
 have h2 := y.toNat_lt
 rw [AbW, show (256 * x.toNat + y.toNat) / 256 % 256 = x.toNat by omega, show (256 * x.toNat + y.toNat) % 256 = y.toNat by omega]; simp
theorem TH (n : Int) (h0 : 0 ≤ n) (h1 : n < 256) : ((UInt8.ofNat (n.toNat % 256)).toNat : Int) = n := by
 rw [KR _ (by omega)]; omega
theorem Ru {i : Bk} (h : Jz i = true) (r : List UInt8) : EY (CP i ++ r) = some (i, r) := by
 have hi := QC h
 have l1 := As 8 i.t
 have l2 := As 1 i.s.toNat
 have l3 := As 8 i.q
 have n1 := E9 8 i.t (by omega)
 have n2 := E9 1 i.s.toNat (by omega)
 have n3 := E9 8 i.q (by omega)
 unfold CP
 generalize Av 8 i.t = A at *
 generalize Av 1 i.s.toNat = B at *
 generalize Av 8 i.q = C at *
 rw [EY, if_pos (by simp; omega)]
 have e1 : (A ++ B ++ C ++ r).take 8 = A := by rw [List.append_assoc, List.append_assoc, List.take_append_of_le_length (by omega), List.take_of_length_le (by omega)]
 have e2 : ((A ++ B ++ C ++ r).drop 8).take 1 = B := by
  rw [List.append_assoc, List.append_assoc, List.drop_append_of_le_length (by omega), List.drop_of_length_le (by omega), List.nil_append, List.take_append_of_le_length (by omega), List.take_of_length_le (by omega)]
 have e3 : ((A ++ B ++ C ++ r).drop 9).take 8 = C := by
  rw [List.append_assoc, List.drop_append_of_le_length (by simp; omega), List.drop_of_length_le (by simp; omega), List.nil_append, List.take_append_of_le_length (by omega), List.take_of_length_le (by omega)]
 have e4 : (A ++ B ++ C ++ r).drop 17 = r := by rw [List.drop_append_of_le_length (by simp; omega), List.drop_of_length_le (by simp; omega), List.nil_append]
 rw [e1, e2, e3, e4, n1, n2, n3]
 obtain ⟨t, s, q⟩ := i
 simp only [Option.some.injEq, Prod.mk.injEq, Bk.mk.injEq, and_true, true_and]
 simp only at hi; omega
theorem Rw {x y : Int} (hx : Kn x = true) (hy : Kn y = true) (r : List UInt8) : Ft (GN x ++ GN y ++ r) = some ((x, y), r) := by
 simp only [Kn, Bool.and_eq_true, decide_eq_true_eq] at hx hy
 simp only [GN, Qw, List.cons_append, List.nil_append, Ft]
 rw [TH _ (by omega) (by omega), TH _ (by omega) (by omega)]
 simp; omega
theorem Xf {n : Int} (h0 : 0 ≤ n) (h1 : n ≤ 1020) (r : List UInt8) : Kd (Av 2 n.toNat ++ r) = some (n.toNat, r) := by
 simp only [AbW, List.cons_append, List.nil_append, Kd]
 rw [KR _ (by omega), KR _ (by omega)]
 simp; omega
theorem Ux (c : BL) (r : List UInt8) : Ew (c4 c ++ r) = some (c, r) := rfl
theorem MP {n : Int} (h : Bv n = true) (r : List UInt8) : Dc (Av 1 n.toNat ++ r) = .ok (n.toNat, r) := by
 simp only [Bv, Bool.and_eq_true, decide_eq_true_eq] at h
 simp only [Qw, List.cons_append, List.nil_append, Dc]
 rw [KR _ (by omega), if_pos (by omega), show n.toNat % 256 = n.toNat by omega]
theorem Rq : ∀ (l : List BL) (r : List UInt8), HX l.length (Eh l ++ r) = some (l, r)
 | [], r => rfl
 | c :: l, r => by
  simp only [Eh, List.flatMap_cons, List.length_cons, HX, List.append_assoc]
  rw [Ux c]
  simp only
  rw [show HX l.length (List.flatMap c4 l ++ r) = some (l, r) from Rq l r]
  rfl
theorem EM {o : Bb} (h : Da o = true) : Jz o.id = true ∧ (1 ≤ o.k ∧ o.k ≤ 8) ∧ Bw o = o ∧ (Kn o.x = true ∧ Kn o.y = true ∧ Kn o.x2 = true ∧ Kn o.y2 = true) ∧ (0 ≤ o.z ∧ o.z ≤ (if o.k = 5 then 1020 else 15)) ∧ (o.k = 6 → Rd o = true) ∧ (7 ≤ o.k → Jz o.tg = true ∧ HZ o.tg o.id = true) := by
 simp only [Da, Bool.and_eq_true, Bool.or_eq_true, decide_eq_true_eq] at h
 obtain ⟨⟨⟨⟨⟨⟨⟨⟨⟨⟨⟨h1, h2⟩, h3⟩, h4⟩, h5⟩, h6⟩, h7⟩, h8⟩, h9⟩, ha⟩, hb⟩, hc⟩ := h
 refine ⟨h1, ⟨h2, h3⟩, h4, ⟨h5, h6, h7, h8⟩, ⟨h9, ha⟩, fun h => hb.resolve_left (fun hn => hn h), fun h => hc.resolve_left (by omega)⟩
theorem RM {o : Bb} (h : Da o = true) : 0 ≤ o.z ∧ o.z ≤ 1020 := by
 have h := (EM h).2.2.2.2.1
 split at h <;> omega
theorem JR {o : Bb} (h : Rd o = true) : Bv o.w = true ∧ Bv o.h = true ∧ o.px.length = o.w.toNat * o.h.toNat := by
 simp only [Rd, Bool.and_eq_true, decide_eq_true_eq] at h
 obtain ⟨⟨h1, h2⟩, h3⟩ := h
 refine ⟨h1, h2, ?_⟩
 simp only [Bv, Bool.and_eq_true, decide_eq_true_eq] at h1 h2
 have : ((o.w.toNat * o.h.toNat : Nat) : Int) = o.w * o.h := by rw [Int.natCast_mul, Int.toNat_of_nonneg (by omega), Int.toNat_of_nonneg (by omega)]
 omega
theorem Sw {o : Bb} (h : Da o = true) (r : List UInt8) : Eg { Bb.zero with id := o.id, k := o.k } (Bu o ++ r) = .ok (o, r) := by
 obtain ⟨h1, h2, h3, ⟨h4, h5, h6, h7⟩, h8, h9, ha⟩ := EM h
 have hz := RM h
 have e1 : ∀ r, Ft (GN o.x ++ (GN o.y ++ r)) = some ((o.x, o.y), r) := fun r => by rw [← List.append_assoc]; exact Rw h4 h5 r
 have e2 : ∀ r, Ft (GN o.x2 ++ (GN o.y2 ++ r)) = some ((o.x2, o.y2), r) := fun r => by rw [← List.append_assoc]; exact Rw h6 h7 r
 have e3 : ∀ r, Kd (Av 2 o.z.toNat ++ r) = some (o.z.toNat, r) := fun r => Xf hz.1 hz.2 r
 have e4 : ∀ r, Ew (o.c.r :: o.c.g :: o.c.b :: o.c.a :: r) = some (o.c, r) := fun r => rfl
 have e5 : o.k = 6 → ∀ r, Gq (Av 1 o.w.toNat ++ (Av 1 o.h.toNat ++ (Eh o.px ++ r))) = .ok ((o.w.toNat, o.h.toNat, o.px), r) := fun h r => by
  obtain ⟨s1, s2, s3⟩ := JR (h9 h)
  rw [Gq, MP s1]; simp only
  rw [MP s2]; simp only
  rw [← s3, Rq]
 have e6 : 7 ≤ o.k → ∀ r, EY (CP o.tg ++ r) = some (o.tg, r) := fun h r => Ru (ha h).1 r
 have hs : o.k = 6 → ((o.w.toNat : Nat) : Int) = o.w ∧ ((o.h.toNat : Nat) : Int) = o.h := fun h => by
  obtain ⟨s1, s2, _⟩ := JR (h9 h)
  simp only [Bv, Bool.and_eq_true, decide_eq_true_eq] at s1 s2
  omega
 have hzn : ((o.z.toNat : Nat) : Int) = o.z := by omega
 simp only [Bu, CU, FK, Et, Eg]
 obtain ⟨i, k, x, y, x2, y2, z, c, w, hh, px, tg⟩ := o
 simp only at h2 e1 e2 e3 e4 e5 e6 hs hzn
 clear h4 h5 h6 h7 h8 h9 ha hz h h1
 have hk : k = 1 ∨ k = 2 ∨ k = 3 ∨ k = 4 ∨ k = 5 ∨ k = 6 ∨ k = 7 ∨ k = 8 := by omega
 rcases hk with rfl | rfl | rfl | rfl | rfl | rfl | rfl | rfl
 all_goals simp [Bw] at h3
 all_goals simp [c4, List.append_assoc, e1, e2, e3, e4, e5, e6, hzn, Bb.zero]
 all_goals (simp_all; omega)
theorem Xi {o : Bb} (h : Da o = true) (r : List UInt8) : Ev (Cf o ++ r) = .ok (o, r) := by
 obtain ⟨h1, h2, _⟩ := EM h
 have hk : ((UInt8.ofNat (o.k.toNat % 256)).toNat : Int) = o.k := TH _ (by omega) (by omega)
 rw [Cf, Qw, List.append_assoc, List.append_assoc, List.cons_append, List.nil_append, Ev, if_pos (by omega), Ru h1]
 simp only
 rw [hk, Sw h]
 simp [h]
theorem OS : ∀ (l : List Bb), (∀ o ∈ l, Da o = true) → ∀ r, Fg l.length (l.flatMap Cf ++ r) = .ok (l, r)
 | [], _, r => rfl
 | o :: l, h, r => by
  rw [List.length_cons, Fg, List.flatMap_cons, List.append_assoc, Xi (h o (by simp))]
  simp only
  rw [OS l (fun p hp => h p (by simp [hp]))]
theorem Uu {l : List Bb} (h : ∀ o ∈ l, Da o = true) (hl : l.length ≤ 64) (r : List UInt8) : GG (C9 l ++ r) = .ok (l, r) := by
 rw [C9, Qw, List.append_assoc, List.cons_append, List.nil_append, GG, KR _ (by omega), if_pos (by omega), show l.length % 256 = l.length by omega, OS l h]
theorem YU {b t : List UInt8} {i : Bk} (h : EY b = some (i, t)) (hi : Jz i = true) : CP i ++ t = b := by
 simp only [EY] at h
 split at h
 ·rename_i hl
  simp only [Option.some.injEq, Prod.mk.injEq] at h
  obtain ⟨rfl, rfl⟩ := h
  simp only [CP, Int.toNat_natCast]
  have e1 : Av 8 (A3 (b.take 8)) = b.take 8 := by have := F7 (b.take 8); rwa [List.length_take, show min 8 b.length = 8 by omega] at this
  have e2 : Av 1 (A3 ((b.drop 8).take 1)) = (b.drop 8).take 1 := by have := F7 ((b.drop 8).take 1); rwa [List.length_take, List.length_drop, show min 1 (b.length - 8) = 1 by omega] at this
  have e3 : Av 8 (A3 ((b.drop 9).take 8)) = (b.drop 9).take 8 := by have := F7 ((b.drop 9).take 8); rwa [List.length_take, List.length_drop, show min 8 (b.length - 9) = 8 by omega] at this
  rw [e1, e2, e3]
  conv => rhs; rw [← List.take_append_drop 8 b, ← List.take_append_drop 1 (b.drop 8), List.drop_drop, ← List.take_append_drop 8 (b.drop 9), List.drop_drop]
  simp only [List.append_assoc]
 ·cases h
theorem YV {b t : List UInt8} {x y : Int} (h : Ft b = some ((x, y), t)) : GN x ++ GN y ++ t = b ∧ -64 ≤ x ∧ -64 ≤ y := by
 match b, h with
 | u :: v :: r, h =>
  simp only [Ft, Option.some.injEq, Prod.mk.injEq] at h
  obtain ⟨⟨rfl, rfl⟩, rfl⟩ := h
  refine ⟨?_, by omega, by omega⟩
  simp only [GN]
  rw [show ((u.toNat : Int) + -64 + 64).toNat = u.toNat by omega, show ((v.toNat : Int) + -64 + 64).toNat = v.toNat by omega, Jx, Jx]; rfl
theorem YS {b t : List UInt8} {n : Nat} (h : Kd b = some (n, t)) : Av 2 n ++ t = b := by
 match b, h with
 | u :: v :: r, h =>
  simp only [Kd, Option.some.injEq, Prod.mk.injEq] at h
  obtain ⟨rfl, rfl⟩ := h
  rw [Aaa]; rfl
theorem Oc {b t : List UInt8} {c : BL} (h : Ew b = some (c, t)) : c4 c ++ t = b := by
 match b, h with
 | r :: g :: l :: a :: k, h =>
  simp only [Ew, Option.some.injEq, Prod.mk.injEq] at h
  obtain ⟨rfl, rfl⟩ := h
  rfl
theorem KF {b t : List UInt8} {n : Nat} (h : Dc b = .ok (n, t)) : Av 1 n ++ t = b ∧ 1 ≤ n ∧ n ≤ 8 := by
 match b, h with
 | u :: r, h =>
  simp only [Dc] at h
  split at h
  ·simp only [Except.ok.injEq, Prod.mk.injEq] at h
   obtain ⟨rfl, rfl⟩ := h
   rw [Jx]; exact ⟨rfl, by omega⟩
  ·cases h
theorem We : ∀ (n : Nat) {b t : List UInt8} {l : List BL}, HX n b = some (l, t) → Eh l ++ t = b ∧ l.length = n
 | 0, b, t, l, h => by
  simp only [HX, Option.some.injEq, Prod.mk.injEq] at h
  obtain ⟨rfl, rfl⟩ := h
  exact ⟨rfl, rfl⟩
 | n + 1, b, t, l, h => by
  simp only [HX] at h
  split at h
  ·cases h
  ·rename_i c b' hc
   obtain ⟨z, hz, e⟩ := Option.map_eq_some_iff.1 h
   obtain ⟨l', t'⟩ := z
   simp only [Prod.mk.injEq] at e
   obtain ⟨rfl, rfl⟩ := e
   obtain ⟨h1, h2⟩ := We n hz
   refine ⟨?_, by simp [h2]⟩
   rw [← Oc hc, ← h1]; rfl
theorem Acj {b t : List UInt8} {w h : Nat} {l : List BL} (he : Gq b = .ok ((w, h, l), t)) : Av 1 w ++ Av 1 h ++ Eh l ++ t = b := by
 simp only [Gq] at he
 split at he
 ·cases he
 ·rename_i w' b1 h1
  split at he
  ·cases he
  ·rename_i h' b2 h2
   split at he
   ·cases he
   ·rename_i l' b3 h3
    simp only [Except.ok.injEq, Prod.mk.injEq] at he
    obtain ⟨⟨rfl, rfl, rfl⟩, rfl⟩ := he
    rw [← (KF h1).1, ← (KF h2).1, ← (We _ h3).1]
    simp only [List.append_assoc]
theorem Yc {i : Bk} {k : Int} {b t : List UInt8} {o : Bb} (hk : 1 ≤ k ∧ k ≤ 8) (h : Eg { Bb.zero with id := i, k := k } b = .ok (o, t)) (ho : Da o = true) : o.id = i ∧ o.k = k ∧ Bu o ++ t = b := by
 obtain ⟨_, _, _, _, _, _, ha⟩ := EM ho
 simp only [Eg] at h
 split at h
 ·rename_i h6
  split at h
  ·cases h
  ·rename_i x y b1 e1
   have f1 := (YV e1).1
   split at h
   ·rename_i h4
    split at h
    ·cases h
    ·rename_i x2 y2 b2 e2
     have f2 := (YV e2).1
     split at h
     ·rename_i h2
      split at h
      ·cases h
      ·rename_i z b3 e3
       have f3 := YS e3
       split at h
       ·cases h
       ·rename_i c b4 e4
        have f4 := Oc e4
        simp only [Except.ok.injEq, Prod.mk.injEq] at h
        obtain ⟨rfl, rfl⟩ := h
        refine ⟨rfl, rfl, ?_⟩
        simp only [Bu]
        rw [if_pos (by omega), ← f1, ← f2, ← f3, ← f4]
        simp only [CU, FK, Et, Int.toNat_natCast, List.append_assoc]
     ·rename_i h2
      split at h
      ·cases h
      ·rename_i c b4 e4
       have f4 := Oc e4
       simp only [Except.ok.injEq, Prod.mk.injEq] at h
       obtain ⟨rfl, rfl⟩ := h
       refine ⟨rfl, rfl, ?_⟩
       simp only [Bu]
       rw [if_neg (by omega), if_pos (by omega), ← f1, ← f2, ← f4]
       simp only [CU, FK, List.append_assoc]
   ·rename_i h4
    split at h
    ·rename_i h5
     split at h
     ·cases h
     ·rename_i z b3 e3
      have f3 := YS e3
      split at h
      ·cases h
      ·rename_i c b4 e4
       have f4 := Oc e4
       simp only [Except.ok.injEq, Prod.mk.injEq] at h
       obtain ⟨rfl, rfl⟩ := h
       refine ⟨rfl, rfl, ?_⟩
       simp only [Bu]
       rw [if_neg (by omega), if_neg (by omega), if_pos (by omega), ← f1, ← f3, ← f4]
       simp only [CU, Et, Int.toNat_natCast, List.append_assoc]
    ·rename_i h5
     split at h
     ·cases h
     ·rename_i w hh l b3 e3
      have f3 := Acj e3
      simp only [Except.ok.injEq, Prod.mk.injEq] at h
      obtain ⟨rfl, rfl⟩ := h
      refine ⟨rfl, rfl, ?_⟩
      simp only [Bu]
      rw [if_neg (by omega), if_neg (by omega), if_neg (by omega), if_pos (by omega), ← f1, ← f3]
      simp only [CU, Int.toNat_natCast, List.append_assoc]
 ·rename_i h6
  split at h
  ·cases h
  ·rename_i j b1 e1
   simp only [Except.ok.injEq, Prod.mk.injEq] at h
   obtain ⟨rfl, rfl⟩ := h
   refine ⟨rfl, rfl, ?_⟩
   have f1 := YU e1 (ha (by simp only; omega)).1
   simp only [Bu]
   rw [if_neg (by omega), if_neg (by omega), if_neg (by omega), if_neg (by omega), f1]
theorem YT {b t : List UInt8} {o : Bb} (h : Ev b = .ok (o, t)) : Da o = true ∧ Cf o ++ t = b := by
 match b, h with
 | k :: b, h =>
  simp only [Ev] at h
  split at h
  ·rename_i hk
   split at h
   ·cases h
   ·rename_i i b1 e1
    split at h
    ·cases h
    ·rename_i o' b2 e2
     split at h
     ·rename_i ho
      simp only [Except.ok.injEq, Prod.mk.injEq] at h
      obtain ⟨rfl, rfl⟩ := h
      obtain ⟨g1, g2, g3⟩ := Yc (by omega) e2 ho
      have hi := (EM ho).1
      rw [g1] at hi
      have f1 := YU e1 hi
      refine ⟨ho, ?_⟩
      rw [Cf, g1, g2, Int.toNat_natCast, Jx, ← f1, ← g3]
      simp
     ·cases h
  ·cases h
theorem Wf : ∀ (n : Nat) {b t : List UInt8} {l : List Bb}, Fg n b = .ok (l, t) → (∀ o ∈ l, Da o = true) ∧ l.length = n ∧ l.flatMap Cf ++ t = b
 | 0, b, t, l, h => by
  simp only [Fg, Except.ok.injEq, Prod.mk.injEq] at h
  obtain ⟨rfl, rfl⟩ := h
  exact ⟨by simp, rfl, rfl⟩
 | n + 1, b, t, l, h => by
  simp only [Fg] at h
  split at h
  ·cases h
  ·rename_i o b1 e1
   split at h
   ·cases h
   ·rename_i l' b2 e2
    simp only [Except.ok.injEq, Prod.mk.injEq] at h
    obtain ⟨rfl, rfl⟩ := h
    obtain ⟨h1, h2⟩ := YT e1
    obtain ⟨h3, h4, h5⟩ := Wf n e2
    refine ⟨?_, by simp [h4], ?_⟩
    ·intro p hp
     rcases List.mem_cons.1 hp with rfl | hp
     ·exact h1
     ·exact h3 p hp
    ·rw [List.flatMap_cons, List.append_assoc, h5, h2]
theorem QL {b t : List UInt8} {l : List Bb} (h : GG b = .ok (l, t)) : (∀ o ∈ l, Da o = true) ∧ l.length ≤ 64 ∧ C9 l ++ t = b := by
 match b, h with
 | n :: b, h =>
  simp only [GG] at h
  split at h
  ·rename_i hn
   obtain ⟨h1, h2, h3⟩ := Wf _ h
   refine ⟨h1, by omega, ?_⟩
   rw [C9, h2, Jx, ← h3]; simp
  ·cases h
theorem FZ : ∀ (l : List BL), (Eh l).length = 4 * l.length
 | [] => rfl
 | c :: l => by
  have := FZ l
  simp only [Eh] at this
  simp [Eh, this]; omega

set_option maxRecDepth 10000
set_option maxHeartbeats 4000000
theorem XX (n : Int) : VP Tryz.prog 163 [Ar n] (· = .ret (.lit (.bool (BQ n)))) := by
 refine Am fun B => ?_
 repeat' (first | refine Al ?_ | refine Ak ?_ | refine nc ?_ ?_ | (with_reducible intro _ <;> (try (exfalso; omega))) | refine Ad ?_ | (refine nd ?_ ?_ <;> intro hg <;> first | exact xo hg | rw [hg]))
 all_goals simp [BQ, *]
theorem Pf (i : Bk) : VP Tryz.prog 114 [.agg (F9 i)] (· = .ret (Ar (if Jz i then 0 else 210))) := by
 have cs := XX i.s
 obtain ⟨sb, hs⟩ : ∃ sb, BQ i.s = sb := ⟨_, rfl⟩
 rw [hs] at cs
 obtain ⟨ib, hb⟩ : ∃ ib, Jz i = ib := ⟨_, rfl⟩
 have hi := hb
 rw [hb]
 simp only [Jz, hs] at hi
 simp only [F9]
 cases sb
 all_goals
  refine Am fun B => ?_
  repeat' (first | refine Al ?_ | (refine Ay ?_; first | refine cz (cs) ?_) | refine Ak ?_ | refine nc ?_ ?_ | (with_reducible intro _ <;> (try (exfalso; omega))) | refine Ad ?_ | (refine nd ?_ ?_ <;> intro hg <;> first | exact xo hg | rw [hg]))
 all_goals (subst hi; simp; try (first | omega | (rw [Bool.eq_iff_iff]; simp; omega)))
theorem HD (n : Int) : VP Tryz.prog 35 [Ar n] (· = .ret (.lit (.bool (BQ n)))) := by
 refine Am fun B => ?_
 repeat' (first | refine Al ?_ | refine Ak ?_ | refine nc ?_ ?_ | (with_reducible intro _ <;> (try (exfalso; omega))) | refine Ad ?_ | (refine nd ?_ ?_ <;> intro hg <;> first | exact xo hg | rw [hg]))
 all_goals simp [BQ, *]
theorem K1 (i : Bk) : VP Tryz.prog 106 [.agg (F9 i)] (· = .ret (.lit (.bool (Jz i)))) := by
 have cs := HD i.s
 obtain ⟨sb, hs⟩ : ∃ sb, BQ i.s = sb := ⟨_, rfl⟩
 rw [hs] at cs
 obtain ⟨ib, hb⟩ : ∃ ib, Jz i = ib := ⟨_, rfl⟩
 have hi := hb
 rw [hb]
 simp only [Jz, hs] at hi
 simp only [F9]
 cases sb
 all_goals
  refine Am fun B => ?_
  repeat' (first | refine Al ?_ | (refine Ay ?_; first | refine cz (cs) ?_) | refine Ak ?_ | refine nc ?_ ?_ | (with_reducible intro _ <;> (try (exfalso; omega))) | refine Ad ?_ | (refine nd ?_ ?_ <;> intro hg <;> first | exact xo hg | rw [hg]))
 all_goals (subst hi; simp; try (first | omega | (rw [Bool.eq_iff_iff]; simp; omega)))
theorem Pd (a b : Bk) : decide ([(a.t : Int), a.s, (a.q : Int)] = [(b.t : Int), b.s, (b.q : Int)]) = decide (a = b) := by
 obtain ⟨t, s, q⟩ := a
 obtain ⟨t', s', q'⟩ := b
 rw [decide_eq_decide]; simp; omega
def I6 (a b : Int) : Int := if a < b then -1 else if b < a then 1 else 0
theorem Vt (n : Int) : VP Tryz.prog 208 [.lit (.int .u64 n)] (· = .ret (.lit (.bool false))) := by
 refine Am fun B => ?_
 repeat' (first | refine Al ?_ | refine Ak ?_ | refine nc ?_ ?_ | (with_reducible intro _ <;> (try (exfalso; omega))) | refine Ad ?_ | (refine nd ?_ ?_ <;> intro hg <;> first | exact xo hg | rw [hg]))
 all_goals simp
theorem Vu (n : Int) : VP Tryz.prog 209 [Ar n] (· = .ret (.lit (.bool false))) := by
 refine Am fun B => ?_
 repeat' (first | refine Al ?_ | refine Ak ?_ | refine nc ?_ ?_ | (with_reducible intro _ <;> (try (exfalso; omega))) | refine Ad ?_ | (refine nd ?_ ?_ <;> intro hg <;> first | exact xo hg | rw [hg]))
 all_goals simp
theorem V8 (a b : Nat) : VP Tryz.prog 169 [AW a, AW b] (· = .ret (Ar (I6 a b))) := by
 have c1 := Vt a
 have c2 := Vt b
 refine Am fun B => ?_
 repeat' (first | refine Al ?_ | (refine Ay ?_; first | refine cz (c1) ?_ | refine cz (c2) ?_) | refine Ak ?_ | refine nc ?_ ?_ | (with_reducible intro _ <;> (try (exfalso; omega))) | refine Ad ?_ | (refine nd ?_ ?_ <;> intro hg <;> first | exact xo hg | rw [hg]))
 all_goals (simp only [I6]; simp_all; try omega)
theorem Aav (a b : Int) : VP Tryz.prog 170 [Ar a, Ar b] (· = .ret (Ar (I6 a b))) := by
 have c1 := Vu a
 have c2 := Vu b
 refine Am fun B => ?_
 repeat' (first | refine Al ?_ | (refine Ay ?_; first | refine cz (c1) ?_ | refine cz (c2) ?_) | refine Ak ?_ | refine nc ?_ ?_ | (with_reducible intro _ <;> (try (exfalso; omega))) | refine Ad ?_ | (refine nd ?_ ?_ <;> intro hg <;> first | exact xo hg | rw [hg]))
 all_goals (simp only [I6]; simp_all; try omega)
def orZ (a b c : Int) : Int := if a ≠ 0 then a else if b ≠ 0 then b else c
theorem X6 (a b c : Int) : VP Tryz.prog 168 [.sl false false [[Ar a], [Ar b], [Ar c]]] (· = .ret (Ar (orZ a b c))) := by
 have hl : ([[Ar a], [Ar b], [Ar c]] : List (List D)).length = 3 := rfl
 refine Am fun B => ?_
 repeat' (first | refine Al ?_ | refine Ak ?_ | refine nc ?_ ?_ | (with_reducible intro _ <;> (try (exfalso; omega))) | refine Ad ?_ | (refine nd ?_ ?_ <;> intro hg <;> first | exact xo hg | rw [hg]))
 refine AF 4 ?_
 repeat' (first | refine Al ?_ | refine Ak ?_ | refine nc ?_ ?_ | (with_reducible intro _ <;> (try (exfalso; omega))) | refine Ad ?_ | (refine nd ?_ ?_ <;> intro hg <;> first | exact xo hg | rw [hg]))
 all_goals (simp only [orZ]; simp_all)
def Pe (a b : Bk) : Int := if a = b then 0 else orZ (I6 a.t b.t) (I6 a.s b.s) (I6 a.q b.q)
theorem VS (a b : Bk) : decide (Pe a b < 0) = HZ a b := by
 obtain ⟨t, s, q⟩ := a
 obtain ⟨t', s', q'⟩ := b
 simp only [Pe, HZ, orZ, I6, Bk.mk.injEq]
 repeat' split
 all_goals (simp; try omega)
theorem QD (a b : Bk) : VP Tryz.prog 122 [.agg (F9 a), .agg (F9 b)] (· = .ret (Ar (Pe a b))) := by
 have c1 := V8 a.t b.t
 have c2 := Aav a.s b.s
 have c3 := V8 a.q b.q
 have c4 := X6 (I6 a.t b.t) (I6 a.s b.s) (I6 a.q b.q)
 have he := Pd a b
 simp only [Pe]
 simp only [F9] at *
 generalize I6 a.t b.t = z1 at *
 generalize I6 a.s b.s = z2 at *
 generalize I6 a.q b.q = z3 at *
 refine Am fun B => ?_
 repeat' (first | refine CW ?_ | refine GU ?_ | refine Al ?_ | (refine Ay ?_; first | refine cz (c1) ?_ | refine cz (c2) ?_ | refine cz (c3) ?_ | refine cz (c4) ?_) | refine Ak ?_ | refine nc ?_ ?_ | (with_reducible intro _ <;> (try (exfalso; omega))) | refine Ad ?_ | (refine nd ?_ ?_ <;> intro hg <;> first | exact xo hg | rw [hg]))
 all_goals simp_all
theorem RX (a b : Bk) : VP Tryz.prog 80 [.agg (F9 a), .agg (F9 b)] (· = .ret (.lit (.bool (HZ a b)))) := by
 have c := QD a b
 rw [← VS]
 generalize Pe a b = z at *
 simp only [F9] at *
 refine Am fun B => ?_
 repeat' (first | refine Al ?_ | (refine Ay ?_; first | refine cz (c) ?_) | refine Ak ?_ | refine nc ?_ ?_ | (with_reducible intro _ <;> (try (exfalso; omega))) | refine Ad ?_ | (refine nd ?_ ?_ <;> intro hg <;> first | exact xo hg | rw [hg]))
 all_goals rfl
theorem Rn (a b : Bk) : VP Tryz.prog 67 [.agg (F9 a), .agg (F9 b)] (· = .ret (.lit (.bool (HZ a b)))) := by
 simp only [HZ]
 simp only [F9] at *
 refine Am fun B => ?_
 repeat' (first | refine Al ?_ | refine Ak ?_ | refine nc ?_ ?_ | (with_reducible intro _ <;> (try (exfalso; omega))) | refine Ad ?_ | (refine nd ?_ ?_ <;> intro hg <;> first | exact xo hg | rw [hg]))
 all_goals (simp only [R.ret.injEq, D.lit.injEq, Value.bool.injEq]; repeat' split) <;> (first | omega | (rw [decide_eq_decide]; omega) | rw [decide_eq_decide])

set_option maxRecDepth 20000
set_option maxRecDepth 10000
abbrev Iu (l : List BL) : D := .sl false false (l.map CI)
instance AcB (l : List BL) : CC (l.map CI) (l.map CI) := BS l _ _ (fun _ => inferInstance) (fun _ => rfl)
instance AbQ (l : List BL) : FI (l.map CI) := HI l _
theorem Dl (l : List BL) : (l.map CI).length = l.length := List.length_map _
theorem YQ (l : List BL) : ∀ x ∈ l.map CI, x.length = 4 := fun x hx => by
 obtain ⟨y, _, rfl⟩ := List.mem_map.1 hx; rfl
theorem N8 (c d : BL) : decide ([(c.r.toNat : Int), c.g.toNat, c.b.toNat, c.a.toNat] = [(d.r.toNat : Int), d.g.toNat, d.b.toNat, d.a.toNat]) = decide (c = d) := by
 obtain ⟨r, g, b, a⟩ := c
 obtain ⟨r', g', b', a'⟩ := d
 rw [decide_eq_decide]
 simp only [List.cons.injEq, and_true, BL.mk.injEq, Int.natCast_inj, UInt8.toNat_inj]
theorem SL (a b : List BL) : VP Tryz.prog 123 [Iu a, Iu b] (· = .ret (.lit (.bool (decide (a = b))))) := by
 refine Am fun B => ?_
 have hb := Dl b
 have ha := Dl a
 repeat' (first | refine Al ?_ | refine Ak ?_ | refine nc ?_ ?_ | (with_reducible intro _ <;> (try (exfalso; omega))) | refine Ad ?_ | (refine nd ?_ ?_ <;> intro hg <;> first | exact xo hg | rw [hg]))
 ·rw [decide_eq_false (fun h => by subst h; omega)]
 ·refine Bi 0 a CI (fun (i : Nat) (_ : Unit) => ⟨[(13, I .i64 i), (12, I .i64 (a.map CI).length), (0, .d (Iu a)), (1, .d (Iu b))], [], 0⟩) (fun i _ => decide (a = b) = decide (a.drop i = b.drop i)) () (AI) rfl (fun i y x hT hi hx hx' hlt hlm hlen hdr => ?_) (fun y hT hlt hlm => ?_)
  ·have hlb : i < b.length := by omega
   have hb' : b[i]? = some b[i] := List.getElem?_eq_getElem hlb
   have hbd := List.drop_eq_getElem_cons hlb
   generalize b[i] = z at *
   have hbx : (b.map CI)[((i : Nat) : Int).toNat]? = some (CI z) := by simp [hb']
   have he := N8 x z
   rw [hdr, hbd] at hT
   by_cases hxz : x = z
   ·rw [decide_eq_true hxz] at he
    repeat' (first | refine Al ?_ | refine Ak ?_ | refine nc ?_ ?_ | (with_reducible intro _ <;> (try (exfalso; omega))) | refine Ad ?_ | (refine nd ?_ ?_ <;> intro hg <;> first | exact xo hg | rw [hg]))
    refine Be () hi ?_ (AI)
    rw [hT, hxz]; simp
   ·rw [decide_eq_false hxz] at he
    repeat' (first | refine Al ?_ | refine Ak ?_ | refine nc ?_ ?_ | (with_reducible intro _ <;> (try (exfalso; omega))) | refine Ad ?_ | (refine nd ?_ ?_ <;> intro hg <;> first | exact xo hg | rw [hg]))
    rw [hT, decide_eq_false (fun h => hxz (List.cons.inj h).1)]
  ·repeat' (first | refine Al ?_ | refine Ak ?_ | refine nc ?_ ?_ | (with_reducible intro _ <;> (try (exfalso; omega))) | refine Ad ?_ | (refine nd ?_ ?_ <;> intro hg <;> first | exact xo hg | rw [hg]))
   rw [hT, List.drop_of_length_le (Nat.le_refl _), List.drop_of_length_le (by omega), decide_eq_true rfl]
theorem M7 (l : List BL) (hb : l.length ≤ 1000000) : VP Tryz.prog 32 [Iu l] (· = .ret (.sl false true (l.map CI))) := by
 have hl := Dl l
 have hz := YQ l
 refine VP.le ?_
 refine Am fun B => ?_
 repeat' (first | refine Al ?_ | refine Ak ?_ | refine nc ?_ ?_ | (with_reducible intro _ <;> (try (exfalso; omega))) | refine Ad ?_ | (refine nd ?_ ?_ <;> intro hg <;> first | exact xo hg | rw [hg]))
 ·have : l = [] := List.eq_nil_of_length_eq_zero (by simp_all)
  subst this
  exact QI
 ·exact AP _
def Jm (o p : Bb) : Bool := decide (o.w = p.w) && decide (o.h = p.h) && decide (o.px = p.px)
theorem TR (o p : Bb) : VP Tryz.prog 83 [.agg [Ar o.w, Ar o.h, Iu o.px], .agg [Ar p.w, Ar p.h, Iu p.px]] (· = .ret (.lit (.bool (Jm o p)))) := by
 have c := SL o.px p.px
 simp only [Jm]
 generalize decide (o.px = p.px) = r at *
 refine Am fun B => ?_
 repeat' (first | refine Al ?_ | (refine Ay ?_; first | refine cz (c) ?_) | refine Ak ?_ | refine nc ?_ ?_ | (with_reducible intro _ <;> (try (exfalso; omega))) | refine Ad ?_ | (refine nd ?_ ?_ <;> intro hg <;> first | exact xo hg | rw [hg]))
 all_goals simp_all
theorem R0 (o : Bb) : VP Tryz.prog 81 [.agg (oD o)] (· = .ret (.agg [Ar o.x, Ar o.y])) := by
 simp only [oD, De]
 refine Am fun B => ?_
 repeat' (first | refine Al ?_ | refine Ak ?_ | refine nc ?_ ?_ | (with_reducible intro _ <;> (try (exfalso; omega))) | refine Ad ?_ | (refine nd ?_ ?_ <;> intro hg <;> first | exact xo hg | rw [hg]))
 all_goals rfl
theorem Yq (o : Bb) : VP Tryz.prog 82 [.agg (oD o)] (· = .ret (.agg [Ar o.x2, Ar o.y2])) := by
 simp only [oD, De]
 refine Am fun B => ?_
 repeat' (first | refine Al ?_ | refine Ak ?_ | refine nc ?_ ?_ | (with_reducible intro _ <;> (try (exfalso; omega))) | refine Ad ?_ | (refine nd ?_ ?_ <;> intro hg <;> first | exact xo hg | rw [hg]))
 all_goals rfl

set_option maxRecDepth 20000
theorem NP {m nb nb' : Nat} {st : List E} {r r' : RC} {st' : List E} {nw : Bool} {ver : Nat} {e : TypeId} {sz : Nat} {l : List (List D)} (k : Nat) (hr : AB k st = some (true, nw, ver, e, sz, l)) (h : Gn m r' st' nb' r (.r false nw k ver e sz l :: st) nb) : Gn m r' st' nb' r st nb := fun B g w e' hs hi hr' => by
 obtain ⟨g1, h1, h2, h3⟩ := Lv hi hs hr
 obtain ⟨g2, k1, k2⟩ := h B g1 w e' h2 h3 (by
  cases r with
  | ret v => obtain ⟨u, e, hu⟩ := hr'; exact ⟨u, e, h1.vrep hu⟩
  | panic v => obtain ⟨u, e, hu⟩ := hr'; exact ⟨u, e, h1.vrep hu⟩)
 exact ⟨g2, (h1.ext False m).trans2 k1, k2⟩
theorem Ud {n : Nat} {ρ : Ren} {st : List E} {y : D} {v : V} (h : Fw st v = some y) : KH n ρ st (.d y) v := fun B g w u k hu => by
 have := ED k h hu
 simp only [vrep]
 exact A7 (Nat.le_refl _) (fun b _ hb => ⟨CX hb, rfl⟩) this
theorem Gt {m nb nb' : Nat} {v v' : V} {st st' : List E} (ρ : Ren) (hv : KH nb' ρ st v' v := by ((repeat' (first | exact trivial | exact Dr | refine CF ?_ ?_ | exact Dt | exact EL | exact Dp rfl | exact Dn rfl rfl | exact CE rfl rfl | refine Du ?_ | refine Dm ?_ | refine Ds ?_ | refine EJ ?_ ?_ | exact EI | exact Dq | exact EK | exact EH rfl | exact EG rfl | refine ⟨⟨rfl, _, rfl, ?_⟩, ?_⟩ | exact Ud rfl | exact GE rfl (by infer_instance) | refine ⟨⟨_, rfl, ?_⟩, ?_⟩ | refine ⟨⟨rfl, .inl ⟨rfl, _, _, rfl, rfl⟩⟩, ?_⟩ | refine ⟨⟨rfl, .inr ⟨rfl, rfl, rfl⟩⟩, ?_⟩ | refine ⟨⟨rfl, _, rfl, ?_⟩, ?_⟩ | refine ⟨?_, ?_⟩)); fail_if_success (focus skip))) (h2 : Jf nb' ρ st st' := by ((repeat' (first | exact trivial | exact Dr | refine CF ?_ ?_ | exact Dt | exact EL | exact Dp rfl | exact Dn rfl rfl | exact CE rfl rfl | refine Du ?_ | refine Dm ?_ | refine Ds ?_ | refine EJ ?_ ?_ | exact EI | exact Dq | exact EK | exact EH rfl | exact EG rfl | refine ⟨⟨rfl, _, rfl, ?_⟩, ?_⟩ | exact Ud rfl | exact GE rfl (by infer_instance) | refine ⟨⟨_, rfl, ?_⟩, ?_⟩ | refine ⟨⟨rfl, .inl ⟨rfl, _, _, rfl, rfl⟩⟩, ?_⟩ | refine ⟨⟨rfl, .inr ⟨rfl, rfl, rfl⟩⟩, ?_⟩ | refine ⟨⟨rfl, _, rfl, ?_⟩, ?_⟩ | refine ⟨?_, ?_⟩)); fail_if_success (focus skip))) (hρ : GF m ρ = true := by first | rfl | decide) (h3 : Nat.ble m nb' = true := by rfl) : Gn m (.ret v') st' nb' (.ret v) st nb := OE ρ hv h2 hρ h3

end Go.Proofs.YtbgcjnfhadhjeaaGreat