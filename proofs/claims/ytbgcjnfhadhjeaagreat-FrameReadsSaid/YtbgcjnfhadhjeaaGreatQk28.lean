/- Walks by data and names, part 28: A part of a variable is stored, in a region that draws its order: the rest of it stays known. The document's layer 12, by V: what a kind uses, which operations may be. Layer 12, by V: what a kind uses, which operations are the same. -/
import Derived.Test.YtbgcjnfhadhjeaaGreatQk20
import Derived.Test.YtbgcjnfhadhjeaaGreatQk27
import Derived.Test.YtbgcjnfhadhjeaaGreatQk23
namespace Go.Proofs.YtbgcjnfhadhjeaaGreat
set_option maxRecDepth 20000
open Go.RowKit
theorem PG {B : Nat} {g : G} {w : World} {st : List E} {k o0 n : Nat} {mrg : List V} (h : AC B g w st) (hm : AM k o0 st n = some mrg) : AC B g w [.c k o0 mrg] := by
 refine ⟨fun {i o x} hc => h.cell ?_, fun hr => (by simp only [Az] at hr; cases hr), fun hl => (by simp only [Au] at hl; cases hl)⟩
 simp only [Aq] at hc
 split at hc
 ·rename_i hb
  have := Nat.eq_of_beq_eq_true hb
  subst this
  split at hc
  ·rename_i ho
   split at hc
   ·rename_i v hv
    cases hc
    have := FK hm hv
    have ho := Nat.le_of_ble_eq_true ho
    rwa [show o0 + (o - o0) = o by omega] at this
   ·cases hc
  ·cases hc
 ·cases hc
section
variable {P : Program} {cx : Cx}
theorem V0 {tm : List (Nat × V)} {st : List E} {t ty : TypeId} {x y : Operand} {k off sz o0 n : Nat} {ag : Bool} {z : List Value} {v : V} {vs old all mrg : List V} {pos : String} {af : Array Edge} [hT : BE P t ag (sz + 1) z] (hx : ∀ nb, Af ⟨tm, st, nb⟩ x = some (.ptr k off)) (hy : ∀ nb, Af ⟨tm, st, nb⟩ y = some v) (hv : Bt v = some vs) (hl : vs.length = sz + 1) (h1 : Ca vs = true)
  (hold : AM k off (.c k o0 all :: st) (sz + 1) = some old) (hm : AM k o0 [.c k off vs, .c k o0 all] n = some mrg) (_ : Dt k st = true) :
  OpC P cx ⟨none, .store t x y, ty, pos, af, none⟩ tm st k (.c k o0 all) (.d .any) (.c k o0 mrg) := fun m nb g a w K Qx hS hE0 hK => by
 obtain ⟨w', r1, r2, r3, r4⟩ := Ip (hT := hT) (ty := ty) (s := ⟨tm, .c k o0 all :: st, nb⟩) (hx nb) (hy nb) hv hl h1 hold hS
 refine ⟨fun _ _ => trivial, ?_⟩
 rw [Oper.semAt_plain (FW cx.rd) _ _ (by intro c e; cases e), Bn, r1]
 exact hK undef g w' r2 (fun _ _ => ⟨rfl, rfl, rfl⟩) (fun st' hn hs => KU (r4 st' hs) hn) (PG (r4 _ hE0) hm) r3 (by simp only [vrep, drep])
theorem Fe (o0 n : Nat) {l : List Oper} {tm0 : List (Nat × V)} {tm : List (Nat × V)} {st AO stO : List E} {nb nb0 : Nat} {ds : List Nat} {hd tl : List Oper} {i : Nat} {acc : List Ac} {Q : VE → St → Prop} {t' ty : TypeId} {x y : Operand} {k' off sz : Nat} {ag : Bool} {z : List Value} {v : V} {vs old all mrg : List V} {pos : String} {af : Array Edge} {vis : List E} {tmI : List (Nat × V)} [hT : BE P t' ag (sz + 1) z]
  (kk : VD P cx l tm0 AO stO nb0 ds Q hd tl (i + 1) (⟨i, 1000000 + i, .d .any, [.c k' o0 mrg], vis, none, some (k', .c k' o0 all), [.c k' o0 mrg], none⟩ :: acc) ((1000000 + i, .d .any) :: tm) (.c k' o0 mrg :: st) nb)
  (hsel : ED af.toList ds acc tm0 (Ct (Op.store t' x y).operands.toList) = some tmI := by rfl) (hvis : E3 acc af.toList = some vis := by rfl)
  (hx : ∀ nb, Af ⟨tmI, vis ++ AO, nb⟩ x = some (.ptr k' off) := by intro _; rfl) (hy : ∀ nb, Af ⟨tmI, vis ++ AO, nb⟩ y = some v := by intro _; rfl) (hv : Bt v = some vs := by rfl) (hl : vs.length = sz + 1 := by rfl) (h1 : Ca vs = true := by rfl)
  (hall : AM k' o0 stO n = some all := by rfl) (hold : AM k' off (.c k' o0 all :: (vis ++ AO)) (sz + 1) = some old := by rfl) (hm : AM k' o0 [.c k' off vs, .c k' o0 all] n = some mrg := by rfl)
  (hnk : Dt k' (vis ++ AO) = true := by rfl) (hk : Nat.blt k' nb0 = true := by rfl) (hn0 : Dt k' AO = true := by rfl) (hnc : XR k' acc = true := by rfl) (hds : C5 (1000000 + i) ds = true := by rfl) (hfa : CM (1000000 + i) acc = none := by rfl) :
  VD P cx l tm0 AO stO nb0 ds Q (⟨none, .store t' x y, ty, pos, af, none⟩ :: hd) tl i acc tm st nb :=
 KM kk (.inr ⟨rfl, rfl⟩) hds hfa hsel hvis trivial (V0 hx hy hv hl h1 hold hm hnk) hn0 HT HT (.inl rfl) (.inl ⟨rfl, ⟨Nat.le_of_ble_eq_true hk, YW n hall⟩, hnc⟩)
end

set_option maxRecDepth 10000
set_option maxHeartbeats 4000000
inductive Fd
 | x
 | y
 | x2
 | y2
 | z
 | c
 | s
 | t
deriving DecidableEq
def Fd.nm : Fd → List UInt8
 | .x => [88]
 | .y => [89]
 | .x2 => [88, 50]
 | .y2 => [89, 50]
 | .z => [83, 105, 122, 101]
 | .c => [67, 111, 108, 111, 114]
 | .s => [83, 116, 97, 109, 112]
 | .t => [84, 97, 114, 103, 101, 116]
def A2 (k : Int) : Fd → Bool
 | .x | .y => decide (1 ≤ k) && decide (k ≤ 6)
 | .x2 | .y2 => decide (1 ≤ k) && decide (k ≤ 4)
 | .z => decide (k = 1) || decide (k = 2) || decide (k = 5)
 | .c => decide (1 ≤ k) && decide (k ≤ 5)
 | .s => decide (k = 6)
 | .t => decide (k = 7) || decide (k = 8)
abbrev MK (f : Fd) : D := .lit (By f.nm)
theorem AW (k : Int) (f : Fd) : VP Tryz.prog 161 [An k, MK f] (· = .ret (.lit (.bool (A2 k f)))) := by
 cases f
 all_goals
  simp only [MK, Fd.nm, A2]
  refine Al fun B => ?_
  repeat' (first | refine Ai ?_ | refine Ah ?_ | refine nc ?_ ?_ | (with_reducible intro _ <;> (try (exfalso; omega))) | refine Aa ?_ | (refine nd ?_ ?_ <;> intro hg <;> first | exact xo hg | rw [hg]))
 all_goals (simp_all; try omega)
theorem T6 (w h : Int) : VP Tryz.prog 162 [An w, An h] (· = .ret (.lit (.bool (BQ w && BQ h)))) := by
 simp only [BQ]
 refine Al fun B => ?_
 repeat' (first | refine Ai ?_ | refine Ah ?_ | refine nc ?_ ?_ | (with_reducible intro _ <;> (try (exfalso; omega))) | refine Aa ?_ | (refine nd ?_ ?_ <;> intro hg <;> first | exact xo hg | rw [hg]))
 all_goals (simp_all; try omega)
theorem PK (o : A5) (_ : o.px.length ≤ 1000000) : VP Tryz.prog 108 [.agg [An o.w, An o.h, Jg o.px]] (· = .ret (.lit (.bool (QT o)))) := by
 have c := T6 o.w o.h
 have hpl := EL o.px
 simp only [QT]
 by_cases hs : BQ o.w = true ∧ BQ o.h = true
 ·have h1 := hs.1
  have h2 := hs.2
  simp only [BQ, Bool.and_eq_true, decide_eq_true_eq] at h1 h2
  have hm : 0 ≤ o.w * o.h ∧ o.w * o.h ≤ 64 := ⟨Int.mul_nonneg (by omega) (by omega), by
   have := Int.mul_le_mul h1.2 h2.2 (by omega) (by omega : (0 : Int) ≤ 8); omega⟩
  simp only [hs.1, hs.2, Bool.and_self, Bool.true_and] at c ⊢
  refine Al fun B => ?_
  repeat' (first | refine Ai ?_ | (refine As ?_; first | refine cz (c) ?_) | refine Ah ?_ | refine nc ?_ ?_ | (with_reducible intro _ <;> (try (exfalso; omega))) | refine Aa ?_ | (refine nd ?_ ?_ <;> intro hg <;> first | exact xo hg | rw [hg]))
  rw [hpl]
 ·have hf : (BQ o.w && BQ o.h) = false := by
   cases e : (BQ o.w && BQ o.h)
   ·rfl
   ·exact (hs (by simpa using e)).elim
  simp only [hf, Bool.false_and] at c ⊢
  refine Al fun B => ?_
  repeat' (first | refine Ai ?_ | (refine As ?_; first | refine cz (c) ?_) | refine Ah ?_ | refine nc ?_ ?_ | (with_reducible intro _ <;> (try (exfalso; omega))) | refine Aa ?_ | (refine nd ?_ ?_ <;> intro hg <;> first | exact xo hg | rw [hg]))
  all_goals rfl
theorem Sg (o p : A5) : VP Tryz.prog 124 [.agg [An o.w, An o.h, Jg o.px], .agg [An p.w, An p.h, Jg p.px]] (· = .ret (.lit (.bool (Jv o p)))) := by
 have ha := EL o.px
 have hb := EL p.px
 simp only [Jv]
 refine Al fun B => ?_
 repeat' (first | refine Ai ?_ | refine Ah ?_ | refine nc ?_ ?_ | (with_reducible intro _ <;> (try (exfalso; omega))) | refine Aa ?_ | (refine nd ?_ ?_ <;> intro hg <;> first | exact xo hg | rw [hg]))
 ·simp [*]
 ·simp [*]
 ·rename_i hne
  rw [decide_eq_false (fun h : o.px = p.px => by rw [h] at hne; exact hne rfl)]; simp
 ·refine Bo 29 o.px Cq (fun (i : Nat) (_ : Unit) => ⟨[(31, I .i64 i), (30, I .i64 (o.px.map Cq).length), (29, .d (Jg o.px)), (3, .ptr 1 0), (2, .ptr 0 0)], [.c 1 0 [.d (An p.w), .d (An p.h), .d (Jg p.px)]], 2⟩) (fun i _ => decide (o.px = p.px) = decide (o.px.drop i = p.px.drop i)) () (AE) rfl (fun i y x hT hi hx hx' hlt hlm hlen hdr => ?_) (fun y hT hlt hlm => ?_)
  ·have hlb : i < p.px.length := by omega
   have hb' : p.px[i]? = some p.px[i] := List.getElem?_eq_getElem hlb
   have hbd := List.drop_eq_getElem_cons hlb
   generalize p.px[i] = z at *
   have hbx : (p.px.map Cq)[((i : Nat) : Int).toNat]? = some (Cq z) := by simp [hb']
   have he := NU x z
   rw [hdr, hbd] at hT
   by_cases hxz : x = z
   ·rw [decide_eq_true hxz] at he
    repeat' (first | refine Ai ?_ | refine Ah ?_ | refine nc ?_ ?_ | (with_reducible intro _ <;> (try (exfalso; omega))) | refine Aa ?_ | (refine nd ?_ ?_ <;> intro hg <;> first | exact xo hg | rw [hg]))
    refine Bd () hi ?_ (AE)
    rw [hT, hxz]; simp
   ·rw [decide_eq_false hxz] at he
    repeat' (first | refine Ai ?_ | refine Ah ?_ | refine nc ?_ ?_ | (with_reducible intro _ <;> (try (exfalso; omega))) | refine Aa ?_ | (refine nd ?_ ?_ <;> intro hg <;> first | exact xo hg | rw [hg]))
    rw [hT, decide_eq_false (fun h => hxz (List.cons.inj h).1)]; simp
  ·repeat' (first | refine Ai ?_ | refine Ah ?_ | refine nc ?_ ?_ | (with_reducible intro _ <;> (try (exfalso; omega))) | refine Aa ?_ | (refine nd ?_ ?_ <;> intro hg <;> first | exact xo hg | rw [hg]))
   rw [hT, List.drop_of_length_le (Nat.le_refl _), List.drop_of_length_le (by omega)]; simp_all
theorem MD (a b : A5) : VP Tryz.prog 84 [.agg (oD a), .agg (oD b)] (· = .ret (.lit (.bool (decide (a = b))))) := by
 have cs := Sg a b
 have e1 := O7 a.id b.id
 have e2 := O7 a.tg b.tg
 have e3 := NU a.c b.c
 have he : a = b ↔ a.id = b.id ∧ a.k = b.k ∧ a.x = b.x ∧ a.y = b.y ∧ a.x2 = b.x2 ∧ a.y2 = b.y2 ∧ a.z = b.z ∧ a.c = b.c ∧ a.w = b.w ∧ a.h = b.h ∧ a.px = b.px ∧ a.tg = b.tg := by cases a; cases b; simp
 simp only [oD, C6] at *
 refine Al fun B => ?_
 repeat' (first | refine Ai ?_ | (refine As ?_; first | refine cz (cs) ?_) | refine Ah ?_ | refine nc ?_ ?_ | (with_reducible intro _ <;> (try (exfalso; omega))) | refine Aa ?_ | (refine nd ?_ ?_ <;> intro hg <;> first | exact xo hg | rw [hg]))
 all_goals (clear cs e1 e2 e3; simp only [he, Jv]; simp_all; try simp [Bool.and_assoc])
theorem PB : vb 0 = .int .u8 0 := rfl
theorem Fx : ((0 : Nat) : Int) = 0 := rfl
theorem Ty {k : Int} (h : k = 1 ∨ k = 2) : A2 k .x = true ∧ A2 k .y = true ∧ A2 k .x2 = true ∧ A2 k .y2 = true ∧ A2 k .z = true ∧ A2 k .c = true ∧ A2 k .s = false ∧ A2 k .t = false := by rcases h with rfl | rfl <;> decide
theorem Tx {k : Int} (h : k = 3 ∨ k = 4) : A2 k .x = true ∧ A2 k .y = true ∧ A2 k .x2 = true ∧ A2 k .y2 = true ∧ A2 k .z = false ∧ A2 k .c = true ∧ A2 k .s = false ∧ A2 k .t = false := by rcases h with rfl | rfl <;> decide
theorem Tw {k : Int} (h : k = 5) : A2 k .x = true ∧ A2 k .y = true ∧ A2 k .x2 = false ∧ A2 k .y2 = false ∧ A2 k .z = true ∧ A2 k .c = true ∧ A2 k .s = false ∧ A2 k .t = false := by subst h; decide
theorem Tv {k : Int} (h : k = 6) : A2 k .x = true ∧ A2 k .y = true ∧ A2 k .x2 = false ∧ A2 k .y2 = false ∧ A2 k .z = false ∧ A2 k .c = false ∧ A2 k .s = true ∧ A2 k .t = false := by subst h; decide
theorem Tu {k : Int} (h : k = 7 ∨ k = 8) : A2 k .x = false ∧ A2 k .y = false ∧ A2 k .x2 = false ∧ A2 k .y2 = false ∧ A2 k .z = false ∧ A2 k .c = false ∧ A2 k .s = false ∧ A2 k .t = true := by rcases h with rfl | rfl <;> decide
theorem Zq {k : Int} (h : k < 1 ∨ 8 < k) : A2 k .x = false ∧ A2 k .y = false ∧ A2 k .x2 = false ∧ A2 k .y2 = false ∧ A2 k .z = false ∧ A2 k .c = false ∧ A2 k .s = false ∧ A2 k .t = false := by
 simp [A2]; omega
theorem T8 (o : A5) : VP Tryz.prog 107 [.agg (oD o)] (· = .ret (.agg (oD (BL o)))) := by
 have u1 := AW o.k .x
 have u2 := AW o.k .x2
 have u3 := AW o.k .z
 have u4 := AW o.k .c
 have u5 := AW o.k .s
 have u6 := AW o.k .t
 refine VP.le ?_
 rcases YM o.k with hk | hk | hk | hk | hk | hk
 ·skip
  rw [Rn hk]
  obtain ⟨n1, n2, n3, n4, n5, n6, n7, n8⟩ := Ty hk
  rw [n1] at u1
  rw [n3] at u2
  rw [n5] at u3
  rw [n6] at u4
  rw [n7] at u5
  rw [n8] at u6
  clear n1 n2 n3 n4 n5 n6 n7 n8 hk
  simp only [oD, C6, MK, Fd.nm] at *
  refine Al fun B => ?_
  repeat' (first | refine Fe 0 19 ?_ | refine Bw (id := 3) [2] ?_ | refine Bw (id := 5) [2] ?_ | refine Ai ?_ | (refine As ?_; first | refine cz (u1) ?_ | refine cz (u2) ?_ | refine cz (u3) ?_ | refine cz (u4) ?_ | refine cz (u5) ?_ | refine cz (u6) ?_) | refine Ah ?_ | refine nc ?_ ?_ | (with_reducible intro _ <;> (try (exfalso; omega))) | refine Aa ?_ | (refine nd ?_ ?_ <;> intro hg <;> first | exact xo hg | rw [hg]))
  all_goals (simp only [Cm, Ba.zero, Fx, List.map_nil]; infer_instance)
 ·skip
  rw [Rm hk]
  obtain ⟨n1, n2, n3, n4, n5, n6, n7, n8⟩ := Tx hk
  rw [n1] at u1
  rw [n3] at u2
  rw [n5] at u3
  rw [n6] at u4
  rw [n7] at u5
  rw [n8] at u6
  clear n1 n2 n3 n4 n5 n6 n7 n8 hk
  simp only [oD, C6, MK, Fd.nm] at *
  refine Al fun B => ?_
  repeat' (first | refine Fe 0 19 ?_ | refine Bw (id := 3) [2] ?_ | refine Bw (id := 5) [2] ?_ | refine Ai ?_ | (refine As ?_; first | refine cz (u1) ?_ | refine cz (u2) ?_ | refine cz (u3) ?_ | refine cz (u4) ?_ | refine cz (u5) ?_ | refine cz (u6) ?_) | refine Ah ?_ | refine nc ?_ ?_ | (with_reducible intro _ <;> (try (exfalso; omega))) | refine Aa ?_ | (refine nd ?_ ?_ <;> intro hg <;> first | exact xo hg | rw [hg]))
  all_goals (simp only [Cm, Ba.zero, Fx, List.map_nil]; infer_instance)
 ·skip
  rw [Rl hk]
  obtain ⟨n1, n2, n3, n4, n5, n6, n7, n8⟩ := Tw hk
  rw [n1] at u1
  rw [n3] at u2
  rw [n5] at u3
  rw [n6] at u4
  rw [n7] at u5
  rw [n8] at u6
  clear n1 n2 n3 n4 n5 n6 n7 n8 hk
  simp only [oD, C6, MK, Fd.nm] at *
  refine Al fun B => ?_
  repeat' (first | refine Fe 0 19 ?_ | refine Bw (id := 3) [2] ?_ | refine Bw (id := 5) [2] ?_ | refine Ai ?_ | (refine As ?_; first | refine cz (u1) ?_ | refine cz (u2) ?_ | refine cz (u3) ?_ | refine cz (u4) ?_ | refine cz (u5) ?_ | refine cz (u6) ?_) | refine Ah ?_ | refine nc ?_ ?_ | (with_reducible intro _ <;> (try (exfalso; omega))) | refine Aa ?_ | (refine nd ?_ ?_ <;> intro hg <;> first | exact xo hg | rw [hg]))
  all_goals (simp only [Cm, Ba.zero, Fx, List.map_nil]; infer_instance)
 ·skip
  rw [Rk hk]
  obtain ⟨n1, n2, n3, n4, n5, n6, n7, n8⟩ := Tv hk
  rw [n1] at u1
  rw [n3] at u2
  rw [n5] at u3
  rw [n6] at u4
  rw [n7] at u5
  rw [n8] at u6
  clear n1 n2 n3 n4 n5 n6 n7 n8 hk
  simp only [oD, C6, MK, Fd.nm] at *
  refine Al fun B => ?_
  repeat' (first | refine Fe 0 19 ?_ | refine Bw (id := 3) [2] ?_ | refine Bw (id := 5) [2] ?_ | refine Ai ?_ | (refine As ?_; first | refine cz (u1) ?_ | refine cz (u2) ?_ | refine cz (u3) ?_ | refine cz (u4) ?_ | refine cz (u5) ?_ | refine cz (u6) ?_) | refine Ah ?_ | refine nc ?_ ?_ | (with_reducible intro _ <;> (try (exfalso; omega))) | refine Aa ?_ | (refine nd ?_ ?_ <;> intro hg <;> first | exact xo hg | rw [hg]))
  all_goals (simp only [Cm, Ba.zero, BO.zero, PB, Fx]; infer_instance)
 ·skip
  rw [Rj hk]
  obtain ⟨n1, n2, n3, n4, n5, n6, n7, n8⟩ := Tu hk
  rw [n1] at u1
  rw [n3] at u2
  rw [n5] at u3
  rw [n6] at u4
  rw [n7] at u5
  rw [n8] at u6
  clear n1 n2 n3 n4 n5 n6 n7 n8 hk
  simp only [oD, C6, MK, Fd.nm] at *
  refine Al fun B => ?_
  repeat' (first | refine Fe 0 19 ?_ | refine Bw (id := 3) [2] ?_ | refine Bw (id := 5) [2] ?_ | refine Ai ?_ | (refine As ?_; first | refine cz (u1) ?_ | refine cz (u2) ?_ | refine cz (u3) ?_ | refine cz (u4) ?_ | refine cz (u5) ?_ | refine cz (u6) ?_) | refine Ah ?_ | refine nc ?_ ?_ | (with_reducible intro _ <;> (try (exfalso; omega))) | refine Aa ?_ | (refine nd ?_ ?_ <;> intro hg <;> first | exact xo hg | rw [hg]))
  all_goals (simp only [Cm, BO.zero, PB, List.map_nil]; infer_instance)
 ·skip
  rw [Xu hk]
  obtain ⟨n1, n2, n3, n4, n5, n6, n7, n8⟩ := Zq hk
  rw [n1] at u1
  rw [n3] at u2
  rw [n5] at u3
  rw [n6] at u4
  rw [n7] at u5
  rw [n8] at u6
  clear n1 n2 n3 n4 n5 n6 n7 n8 hk
  simp only [oD, C6, MK, Fd.nm] at *
  refine Al fun B => ?_
  repeat' (first | refine Fe 0 19 ?_ | refine Bw (id := 3) [2] ?_ | refine Bw (id := 5) [2] ?_ | refine Ai ?_ | (refine As ?_; first | refine cz (u1) ?_ | refine cz (u2) ?_ | refine cz (u3) ?_ | refine cz (u4) ?_ | refine cz (u5) ?_ | refine cz (u6) ?_) | refine Ah ?_ | refine nc ?_ ?_ | (with_reducible intro _ <;> (try (exfalso; omega))) | refine Aa ?_ | (refine nd ?_ ?_ <;> intro hg <;> first | exact xo hg | rw [hg]))
  all_goals (simp only [Cm, Ba.zero, BO.zero, PB, Fx, List.map_nil]; infer_instance)

set_option maxRecDepth 20000
set_option maxRecDepth 10000
theorem Aax (k : Int) : VP Tryz.prog 115 [An k] (· = .ret (.lit (.bool (decide (1 ≤ k) && decide (k ≤ 8))))) := by
 refine Al fun B => ?_
 repeat' (first | refine Ai ?_ | refine Ah ?_ | refine nc ?_ ?_ | (with_reducible intro _ <;> (try (exfalso; omega))) | refine Aa ?_ | (refine nd ?_ ?_ <;> intro hg <;> first | exact xo hg | rw [hg]))
 all_goals (simp_all; try omega)
theorem UU (k : Int) (h : 1 ≤ k ∧ k ≤ 8) : VP Tryz.prog 119 [An k] (· = .ret (.lit (.bool (decide (k ≤ 6))))) := by
 have c := Aax k
 rw [show (decide (1 ≤ k) && decide (k ≤ 8)) = true by simp; omega] at c
 refine Al fun B => ?_
 repeat' (first | refine Ai ?_ | (refine As ?_; first | refine cz (c) ?_) | refine Ah ?_ | refine nc ?_ ?_ | (with_reducible intro _ <;> (try (exfalso; omega))) | refine Aa ?_ | (refine nd ?_ ?_ <;> intro hg <;> first | exact xo hg | rw [hg]))
 all_goals rfl
abbrev Ga (l : List Fd) : List (List D) := l.map fun f => [MK f]
def MX (k : Int) : List Fd := if k = 1 ∨ k = 2 then [.x, .y, .x2, .y2, .z, .c] else if k = 3 ∨ k = 4 then [.x, .y, .x2, .y2, .c] else if k = 5 then [.x, .y, .z, .c] else if k = 6 then [.x, .y, .s] else if k = 7 ∨ k = 8 then [.t] else []
theorem Y7 : VP Tryz.prog 207 [] (· = .ret (.agg [.lit (.slice none 0 0), .lit .nilFunc, .lit .nilFunc,
  .sl false true (Ga [.x, .y, .x2, .y2, .z, .c]), .any, .any, .sl false true (Ga [.x, .y, .x2, .y2, .z, .c]), .any, .any,
  .sl false true (Ga [.x, .y, .x2, .y2, .c]), .any, .any, .sl false true (Ga [.x, .y, .x2, .y2, .c]), .any, .any,
  .sl false true (Ga [.x, .y, .z, .c]), .any, .any, .sl false true (Ga [.x, .y, .s]), .any, .any,
  .sl false true (Ga [.t]), .any, .any, .sl false true (Ga [.t]), .any, .any])) := by
 refine VP.le ?_
 refine Al fun B => ?_
 repeat' (first | refine Ai ?_ | refine Ah ?_ | refine nc ?_ ?_ | (with_reducible intro _ <;> (try (exfalso; omega))) | refine Aa ?_ | (refine nd ?_ ?_ <;> intro hg <;> first | exact xo hg | rw [hg]))
 all_goals (simp only [Cm, Ga, List.map_cons, List.map_nil, MK, Fd.nm, AQ]; infer_instance)

set_option maxRecDepth 20000
section
variable {P : Program} {cx : Cx} {s : St}
theorem UK {t ty e : TypeId} {x y : Operand} {k0 : IntKind} {i : Int} {n sz : Nat} {z : List Value} {v : V} {vs : List V} [hA : EP P t n e sz] [hT : BE P e true sz z] (hx : Af s x = some v) (hv : Bt v = some vs) (hagg : BT v = false) (hy : Af s y = some (I k0 i)) (h0 : 0 ≤ i) (h1 : i < (n : Int)) : Bq P cx (.index t x y) ty s (.agg ((vs.drop (i.toNat * sz)).take sz)) := fun g a w hS => by
 have hus := CC hv (hS.eval hx)
 have hy' := hS.eval hy
 simp only [vrep, drep] at hy'
 obtain ⟨hu, ie, hie, hsz⟩ := hA.get
 have hag : ∃ cs, a.eval x = .agg cs := by
  have hx' := hS.eval hx
  unfold Bt at hv
  split at hv
  ·simp only [vrep] at hx'; obtain ⟨cs, h, _⟩ := hx'; exact ⟨_, h⟩
  ·simp only [vrep, drep] at hx'; obtain ⟨cs, h, _⟩ := hx'; exact ⟨_, h⟩
  ·rw [hagg] at hv; cases hv
 obtain ⟨cs, hcs⟩ := hag
 rw [hcs] at hus
 simp only [Value.cells] at hus
 have hs : (sizeOf e).run P w = .ok sz w := by simp [sizeOf, typeInfo, hie, hsz]
 obtain ⟨d, q1, q2⟩ := hT.und
 have hag2 : (isAgg e).run P w = .ok true w := by
  unfold isAgg
  rw [Sem.run_bind, run_underlying q1 w]
  cases d <;> simp_all [Mo]
 have hpart : (part e cs (i.toNat * sz)).run P w = .ok (.agg (cs.extract (i.toNat * sz) (i.toNat * sz + sz))) w := by
  simp [part, Sem.run_bind, hag2, sizeOf, typeInfo, hie, hsz]
 refine ⟨.agg (cs.extract (i.toNat * sz) (i.toNat * sz + sz)), by simp [execOp, Instr.index, hcs, hy', asIntOf, run_underlying hu w, hs, h0, h1, hpart], ?_⟩
 simp only [vrep]
 have h1 := (DN (DN hus (i.toNat * sz)).2 sz).1
 refine ⟨(cs.toList.drop (i.toNat * sz)).take sz, ?_, h1⟩
 congr 1
 apply Array.ext'
 simp [List.extract_eq_take_drop]
end
section
variable {P : Program} {cx : Cx} {tm : List (Nat × V)} {st : List E} {nb : Nat} {Q : VE → St → Prop} {ops rest : List Oper}
theorem Mt {d : Tmp} {t ty e : TypeId} {x y : Operand} {k0 : IntKind} {i : Int} {n sz : Nat} {z : List Value} {v : V} {vs : List V} {pos : String} {af : Array Edge} {gd : Option (Nat × Bool)} [hA : EP P t n e sz] [hT : BE P e true sz z] (k : VL P cx ops rest ⟨(d, .agg ((vs.drop (i.toNat * sz)).take sz)) :: tm, st, nb⟩ Q)
  (hx : Af ⟨tm, st, nb⟩ x = some v := by rfl) (hv : Bt v = some vs := by rfl) (hagg : BT v = false := by rfl) (hy : Af ⟨tm, st, nb⟩ y = some (I k0 i) := by rfl) (h0 : 0 ≤ i := by omega) (h1 : i < (n : Int) := by omega) (hd : Nat.blt d cx.N = true := by rfl)
  (hw : Wd ops tm gd := by first | exact trivial | exact A1 rfl rfl (by with_reducible rfl)) : VL P cx ops (⟨some d, .index t x y, ty, pos, af, gd⟩ :: rest) ⟨tm, st, nb⟩ Q := H7 k (IM (h := UK hx hv hagg hy h0 h1) (hd := hd) (hw := hw))
end

set_option maxRecDepth 10000
theorem Ack {k : Int} (h : k = 1 ∨ k = 2) : MX k = [.x, .y, .x2, .y2, .z, .c] := by rcases h with rfl | rfl <;> rfl
theorem Acj {k : Int} (h : k = 3 ∨ k = 4) : MX k = [.x, .y, .x2, .y2, .c] := by rcases h with rfl | rfl <;> rfl
theorem Aci {k : Int} (h : k = 5) : MX k = [.x, .y, .z, .c] := by subst h; rfl
theorem Ach {k : Int} (h : k = 6) : MX k = [.x, .y, .s] := by subst h; rfl
theorem Acg {k : Int} (h : k = 7 ∨ k = 8) : MX k = [.t] := by rcases h with rfl | rfl <;> rfl
theorem Tz (k : Int) (h : 1 ≤ k ∧ k ≤ 8) : VP Tryz.prog 164 [An k] (· = .ret (.sl false true (Ga (MX k)))) := by
 have ci := Aax k
 have cw := Y7
 rw [show (decide (1 ≤ k) && decide (k ≤ 8)) = true by simp; omega] at ci
 have hk : k = 1 ∨ k = 2 ∨ k = 3 ∨ k = 4 ∨ k = 5 ∨ k = 6 ∨ k = 7 ∨ k = 8 := by omega
 rcases hk with rfl | rfl | rfl | rfl | rfl | rfl | rfl | rfl
 all_goals
  refine Al fun B => ?_
  repeat' (first | refine Ai ?_ | (refine As ?_; first | refine cz (ci) ?_ | refine cz (cw) ?_ | refine Mt ?_) | refine Ah ?_ | refine nc ?_ ?_ | (with_reducible intro _ <;> (try (exfalso; omega))) | refine Aa ?_ | (refine nd ?_ ?_ <;> intro hg <;> first | exact xo hg | rw [hg]))
  all_goals rfl
theorem OT (o : A5) (h : 1 ≤ o.k ∧ o.k ≤ 8) (hl : o.px.length ≤ 1000000) : VP Tryz.prog 116 [.agg (oD o)] (· = .ret (.agg (oM (BL o)))) := by
 have cc := SI o.px hl
 refine VP.le ?_
 have h5 : (o.k = 1 ∨ o.k = 2) ∨ (o.k = 3 ∨ o.k = 4) ∨ o.k = 5 ∨ o.k = 6 ∨ (o.k = 7 ∨ o.k = 8) := by omega
 rcases h5 with hk | hk | hk | hk | hk
 ·skip
  rw [Rn hk]
  have cu := Tz o.k (by omega)
  rw [Ack hk] at cu
  have hl : (Ga [.x, .y, .x2, .y2, .z, .c]).length = 6 := rfl
  simp only [Ga, List.map_cons, List.map_nil, MK, Fd.nm] at hl cu
  simp only [oD, C6]
  refine Al fun B => ?_
  repeat' (first | refine Ai ?_ | (refine As ?_; first | refine cz (cu) ?_) | refine Ah ?_ | refine nc ?_ ?_ | (with_reducible intro _ <;> (try (exfalso; omega))) | refine Aa ?_ | (refine nd ?_ ?_ <;> intro hg <;> first | exact xo hg | rw [hg]))
  refine AB (6 + 1) ?_
  repeat' (first | refine Ai ?_ | (refine As ?_; first | refine cz (cc) ?_) | refine Ah ?_ | refine nc ?_ ?_ | (with_reducible intro _ <;> (try (exfalso; omega))) | refine Aa ?_ | (refine nd ?_ ?_ <;> intro hg <;> first | exact xo hg | rw [hg]))
  all_goals (simp only [oM, C6, Cm, Ba.zero, Fx, List.map_nil]; infer_instance)
 ·skip
  rw [Rm hk]
  have cu := Tz o.k (by omega)
  rw [Acj hk] at cu
  have hl : (Ga [.x, .y, .x2, .y2, .c]).length = 5 := rfl
  simp only [Ga, List.map_cons, List.map_nil, MK, Fd.nm] at hl cu
  simp only [oD, C6]
  refine Al fun B => ?_
  repeat' (first | refine Ai ?_ | (refine As ?_; first | refine cz (cu) ?_) | refine Ah ?_ | refine nc ?_ ?_ | (with_reducible intro _ <;> (try (exfalso; omega))) | refine Aa ?_ | (refine nd ?_ ?_ <;> intro hg <;> first | exact xo hg | rw [hg]))
  refine AB (5 + 1) ?_
  repeat' (first | refine Ai ?_ | (refine As ?_; first | refine cz (cc) ?_) | refine Ah ?_ | refine nc ?_ ?_ | (with_reducible intro _ <;> (try (exfalso; omega))) | refine Aa ?_ | (refine nd ?_ ?_ <;> intro hg <;> first | exact xo hg | rw [hg]))
  all_goals (simp only [oM, C6, Cm, Ba.zero, Fx, List.map_nil]; infer_instance)
 ·skip
  rw [Rl hk]
  have cu := Tz o.k (by omega)
  rw [Aci hk] at cu
  have hl : (Ga [.x, .y, .z, .c]).length = 4 := rfl
  simp only [Ga, List.map_cons, List.map_nil, MK, Fd.nm] at hl cu
  simp only [oD, C6]
  refine Al fun B => ?_
  repeat' (first | refine Ai ?_ | (refine As ?_; first | refine cz (cu) ?_) | refine Ah ?_ | refine nc ?_ ?_ | (with_reducible intro _ <;> (try (exfalso; omega))) | refine Aa ?_ | (refine nd ?_ ?_ <;> intro hg <;> first | exact xo hg | rw [hg]))
  refine AB (4 + 1) ?_
  repeat' (first | refine Ai ?_ | (refine As ?_; first | refine cz (cc) ?_) | refine Ah ?_ | refine nc ?_ ?_ | (with_reducible intro _ <;> (try (exfalso; omega))) | refine Aa ?_ | (refine nd ?_ ?_ <;> intro hg <;> first | exact xo hg | rw [hg]))
  all_goals (simp only [oM, C6, Cm, Ba.zero, Fx, List.map_nil]; infer_instance)
 ·skip
  rw [Rk hk]
  have cu := Tz o.k (by omega)
  rw [Ach hk] at cu
  have hl : (Ga [.x, .y, .s]).length = 3 := rfl
  simp only [Ga, List.map_cons, List.map_nil, MK, Fd.nm] at hl cu
  simp only [oD, C6]
  refine Al fun B => ?_
  repeat' (first | refine Ai ?_ | (refine As ?_; first | refine cz (cu) ?_) | refine Ah ?_ | refine nc ?_ ?_ | (with_reducible intro _ <;> (try (exfalso; omega))) | refine Aa ?_ | (refine nd ?_ ?_ <;> intro hg <;> first | exact xo hg | rw [hg]))
  refine AB (3 + 1) ?_
  repeat' (first | refine Ai ?_ | (refine As ?_; first | refine cz (cc) ?_) | refine Ah ?_ | refine nc ?_ ?_ | (with_reducible intro _ <;> (try (exfalso; omega))) | refine Aa ?_ | (refine nd ?_ ?_ <;> intro hg <;> first | exact xo hg | rw [hg]))
  all_goals (simp only [oM, C6, Cm, Ba.zero, BO.zero, PB, Fx]; infer_instance)
 ·skip
  rw [Rj hk]
  have cu := Tz o.k (by omega)
  rw [Acg hk] at cu
  have hl : (Ga [.t]).length = 1 := rfl
  simp only [Ga, List.map_cons, List.map_nil, MK, Fd.nm] at hl cu
  simp only [oD, C6]
  refine Al fun B => ?_
  repeat' (first | refine Ai ?_ | (refine As ?_; first | refine cz (cu) ?_) | refine Ah ?_ | refine nc ?_ ?_ | (with_reducible intro _ <;> (try (exfalso; omega))) | refine Aa ?_ | (refine nd ?_ ?_ <;> intro hg <;> first | exact xo hg | rw [hg]))
  refine AB (1 + 1) ?_
  repeat' (first | refine Ai ?_ | (refine As ?_; first | refine cz (cc) ?_) | refine Ah ?_ | refine nc ?_ ?_ | (with_reducible intro _ <;> (try (exfalso; omega))) | refine Aa ?_ | (refine nd ?_ ?_ <;> intro hg <;> first | exact xo hg | rw [hg]))
  all_goals (simp only [oM, C6, Cm, BO.zero, PB, List.map_nil]; infer_instance)

set_option maxRecDepth 20000
section
variable {f0 : FuncId} {F : Fence} {n : Nat} {P : Program} {Q : Exit → Act → World → Prop} {a : Act} {w : World}
theorem SQ {x y : Code} (h : KJ f0 F n P x (Exit.then (KJ f0 F n P y Q) Q) a w) : KJ f0 F n P (Code.seq x y) Q a w := by
 intro b k cs hro hb hf hr
 have h0 : (lone (b.atR a (.code (.seq x y) :: k)) cs w).fenced P F := fenced_calm hb hr rfl
 obtain ⟨e, a₁, w₁, hq, harr⟩ := h b (.code y :: k) cs hro hb hf hr
 cases e with
 | normal =>
  obtain ⟨e₂, a₂, w₂, hq₂, harr₂⟩ := hq b k cs hro hb hf hr
  exact ⟨e₂, a₂, w₂, hq₂, .of_steps (.head h0 stepR_seq harr) harr₂⟩
 | exit id => exact ⟨_, a₁, w₁, hq, .of_steps (.one h0 stepR_seq) (.pass (x := .code y) rfl (fun _ _ => .inl (by simp)) harr)⟩
 | goto l => exact ⟨_, a₁, w₁, hq, .of_steps (.one h0 stepR_seq) (.pass (x := .code y) rfl (fun _ _ => .inl (by simp)) harr)⟩
 | ret => exact ⟨_, a₁, w₁, hq, .of_steps (.one h0 stepR_seq) (.pass (x := .code y) rfl (fun _ _ => .inl (by simp)) harr)⟩
 | panic ch => exact ⟨_, a₁, w₁, hq, .of_steps (.one h0 stepR_seq) (.pass (x := .code y) rfl (fun _ _ => .inl (by simp)) harr)⟩
 | outgrown => exact ⟨_, a₁, w₁, hq, .of_steps (.one h0 stepR_seq) (.pass (x := .code y) rfl (fun _ _ => .inl (by simp)) harr)⟩
theorem Py {id : Nat} {c : Code} (h : KJ f0 F n P c (Exit.inBlock id Q) a w) : KJ f0 F n P (Code.block id c) Q a w := by
 intro b k cs hro hb hf hr
 have h0 : (lone (b.atR a (.code (.block id c) :: k)) cs w).fenced P F := fenced_calm hb hr rfl
 obtain ⟨e, a₁, w₁, hq, harr⟩ := h b (.inBlock id :: k) cs hro hb hf hr
 cases e with
 | normal => exact ⟨.normal, a₁, w₁, hq, .head h0 stepR_block (StepsIn.trans harr (.one (fenced_calm hb hr rfl) stepR_inBlock))⟩
 | exit id' =>
  by_cases hid : id' = id
  ·simp only [Exit.inBlock, hid, if_true] at hq
   exact ⟨.normal, a₁, w₁, hq, .head h0 stepR_block (harr.1 k (by simp [exitTo, hid]))⟩
  ·simp only [Exit.inBlock, hid, if_false] at hq
   have this : (id == id') = false := by simp; exact fun h => hid h.symm
   have hx : exitTo id' (.inBlock id :: k) = exitTo id' k := by simp [exitTo, this]
   exact ⟨.exit id', a₁, w₁, hq, fun k' hk => .head h0 stepR_block (harr.1 k' (by rw [hx]; exact hk)),
    fun hr' hk => let ⟨k₁, h1, h2⟩ := harr.2 hr' (by rw [hx]; exact hk); ⟨k₁, h1, .head h0 stepR_block h2⟩⟩
 | goto l =>
  have hx : gotoIn l (.inBlock id :: k) = gotoIn l k := by simp [gotoIn]
  exact ⟨_, a₁, w₁, hq, fun k' hk => .head h0 stepR_block (harr.1 k' (by rw [hx]; exact hk)),
   fun hr' hk => let ⟨k₁, h1, h2⟩ := harr.2 hr' (by rw [hx]; exact hk); ⟨k₁, h1, .head h0 stepR_block h2⟩⟩
 | ret => exact ⟨_, a₁, w₁, hq, .of_steps (.one h0 stepR_block) harr⟩
 | panic ch => exact ⟨_, a₁, w₁, hq, .of_steps (.one h0 stepR_block) harr⟩
 | outgrown => exact ⟨_, a₁, w₁, hq, .of_steps (.one h0 stepR_block) harr⟩
end
section
variable {P : Program} {f0 : FuncId} {cx : Cx} {s : St} {Q : VE → St → Prop}
def TH (P : Program) (f0 : FuncId) (cx : Cx) (c : Code) (Q : VE → St → Prop) : VE → St → Prop
 | .normal, s => SO P f0 cx c s Q
 | e, s => Q e s
theorem DJ {c : Code} (h : SO P f0 cx c s Q) : TH P f0 cx c Q .normal s := h
theorem Qf {c : Code} {v : V} (h : Q (.panic v) s) : TH P f0 cx c Q (.panic v) s := h
theorem G8 {x y : Code} (h : SO P f0 cx x s (TH P f0 cx y Q)) : SO P f0 cx (.seq x y) s Q := fun n g0 w0 g a w hE hS => by
 refine SQ (HH (h n g0 w0 g a w hE hS) ?_)
 rintro e a' w' ⟨g', s', e', k1, k2, k3, k4⟩
 cases e' with
 | normal => simp only [BV] at k3; subst k3; exact k4 n g0 w0 g' a' w' k1 k2
 | exit id => simp only [BV] at k3; subst k3; exact ⟨g', s', .exit id, k1, k2, rfl, k4⟩
 | goto id => simp only [BV] at k3; subst k3; exact ⟨g', s', .goto id, k1, k2, rfl, k4⟩
 | ret => simp only [BV] at k3; subst k3; exact ⟨g', s', .ret, k1, k2, rfl, k4⟩
 | panic v => obtain ⟨u, rfl, k⟩ := k3; exact ⟨g', s', .panic v, k1, k2, ⟨u, rfl, k⟩, k4⟩
theorem Oi {id : Nat} {x : Code} (h : SO P f0 cx x s (DT id Q)) : SO P f0 cx (.block id x) s Q := fun n g0 w0 g a w hE hS => by
 refine Py (HH (h n g0 w0 g a w hE hS) ?_)
 rintro e a' w' ⟨g', s', e', k1, k2, k3, k4⟩
 cases e' with
 | normal => simp only [BV] at k3; subst k3; exact ⟨g', s', .normal, k1, k2, rfl, k4⟩
 | exit i =>
  simp only [BV] at k3; subst k3
  simp only [DT] at k4
  simp only [Exit.inBlock]
  by_cases h : i = id
  ·subst h
   rw [if_pos rfl]
   rw [show Nat.beq i i = true from Nat.beq_refl i] at k4
   exact ⟨g', s', .normal, k1, k2, rfl, k4⟩
  ·rw [if_neg h]
   have hb : Nat.beq i id = false := by
    cases hb : Nat.beq i id
    ·rfl
    ·exact (h (Nat.eq_of_beq_eq_true hb)).elim
   rw [hb] at k4
   exact ⟨g', s', .exit i, k1, k2, rfl, k4⟩
 | goto id => simp only [BV] at k3; subst k3; exact ⟨g', s', .goto id, k1, k2, rfl, k4⟩
 | ret => simp only [BV] at k3; subst k3; exact ⟨g', s', .ret, k1, k2, rfl, k4⟩
 | panic v => obtain ⟨u, rfl, k⟩ := k3; exact ⟨g', s', .panic v, k1, k2, ⟨u, rfl, k⟩, k4⟩
theorem Tj {fn0 : Func} {tm : List (Nat × V)} {st : List E} {nb : Nat} {gop : Operand} {ps : Array Tmp} {assign body : Code} {v : V} {f : FuncId} {az : List V} {tm0 : List (Nat × V)} (hf0 : P.funcs[f0]? = some fn0)
  (hc : ∀ (R : Loop) (T : Array Value), Fu cx.N ps assign body R T → (∃ fn, P.funcs[R.fn]? = some fn) → SP P f cx.B cx.m az (.y nb (some R) T ((cx.N, .yl nb) :: tm0) :: st) (nb + 1) (FR P cx nb T Q))
  (hrd : cx.rd = none := by rfl) (hM : cx.M.isSome = true := by rfl) (hdf : cx.df = [] := by rfl) (hx : Af ⟨tm, st, nb⟩ gop = some v := by rfl) (hf : GL v [.yl nb] = some (f, az) := by rfl) (htm0 : Hp cx.N tm = some tm0 := by rfl) (hmn : Nat.ble cx.m nb = true := by rfl) :
  SO P f0 cx (.rangeFunc gop ps assign body) ⟨tm, st, nb⟩ Q := Tk hf0 hrd hM hdf hx hf htm0 hmn hc
end

end Go.Proofs.YtbgcjnfhadhjeaaGreat