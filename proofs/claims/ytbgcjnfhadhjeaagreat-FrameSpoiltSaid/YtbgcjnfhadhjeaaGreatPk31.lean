/- Walks by data and names, part 31: Layer 19, by V: what lays bytes; ids. A part of a variable is stored, in a region that draws its order: the rest of it stays known. The document's layer 12, by V: what a kind uses, which operations may be. -/
import Derived.Test.YtbgcjnfhadhjeaaGreatPk28
import Derived.Test.YtbgcjnfhadhjeaaGreatPk29
import Derived.Test.YtbgcjnfhadhjeaaGreatPk30
import Derived.Test.YtbgcjnfhadhjeaaGreatPk23
import Derived.Test.YtbgcjnfhadhjeaaGreatPk25
namespace Go.Proofs.YtbgcjnfhadhjeaaGreat
set_option maxRecDepth 20000
open Go.RowKit
set_option maxRecDepth 10000
set_option maxHeartbeats 4000000
instance Ace {c f : Bool} : DL (.lit (.slice none 0 0)) (.sl c f (AH [])) := (inferInstance : DL (.lit (.slice none 0 0)) (.sl c f []))
abbrev Z3 (b : List UInt8) : List E := [.c 0 0 [.d (CV b)]]
abbrev lyX (b : List UInt8) : List E := [.c 0 0 [.d (.sl true true (AH b))]]
theorem DZ (b : List UInt8) (w : Nat) (n : Int) (hw : 1 ≤ w ∧ w ≤ 8) (h0 : 0 ≤ n) (hn : n.toNat < 256 ^ w) (hb : b.length ≤ 100000000) : C6 Tryz.prog 181 1 [.ptr 0 0, .d (Ar w), .d (.lit (.int .u64 n))] (Z3 b) 1 (.ret (.tup [])) (lyX (b ++ Av w n.toNat)) 1 := by
 have c := UU b w n.toNat hw hn hb
 rw [AW, show ((n.toNat : Nat) : Int) = n by omega] at c
 generalize Av w n.toNat = L at *
 refine AJ fun B M => ?_
 repeat' (first | refine Al ?_ | (refine Ay ?_; first | refine cz (c) ?_ | (refine AK (Aa 0) ?_; first | refine Ag (Aa 0) ?_ | refine An (Ai 0) ?_ | (refine Ah (Ab _ 0) ?_ ?_ <;> intro _ <;> (try (exfalso; omega))) | (refine Ao (Ab _ 0) ?_ ?_ <;> intro _))) | refine Ak ?_ | refine nc ?_ ?_ | (with_reducible intro _ <;> (try (exfalso; omega))) | refine Ad ?_ | (refine nd ?_ ?_ <;> intro hg <;> first | exact xo hg | rw [hg]))
 exact A4 []
theorem RT (b : List UInt8) (i : Bk) (h : Jz i = true) (hb : b.length ≤ 90000000) : C6 Tryz.prog 214 1 [.ptr 0 0, .d (.agg (F9 i))] (Z3 b) 1 (.ret (.tup [])) (lyX (b ++ CP i)) 1 := by
 have hi := QC h
 have c1 := DZ b 8 i.t (by omega) (by omega) (by omega) (by omega)
 have c2 := DZ (b ++ Av 8 i.t) 1 i.s (by omega) (by omega) (by omega) (by simp [As]; omega)
 have c3 := DZ (b ++ Av 8 i.t ++ Av 1 i.s.toNat) 8 i.q (by omega) (by omega) (by omega) (by simp [As]; omega)
 simp only [Int.toNat_natCast] at c1 c2 c3
 rw [show ((8 : Nat) : Int) = 8 from rfl] at c1 c3
 rw [show ((1 : Nat) : Int) = 1 from rfl] at c2
 rw [CP, ← List.append_assoc, ← List.append_assoc]
 generalize b ++ Av 8 i.t = B1 at *
 generalize B1 ++ Av 1 i.s.toNat = B2 at *
 generalize B2 ++ Av 8 i.q = B3 at *
 simp only [F9]
 refine AJ fun B M => ?_
 repeat' (first | refine Al ?_ | (refine Ay ?_; first | refine Aj [(0, none)] c1 ?_ | refine Aj [(0, none)] c2 ?_ | refine Aj [(0, none)] c3 ?_) | refine Ak ?_ | refine nc ?_ ?_ | (with_reducible intro _ <;> (try (exfalso; omega))) | refine Ad ?_ | (refine nd ?_ ?_ <;> intro hg <;> first | exact xo hg | rw [hg]))
 exact A4 []
theorem KA (b : List UInt8) (n : Int) (h : Kn n = true) (hb : b.length ≤ 90000000) : C6 Tryz.prog 309 1 [.ptr 0 0, .d (Ar n)] (Z3 b) 1 (.ret (.tup [])) (lyX (b ++ GN n)) 1 := by
 simp only [Kn, Bool.and_eq_true, decide_eq_true_eq] at h
 have c1 := DZ b 1 (n - -64) (by omega) (by omega) (by omega) (by omega)
 rw [show (n - -64).toNat = (n + 64).toNat by omega, show ((1 : Nat) : Int) = 1 from rfl] at c1
 simp only [GN]
 generalize b ++ Av 1 (n + 64).toNat = B1 at *
 refine AJ fun B M => ?_
 repeat' (first | refine Al ?_ | (refine Ay ?_; first | refine Aj [(0, none)] c1 ?_) | refine Ak ?_ | refine nc ?_ ?_ | (with_reducible intro _ <;> (try (exfalso; omega))) | refine Ad ?_ | (refine nd ?_ ?_ <;> intro hg <;> first | exact xo hg | rw [hg]))
 exact A4 []
theorem RU (b : List UInt8) (c : BL) (hb : b.length ≤ 90000000) : C6 Tryz.prog 310 1 [.ptr 0 0, .d (.agg (CI c))] (lyX b) 1 (.ret (.tup [])) [.c 0 0 [.row 1 0], .r true true 1 0 5 1 (AH (b ++ c4 c))] 2 := by
 have hbl := AA b
 rw [show AH (b ++ c4 c) = AH b ++ [[.lit (vb c.r)], [.lit (vb c.g)], [.lit (vb c.b)], [.lit (vb c.a)]] by simp [AH, c4]]
 simp only [CI]
 refine AJ fun B M => ?_
 repeat' (first | refine Al ?_ | refine Ak ?_ | refine nc ?_ ?_ | (with_reducible intro _ <;> (try (exfalso; omega))) | refine Ad ?_ | (refine nd ?_ ?_ <;> intro hg <;> first | exact xo hg | rw [hg]))
 exact A4 [(1, _, _)]
theorem VI (b : List UInt8) (c : BL) (hb : b.length ≤ 90000000) : C6 Tryz.prog 310 1 [.ptr 0 0, .d (.agg (CI c))] [.c 0 0 [.row 1 0], .r true true 1 0 5 1 (AH b)] 2 (.ret (.tup [])) [.c 0 0 [.row 1 0], .r true true 1 0 5 1 (AH (b ++ c4 c))] 2 := by
 have hbl := AA b
 rw [show AH (b ++ c4 c) = AH b ++ [[.lit (vb c.r)], [.lit (vb c.g)], [.lit (vb c.b)], [.lit (vb c.a)]] by simp [AH, c4]]
 simp only [CI]
 refine AJ fun B M => ?_
 repeat' (first | refine Bz (id := 1) [1] ?_ | refine Al ?_ | refine Ak ?_ | refine nc ?_ ?_ | (with_reducible intro _ <;> (try (exfalso; omega))) | refine Ad ?_ | (refine nd ?_ ?_ <;> intro hg <;> first | exact xo hg | rw [hg]))
 exact A4 [(1, _, _)]

set_option maxRecDepth 20000
theorem PQ {B : Nat} {g : G} {w : World} {st : List E} {k o0 n : Nat} {mrg : List V} (h : AG B g w st) (hm : AM k o0 st n = some mrg) : AG B g w [.c k o0 mrg] := by
 refine ⟨fun {i o x} hc => h.cell ?_, fun hr => (by simp only [AB] at hr; cases hr), fun hl => (by simp only [Au] at hl; cases hl)⟩
 simp only [Ap] at hc
 split at hc
 ·rename_i hb
  have := Nat.eq_of_beq_eq_true hb
  subst this
  split at hc
  ·rename_i ho
   split at hc
   ·rename_i v hv
    cases hc
    have := FF hm hv
    have ho := Nat.le_of_ble_eq_true ho
    rwa [show o0 + (o - o0) = o by omega] at this
   ·cases hc
  ·cases hc
 ·cases hc
section
variable {P : Program} {cx : Cx}
theorem Wa {tm : List (Nat × V)} {st : List E} {t ty : TypeId} {x y : Operand} {k off sz o0 n : Nat} {ag : Bool} {z : List Value} {v : V} {vs old all mrg : List V} {pos : String} {af : Array Edge} [hT : Br P t ag (sz + 1) z] (hx : ∀ nb, Af ⟨tm, st, nb⟩ x = some (.ptr k off)) (hy : ∀ nb, Af ⟨tm, st, nb⟩ y = some v) (hv : Bm v = some vs) (hl : vs.length = sz + 1) (h1 : BH vs = true)
  (hold : AM k off (.c k o0 all :: st) (sz + 1) = some old) (hm : AM k o0 [.c k off vs, .c k o0 all] n = some mrg) (_ : Dg k st = true) :
  OpC P cx ⟨none, .store t x y, ty, pos, af, none⟩ tm st k (.c k o0 all) (.d .any) (.c k o0 mrg) := fun m nb g a w K Qx hS hE0 hK => by
 obtain ⟨w', r1, r2, r3, r4⟩ := Ie (hT := hT) (ty := ty) (s := ⟨tm, .c k o0 all :: st, nb⟩) (hx nb) (hy nb) hv hl h1 hold hS
 refine ⟨fun _ _ => trivial, ?_⟩
 rw [Oper.semAt_plain (FW cx.rd) _ _ (by intro c e; cases e), By, r1]
 exact hK undef g w' r2 (fun _ _ => ⟨rfl, rfl, rfl⟩) (fun st' hn hs => KU (r4 st' hs) hn) (PQ (r4 _ hE0) hm) r3 (by simp only [vrep, drep])
theorem E8 (o0 n : Nat) {l : List Oper} {tm0 : List (Nat × V)} {tm : List (Nat × V)} {st AO stO : List E} {nb nb0 : Nat} {ds : List Nat} {hd tl : List Oper} {i : Nat} {acc : List Ac} {Q : VE → St → Prop} {t' ty : TypeId} {x y : Operand} {k' off sz : Nat} {ag : Bool} {z : List Value} {v : V} {vs old all mrg : List V} {pos : String} {af : Array Edge} {vis : List E} {tmI : List (Nat × V)} [hT : Br P t' ag (sz + 1) z]
  (kk : VD P cx l tm0 AO stO nb0 ds Q hd tl (i + 1) (⟨i, 1000000 + i, .d .any, [.c k' o0 mrg], vis, none, some (k', .c k' o0 all), [.c k' o0 mrg], none⟩ :: acc) ((1000000 + i, .d .any) :: tm) (.c k' o0 mrg :: st) nb)
  (hsel : Eu af.toList ds acc tm0 (Ca (Op.store t' x y).operands.toList) = some tmI := by rfl) (hvis : EV acc af.toList = some vis := by rfl)
  (hx : ∀ nb, Af ⟨tmI, vis ++ AO, nb⟩ x = some (.ptr k' off) := by intro _; rfl) (hy : ∀ nb, Af ⟨tmI, vis ++ AO, nb⟩ y = some v := by intro _; rfl) (hv : Bm v = some vs := by rfl) (hl : vs.length = sz + 1 := by rfl) (h1 : BH vs = true := by rfl)
  (hall : AM k' o0 stO n = some all := by rfl) (hold : AM k' off (.c k' o0 all :: (vis ++ AO)) (sz + 1) = some old := by rfl) (hm : AM k' o0 [.c k' off vs, .c k' o0 all] n = some mrg := by rfl)
  (hnk : Dg k' (vis ++ AO) = true := by rfl) (hk : Nat.blt k' nb0 = true := by rfl) (hn0 : Dg k' AO = true := by rfl) (hnc : XR k' acc = true := by rfl) (hds : CT (1000000 + i) ds = true := by rfl) (hfa : Cr (1000000 + i) acc = none := by rfl) :
  VD P cx l tm0 AO stO nb0 ds Q (⟨none, .store t' x y, ty, pos, af, none⟩ :: hd) tl i acc tm st nb :=
 KP kk (.inr ⟨rfl, rfl⟩) hds hfa hsel hvis trivial (Wa hx hy hv hl h1 hold hm hnk) hn0 HH HH (.inl rfl) (.inl ⟨rfl, ⟨Nat.le_of_ble_eq_true hk, YO n hall⟩, hnc⟩)
end

set_option maxRecDepth 10000
inductive Fd
 | x
 | y
 | x2
 | y2
 | z
 | c
 | s
 | t
deriving DecidableEq
def Fd.nm : Fd → List UInt8
 | .x => [88]
 | .y => [89]
 | .x2 => [88, 50]
 | .y2 => [89, 50]
 | .z => [83, 105, 122, 101]
 | .c => [67, 111, 108, 111, 114]
 | .s => [83, 116, 97, 109, 112]
 | .t => [84, 97, 114, 103, 101, 116]
def AZ (k : Int) : Fd → Bool
 | .x | .y => decide (1 ≤ k) && decide (k ≤ 6)
 | .x2 | .y2 => decide (1 ≤ k) && decide (k ≤ 4)
 | .z => decide (k = 1) || decide (k = 2) || decide (k = 5)
 | .c => decide (1 ≤ k) && decide (k ≤ 5)
 | .s => decide (k = 6)
 | .t => decide (k = 7) || decide (k = 8)
abbrev Mg (f : Fd) : D := .lit (Bl f.nm)
theorem BV (k : Int) (f : Fd) : VP Tryz.prog 161 [Ar k, Mg f] (· = .ret (.lit (.bool (AZ k f)))) := by
 cases f
 all_goals
  simp only [Mg, Fd.nm, AZ]
  refine Am fun B => ?_
  repeat' (first | refine Al ?_ | refine Ak ?_ | refine nc ?_ ?_ | (with_reducible intro _ <;> (try (exfalso; omega))) | refine Ad ?_ | (refine nd ?_ ?_ <;> intro hg <;> first | exact xo hg | rw [hg]))
 all_goals (simp_all; try omega)
theorem Ua (w h : Int) : VP Tryz.prog 162 [Ar w, Ar h] (· = .ret (.lit (.bool (Bv w && Bv h)))) := by
 simp only [Bv]
 refine Am fun B => ?_
 repeat' (first | refine Al ?_ | refine Ak ?_ | refine nc ?_ ?_ | (with_reducible intro _ <;> (try (exfalso; omega))) | refine Ad ?_ | (refine nd ?_ ?_ <;> intro hg <;> first | exact xo hg | rw [hg]))
 all_goals (simp_all; try omega)
theorem PV (o : Bb) (_ : o.px.length ≤ 1000000) : VP Tryz.prog 108 [.agg [Ar o.w, Ar o.h, Iu o.px]] (· = .ret (.lit (.bool (Rd o)))) := by
 have c := Ua o.w o.h
 have hpl := Dl o.px
 simp only [Rd]
 by_cases hs : Bv o.w = true ∧ Bv o.h = true
 ·have h1 := hs.1
  have h2 := hs.2
  simp only [Bv, Bool.and_eq_true, decide_eq_true_eq] at h1 h2
  have hm : 0 ≤ o.w * o.h ∧ o.w * o.h ≤ 64 := ⟨Int.mul_nonneg (by omega) (by omega), by
   have := Int.mul_le_mul h1.2 h2.2 (by omega) (by omega : (0 : Int) ≤ 8); omega⟩
  simp only [hs.1, hs.2, Bool.and_self, Bool.true_and] at c ⊢
  refine Am fun B => ?_
  repeat' (first | refine Al ?_ | (refine Ay ?_; first | refine cz (c) ?_) | refine Ak ?_ | refine nc ?_ ?_ | (with_reducible intro _ <;> (try (exfalso; omega))) | refine Ad ?_ | (refine nd ?_ ?_ <;> intro hg <;> first | exact xo hg | rw [hg]))
  rw [hpl]
 ·have hf : (Bv o.w && Bv o.h) = false := by
   cases e : (Bv o.w && Bv o.h)
   ·rfl
   ·exact (hs (by simpa using e)).elim
  simp only [hf, Bool.false_and] at c ⊢
  refine Am fun B => ?_
  repeat' (first | refine Al ?_ | (refine Ay ?_; first | refine cz (c) ?_) | refine Ak ?_ | refine nc ?_ ?_ | (with_reducible intro _ <;> (try (exfalso; omega))) | refine Ad ?_ | (refine nd ?_ ?_ <;> intro hg <;> first | exact xo hg | rw [hg]))
  all_goals rfl
theorem Ss (o p : Bb) : VP Tryz.prog 124 [.agg [Ar o.w, Ar o.h, Iu o.px], .agg [Ar p.w, Ar p.h, Iu p.px]] (· = .ret (.lit (.bool (Jm o p)))) := by
 have ha := Dl o.px
 have hb := Dl p.px
 simp only [Jm]
 refine Am fun B => ?_
 repeat' (first | refine Al ?_ | refine Ak ?_ | refine nc ?_ ?_ | (with_reducible intro _ <;> (try (exfalso; omega))) | refine Ad ?_ | (refine nd ?_ ?_ <;> intro hg <;> first | exact xo hg | rw [hg]))
 ·simp [*]
 ·simp [*]
 ·rename_i hne
  rw [decide_eq_false (fun h : o.px = p.px => by rw [h] at hne; exact hne rfl)]; simp
 ·refine Bi 29 o.px CI (fun (i : Nat) (_ : Unit) => ⟨[(31, I .i64 i), (30, I .i64 (o.px.map CI).length), (29, .d (Iu o.px)), (3, .ptr 1 0), (2, .ptr 0 0)], [.c 1 0 [.d (Ar p.w), .d (Ar p.h), .d (Iu p.px)]], 2⟩) (fun i _ => decide (o.px = p.px) = decide (o.px.drop i = p.px.drop i)) () (AI) rfl (fun i y x hT hi hx hx' hlt hlm hlen hdr => ?_) (fun y hT hlt hlm => ?_)
  ·have hlb : i < p.px.length := by omega
   have hb' : p.px[i]? = some p.px[i] := List.getElem?_eq_getElem hlb
   have hbd := List.drop_eq_getElem_cons hlb
   generalize p.px[i] = z at *
   have hbx : (p.px.map CI)[((i : Nat) : Int).toNat]? = some (CI z) := by simp [hb']
   have he := N8 x z
   rw [hdr, hbd] at hT
   by_cases hxz : x = z
   ·rw [decide_eq_true hxz] at he
    repeat' (first | refine Al ?_ | refine Ak ?_ | refine nc ?_ ?_ | (with_reducible intro _ <;> (try (exfalso; omega))) | refine Ad ?_ | (refine nd ?_ ?_ <;> intro hg <;> first | exact xo hg | rw [hg]))
    refine Be () hi ?_ (AI)
    rw [hT, hxz]; simp
   ·rw [decide_eq_false hxz] at he
    repeat' (first | refine Al ?_ | refine Ak ?_ | refine nc ?_ ?_ | (with_reducible intro _ <;> (try (exfalso; omega))) | refine Ad ?_ | (refine nd ?_ ?_ <;> intro hg <;> first | exact xo hg | rw [hg]))
    rw [hT, decide_eq_false (fun h => hxz (List.cons.inj h).1)]; simp
  ·repeat' (first | refine Al ?_ | refine Ak ?_ | refine nc ?_ ?_ | (with_reducible intro _ <;> (try (exfalso; omega))) | refine Ad ?_ | (refine nd ?_ ?_ <;> intro hg <;> first | exact xo hg | rw [hg]))
   rw [hT, List.drop_of_length_le (Nat.le_refl _), List.drop_of_length_le (by omega)]; simp_all
theorem MM (a b : Bb) : VP Tryz.prog 84 [.agg (oD a), .agg (oD b)] (· = .ret (.lit (.bool (decide (a = b))))) := by
 have cs := Ss a b
 have e1 := Pd a.id b.id
 have e2 := Pd a.tg b.tg
 have e3 := N8 a.c b.c
 have he : a = b ↔ a.id = b.id ∧ a.k = b.k ∧ a.x = b.x ∧ a.y = b.y ∧ a.x2 = b.x2 ∧ a.y2 = b.y2 ∧ a.z = b.z ∧ a.c = b.c ∧ a.w = b.w ∧ a.h = b.h ∧ a.px = b.px ∧ a.tg = b.tg := by cases a; cases b; simp
 simp only [oD, De] at *
 refine Am fun B => ?_
 repeat' (first | refine Al ?_ | (refine Ay ?_; first | refine cz (cs) ?_) | refine Ak ?_ | refine nc ?_ ?_ | (with_reducible intro _ <;> (try (exfalso; omega))) | refine Ad ?_ | (refine nd ?_ ?_ <;> intro hg <;> first | exact xo hg | rw [hg]))
 all_goals (clear cs e1 e2 e3; simp only [he, Jm]; simp_all; try simp [Bool.and_assoc])
theorem vb0 : vb 0 = .int .u8 0 := rfl
theorem NY : ((0 : Nat) : Int) = 0 := rfl
theorem TD {k : Int} (h : k = 1 ∨ k = 2) : AZ k .x = true ∧ AZ k .y = true ∧ AZ k .x2 = true ∧ AZ k .y2 = true ∧ AZ k .z = true ∧ AZ k .c = true ∧ AZ k .s = false ∧ AZ k .t = false := by rcases h with rfl | rfl <;> decide
theorem TC {k : Int} (h : k = 3 ∨ k = 4) : AZ k .x = true ∧ AZ k .y = true ∧ AZ k .x2 = true ∧ AZ k .y2 = true ∧ AZ k .z = false ∧ AZ k .c = true ∧ AZ k .s = false ∧ AZ k .t = false := by rcases h with rfl | rfl <;> decide
theorem TB {k : Int} (h : k = 5) : AZ k .x = true ∧ AZ k .y = true ∧ AZ k .x2 = false ∧ AZ k .y2 = false ∧ AZ k .z = true ∧ AZ k .c = true ∧ AZ k .s = false ∧ AZ k .t = false := by subst h; decide
theorem TA {k : Int} (h : k = 6) : AZ k .x = true ∧ AZ k .y = true ∧ AZ k .x2 = false ∧ AZ k .y2 = false ∧ AZ k .z = false ∧ AZ k .c = false ∧ AZ k .s = true ∧ AZ k .t = false := by subst h; decide
theorem Tz {k : Int} (h : k = 7 ∨ k = 8) : AZ k .x = false ∧ AZ k .y = false ∧ AZ k .x2 = false ∧ AZ k .y2 = false ∧ AZ k .z = false ∧ AZ k .c = false ∧ AZ k .s = false ∧ AZ k .t = true := by rcases h with rfl | rfl <;> decide
theorem Zj {k : Int} (h : k < 1 ∨ 8 < k) : AZ k .x = false ∧ AZ k .y = false ∧ AZ k .x2 = false ∧ AZ k .y2 = false ∧ AZ k .z = false ∧ AZ k .c = false ∧ AZ k .s = false ∧ AZ k .t = false := by
 simp [AZ]; omega
theorem Uc (o : Bb) : VP Tryz.prog 107 [.agg (oD o)] (· = .ret (.agg (oD (Bw o)))) := by
 have u1 := BV o.k .x
 have u2 := BV o.k .x2
 have u3 := BV o.k .z
 have u4 := BV o.k .c
 have u5 := BV o.k .s
 have u6 := BV o.k .t
 refine VP.le ?_
 rcases YE o.k with hk | hk | hk | hk | hk | hk
 ·skip
  rw [RG hk]
  obtain ⟨n1, n2, n3, n4, n5, n6, n7, n8⟩ := TD hk
  rw [n1] at u1
  rw [n3] at u2
  rw [n5] at u3
  rw [n6] at u4
  rw [n7] at u5
  rw [n8] at u6
  clear n1 n2 n3 n4 n5 n6 n7 n8 hk
  simp only [oD, De, Mg, Fd.nm] at *
  refine Am fun B => ?_
  repeat' (first | refine E8 0 19 ?_ | refine Bz (id := 3) [2] ?_ | refine Bz (id := 5) [2] ?_ | refine Al ?_ | (refine Ay ?_; first | refine cz (u1) ?_ | refine cz (u2) ?_ | refine cz (u3) ?_ | refine cz (u4) ?_ | refine cz (u5) ?_ | refine cz (u6) ?_) | refine Ak ?_ | refine nc ?_ ?_ | (with_reducible intro _ <;> (try (exfalso; omega))) | refine Ad ?_ | (refine nd ?_ ?_ <;> intro hg <;> first | exact xo hg | rw [hg]))
  all_goals (simp only [HN, Bk.zero, NY, List.map_nil]; infer_instance)
 ·skip
  rw [RF hk]
  obtain ⟨n1, n2, n3, n4, n5, n6, n7, n8⟩ := TC hk
  rw [n1] at u1
  rw [n3] at u2
  rw [n5] at u3
  rw [n6] at u4
  rw [n7] at u5
  rw [n8] at u6
  clear n1 n2 n3 n4 n5 n6 n7 n8 hk
  simp only [oD, De, Mg, Fd.nm] at *
  refine Am fun B => ?_
  repeat' (first | refine E8 0 19 ?_ | refine Bz (id := 3) [2] ?_ | refine Bz (id := 5) [2] ?_ | refine Al ?_ | (refine Ay ?_; first | refine cz (u1) ?_ | refine cz (u2) ?_ | refine cz (u3) ?_ | refine cz (u4) ?_ | refine cz (u5) ?_ | refine cz (u6) ?_) | refine Ak ?_ | refine nc ?_ ?_ | (with_reducible intro _ <;> (try (exfalso; omega))) | refine Ad ?_ | (refine nd ?_ ?_ <;> intro hg <;> first | exact xo hg | rw [hg]))
  all_goals (simp only [HN, Bk.zero, NY, List.map_nil]; infer_instance)
 ·skip
  rw [RE hk]
  obtain ⟨n1, n2, n3, n4, n5, n6, n7, n8⟩ := TB hk
  rw [n1] at u1
  rw [n3] at u2
  rw [n5] at u3
  rw [n6] at u4
  rw [n7] at u5
  rw [n8] at u6
  clear n1 n2 n3 n4 n5 n6 n7 n8 hk
  simp only [oD, De, Mg, Fd.nm] at *
  refine Am fun B => ?_
  repeat' (first | refine E8 0 19 ?_ | refine Bz (id := 3) [2] ?_ | refine Bz (id := 5) [2] ?_ | refine Al ?_ | (refine Ay ?_; first | refine cz (u1) ?_ | refine cz (u2) ?_ | refine cz (u3) ?_ | refine cz (u4) ?_ | refine cz (u5) ?_ | refine cz (u6) ?_) | refine Ak ?_ | refine nc ?_ ?_ | (with_reducible intro _ <;> (try (exfalso; omega))) | refine Ad ?_ | (refine nd ?_ ?_ <;> intro hg <;> first | exact xo hg | rw [hg]))
  all_goals (simp only [HN, Bk.zero, NY, List.map_nil]; infer_instance)
 ·skip
  rw [RD hk]
  obtain ⟨n1, n2, n3, n4, n5, n6, n7, n8⟩ := TA hk
  rw [n1] at u1
  rw [n3] at u2
  rw [n5] at u3
  rw [n6] at u4
  rw [n7] at u5
  rw [n8] at u6
  clear n1 n2 n3 n4 n5 n6 n7 n8 hk
  simp only [oD, De, Mg, Fd.nm] at *
  refine Am fun B => ?_
  repeat' (first | refine E8 0 19 ?_ | refine Bz (id := 3) [2] ?_ | refine Bz (id := 5) [2] ?_ | refine Al ?_ | (refine Ay ?_; first | refine cz (u1) ?_ | refine cz (u2) ?_ | refine cz (u3) ?_ | refine cz (u4) ?_ | refine cz (u5) ?_ | refine cz (u6) ?_) | refine Ak ?_ | refine nc ?_ ?_ | (with_reducible intro _ <;> (try (exfalso; omega))) | refine Ad ?_ | (refine nd ?_ ?_ <;> intro hg <;> first | exact xo hg | rw [hg]))
  all_goals (simp only [HN, Bk.zero, BL.zero, vb0, NY]; infer_instance)
 ·skip
  rw [RB hk]
  obtain ⟨n1, n2, n3, n4, n5, n6, n7, n8⟩ := Tz hk
  rw [n1] at u1
  rw [n3] at u2
  rw [n5] at u3
  rw [n6] at u4
  rw [n7] at u5
  rw [n8] at u6
  clear n1 n2 n3 n4 n5 n6 n7 n8 hk
  simp only [oD, De, Mg, Fd.nm] at *
  refine Am fun B => ?_
  repeat' (first | refine E8 0 19 ?_ | refine Bz (id := 3) [2] ?_ | refine Bz (id := 5) [2] ?_ | refine Al ?_ | (refine Ay ?_; first | refine cz (u1) ?_ | refine cz (u2) ?_ | refine cz (u3) ?_ | refine cz (u4) ?_ | refine cz (u5) ?_ | refine cz (u6) ?_) | refine Ak ?_ | refine nc ?_ ?_ | (with_reducible intro _ <;> (try (exfalso; omega))) | refine Ad ?_ | (refine nd ?_ ?_ <;> intro hg <;> first | exact xo hg | rw [hg]))
  all_goals (simp only [HN, BL.zero, vb0, List.map_nil]; infer_instance)
 ·skip
  rw [Xt hk]
  obtain ⟨n1, n2, n3, n4, n5, n6, n7, n8⟩ := Zj hk
  rw [n1] at u1
  rw [n3] at u2
  rw [n5] at u3
  rw [n6] at u4
  rw [n7] at u5
  rw [n8] at u6
  clear n1 n2 n3 n4 n5 n6 n7 n8 hk
  simp only [oD, De, Mg, Fd.nm] at *
  refine Am fun B => ?_
  repeat' (first | refine E8 0 19 ?_ | refine Bz (id := 3) [2] ?_ | refine Bz (id := 5) [2] ?_ | refine Al ?_ | (refine Ay ?_; first | refine cz (u1) ?_ | refine cz (u2) ?_ | refine cz (u3) ?_ | refine cz (u4) ?_ | refine cz (u5) ?_ | refine cz (u6) ?_) | refine Ak ?_ | refine nc ?_ ?_ | (with_reducible intro _ <;> (try (exfalso; omega))) | refine Ad ?_ | (refine nd ?_ ?_ <;> intro hg <;> first | exact xo hg | rw [hg]))
  all_goals (simp only [HN, Bk.zero, BL.zero, vb0, NY, List.map_nil]; infer_instance)

set_option maxRecDepth 20000
set_option maxRecDepth 10000
theorem Aab (k : Int) : VP Tryz.prog 115 [Ar k] (· = .ret (.lit (.bool (decide (1 ≤ k) && decide (k ≤ 8))))) := by
 refine Am fun B => ?_
 repeat' (first | refine Al ?_ | refine Ak ?_ | refine nc ?_ ?_ | (with_reducible intro _ <;> (try (exfalso; omega))) | refine Ad ?_ | (refine nd ?_ ?_ <;> intro hg <;> first | exact xo hg | rw [hg]))
 all_goals (simp_all; try omega)
theorem UW (k : Int) (h : 1 ≤ k ∧ k ≤ 8) : VP Tryz.prog 119 [Ar k] (· = .ret (.lit (.bool (decide (k ≤ 6))))) := by
 have c := Aab k
 rw [show (decide (1 ≤ k) && decide (k ≤ 8)) = true by simp; omega] at c
 refine Am fun B => ?_
 repeat' (first | refine Al ?_ | (refine Ay ?_; first | refine cz (c) ?_) | refine Ak ?_ | refine nc ?_ ?_ | (with_reducible intro _ <;> (try (exfalso; omega))) | refine Ad ?_ | (refine nd ?_ ?_ <;> intro hg <;> first | exact xo hg | rw [hg]))
 all_goals rfl
abbrev F4 (l : List Fd) : List (List D) := l.map fun f => [Mg f]
def M4 (k : Int) : List Fd := if k = 1 ∨ k = 2 then [.x, .y, .x2, .y2, .z, .c] else if k = 3 ∨ k = 4 then [.x, .y, .x2, .y2, .c] else if k = 5 then [.x, .y, .z, .c] else if k = 6 then [.x, .y, .s] else if k = 7 ∨ k = 8 then [.t] else []
theorem YZ : VP Tryz.prog 207 [] (· = .ret (.agg [.lit (.slice none 0 0), .lit .nilFunc, .lit .nilFunc,
  .sl false true (F4 [.x, .y, .x2, .y2, .z, .c]), .any, .any, .sl false true (F4 [.x, .y, .x2, .y2, .z, .c]), .any, .any,
  .sl false true (F4 [.x, .y, .x2, .y2, .c]), .any, .any, .sl false true (F4 [.x, .y, .x2, .y2, .c]), .any, .any,
  .sl false true (F4 [.x, .y, .z, .c]), .any, .any, .sl false true (F4 [.x, .y, .s]), .any, .any,
  .sl false true (F4 [.t]), .any, .any, .sl false true (F4 [.t]), .any, .any])) := by
 refine VP.le ?_
 refine Am fun B => ?_
 repeat' (first | refine Al ?_ | refine Ak ?_ | refine nc ?_ ?_ | (with_reducible intro _ <;> (try (exfalso; omega))) | refine Ad ?_ | (refine nd ?_ ?_ <;> intro hg <;> first | exact xo hg | rw [hg]))
 all_goals (simp only [HN, F4, List.map_cons, List.map_nil, Mg, Fd.nm, AT]; infer_instance)

set_option maxRecDepth 20000
section
variable {P : Program} {cx : Cx} {s : St}
theorem UM {t ty e : TypeId} {x y : Operand} {k0 : IntKind} {i : Int} {n sz : Nat} {z : List Value} {v : V} {vs : List V} [hA : EE P t n e sz] [hT : Br P e true sz z] (hx : Af s x = some v) (hv : Bm v = some vs) (hagg : Co v = false) (hy : Af s y = some (I k0 i)) (h0 : 0 ≤ i) (h1 : i < (n : Int)) : Bn P cx (.index t x y) ty s (.agg ((vs.drop (i.toNat * sz)).take sz)) := fun g a w hS => by
 have hus := Ch hv (hS.eval hx)
 have hy' := hS.eval hy
 simp only [vrep, drep] at hy'
 obtain ⟨hu, ie, hie, hsz⟩ := hA.get
 have hag : ∃ cs, a.eval x = .agg cs := by
  have hx' := hS.eval hx
  unfold Bm at hv
  split at hv
  ·simp only [vrep] at hx'; obtain ⟨cs, h, _⟩ := hx'; exact ⟨_, h⟩
  ·simp only [vrep, drep] at hx'; obtain ⟨cs, h, _⟩ := hx'; exact ⟨_, h⟩
  ·rw [hagg] at hv; cases hv
 obtain ⟨cs, hcs⟩ := hag
 rw [hcs] at hus
 simp only [Value.cells] at hus
 have hs : (sizeOf e).run P w = .ok sz w := by simp [sizeOf, typeInfo, hie, hsz]
 obtain ⟨d, q1, q2⟩ := hT.und
 have hag2 : (isAgg e).run P w = .ok true w := by
  unfold isAgg
  rw [Sem.run_bind, run_underlying q1 w]
  cases d <;> simp_all [Mw]
 have hpart : (part e cs (i.toNat * sz)).run P w = .ok (.agg (cs.extract (i.toNat * sz) (i.toNat * sz + sz))) w := by
  simp [part, Sem.run_bind, hag2, sizeOf, typeInfo, hie, hsz]
 refine ⟨.agg (cs.extract (i.toNat * sz) (i.toNat * sz + sz)), by simp [execOp, Instr.index, hcs, hy', asIntOf, run_underlying hu w, hs, h0, h1, hpart], ?_⟩
 simp only [vrep]
 have h1 := (DB (DB hus (i.toNat * sz)).2 sz).1
 refine ⟨(cs.toList.drop (i.toNat * sz)).take sz, ?_, h1⟩
 congr 1
 apply Array.ext'
 simp [List.extract_eq_take_drop]
end
section
variable {P : Program} {cx : Cx} {tm : List (Nat × V)} {st : List E} {nb : Nat} {Q : VE → St → Prop} {ops rest : List Oper}
theorem MA {d : Tmp} {t ty e : TypeId} {x y : Operand} {k0 : IntKind} {i : Int} {n sz : Nat} {z : List Value} {v : V} {vs : List V} {pos : String} {af : Array Edge} {gd : Option (Nat × Bool)} [hA : EE P t n e sz] [hT : Br P e true sz z] (k : VL P cx ops rest ⟨(d, .agg ((vs.drop (i.toNat * sz)).take sz)) :: tm, st, nb⟩ Q)
  (hx : Af ⟨tm, st, nb⟩ x = some v := by rfl) (hv : Bm v = some vs := by rfl) (hagg : Co v = false := by rfl) (hy : Af ⟨tm, st, nb⟩ y = some (I k0 i) := by rfl) (h0 : 0 ≤ i := by omega) (h1 : i < (n : Int) := by omega) (hd : Nat.blt d cx.N = true := by rfl)
  (hw : Wd ops tm gd := by first | exact trivial | exact A9 rfl rfl (by with_reducible rfl)) : VL P cx ops (⟨some d, .index t x y, ty, pos, af, gd⟩ :: rest) ⟨tm, st, nb⟩ Q := HV k (IB (h := UM hx hv hagg hy h0 h1) (hd := hd) (hw := hw))
end

end Go.Proofs.YtbgcjnfhadhjeaaGreat