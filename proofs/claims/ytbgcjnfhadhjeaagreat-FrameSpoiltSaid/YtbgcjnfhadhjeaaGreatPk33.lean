/- Walks by data and names, part 33: Layer 19, by V: an operation's parts, laid. Layer 19, by V: operations, laid; rows of them; their sizes. -/
import Derived.Test.YtbgcjnfhadhjeaaGreatPk31
import Derived.Test.YtbgcjnfhadhjeaaGreatPk32
namespace Go.Proofs.YtbgcjnfhadhjeaaGreat
set_option maxRecDepth 20000
open Go.RowKit
set_option maxRecDepth 10000
set_option maxHeartbeats 4000000
section
variable {P : Program} {cx : Cx} {tm : List (Nat × V)} {st : List E} {nb : Nat} {Q : VE → St → Prop} {ops rest : List Oper}
theorem Aw {d : Tmp} {x : Operand} {t yt ty : TypeId} {v : V} {pos : String} {af : Array Edge} {gd : Option (Nat × Bool)} [hT : Mx P t] (k : VL P cx ops rest ⟨(d, .d (.lit (.bool true))) :: tm, st, nb⟩ Q) (hx : Af ⟨tm, st, nb⟩ x = some v := by rfl) (hv : JW v = some false := by rfl) (hd : Nat.blt d cx.N = true := by rfl)
  (hw : Wd ops tm gd := by first | exact trivial | exact A9 rfl rfl (by with_reducible rfl)) : VL P cx ops (⟨some d, .binOp .neq t x (.const (.pointer none)) yt, ty, pos, af, gd⟩ :: rest) ⟨tm, st, nb⟩ Q := Bd (b := false) k hx hv hd hw
theorem Ax {d : Tmp} {x : Operand} {t yt ty : TypeId} {v : V} {pos : String} {af : Array Edge} {gd : Option (Nat × Bool)} [hT : Mx P t] (k : VL P cx ops rest ⟨(d, .d (.lit (.bool false))) :: tm, st, nb⟩ Q) (hx : Af ⟨tm, st, nb⟩ x = some v := by rfl) (hv : JW v = some true := by rfl) (hd : Nat.blt d cx.N = true := by rfl)
  (hw : Wd ops tm gd := by first | exact trivial | exact A9 rfl rfl (by with_reducible rfl)) : VL P cx ops (⟨some d, .binOp .neq t x (.const (.pointer none)) yt, ty, pos, af, gd⟩ :: rest) ⟨tm, st, nb⟩ Q := Bd (b := true) k hx hv hd hw
end
abbrev tkV (r l : V) (px : V) (o : Bb) : List V := [r, .d (AW o.id.t), .d (Ar o.id.s), .d (AW o.id.q), .d (Ar o.k), .d (Ar o.x), .d (Ar o.y), .d (Ar o.x2), .d (Ar o.y2), .d (Ar o.z),
 .d (.lit (vb o.c.r)), .d (.lit (vb o.c.g)), .d (.lit (vb o.c.b)), .d (.lit (vb o.c.a)), .d (Ar o.w), .d (Ar o.h), px, .d (AW o.tg.t), .d (Ar o.tg.s), .d (AW o.tg.q), l]
abbrev BW : V := .d (.lit (.pointer none))
abbrev tkE (o : Bb) : E := .c 0 0 (tkV BW (.ptr 1 0) (.d (Iu o.px)) o)
abbrev Zl (b : List UInt8) (o : Bb) : List E := [tkE o, .c 1 0 [.d (CV b)]]
abbrev tlX (b : List UInt8) (o : Bb) : List E := [tkE o, .c 1 0 [.d (.sl true true (AH b))]]
theorem I0 (b : List UInt8) (o : Bb) (h1 : Kn o.x = true) (h2 : Kn o.y = true) (hb : b.length ≤ 80000000) : C6 Tryz.prog 248 2 [.ptr 0 0] (Zl b o) 2 (.ret (.tup [])) (tlX (b ++ CU o) o) 2 := by
 have c1 := KA b o.x h1 (by omega)
 have c2 := KA (b ++ GN o.x) o.y h2 (by simp [As]; omega)
 rw [CU, ← List.append_assoc]
 generalize b ++ GN o.x = B1 at *
 generalize B1 ++ GN o.y = B2 at *
 refine AJ fun B M => ?_
 repeat' (first | refine Al ?_ | (refine Ay ?_; first | refine Aj [(1, none)] c1 ?_ | refine Aj [(1, none)] c2 ?_ | refine Ae 271 fun _ => ?_ | refine Aq ?_ | refine Aw ?_ | refine Ax ?_) | refine Ak ?_ | refine nc ?_ ?_ | (with_reducible intro _ <;> (try (exfalso; omega))) | refine Ad ?_ | (refine nd ?_ ?_ <;> intro hg <;> first | exact xo hg | rw [hg]))
 exact A4 []
theorem Yr (b : List UInt8) (o : Bb) (h1 : Kn o.x2 = true) (h2 : Kn o.y2 = true) (hb : b.length ≤ 80000000) : C6 Tryz.prog 249 2 [.ptr 0 0] (Zl b o) 2 (.ret (.tup [])) (tlX (b ++ FK o) o) 2 := by
 have c1 := KA b o.x2 h1 (by omega)
 have c2 := KA (b ++ GN o.x2) o.y2 h2 (by simp [As]; omega)
 rw [FK, ← List.append_assoc]
 generalize b ++ GN o.x2 = B1 at *
 generalize B1 ++ GN o.y2 = B2 at *
 refine AJ fun B M => ?_
 repeat' (first | refine Al ?_ | (refine Ay ?_; first | refine Aj [(1, none)] c1 ?_ | refine Aj [(1, none)] c2 ?_ | refine Ae 271 fun _ => ?_ | refine Aq ?_ | refine Aw ?_ | refine Ax ?_) | refine Ak ?_ | refine nc ?_ ?_ | (with_reducible intro _ <;> (try (exfalso; omega))) | refine Ad ?_ | (refine nd ?_ ?_ <;> intro hg <;> first | exact xo hg | rw [hg]))
 exact A4 []
theorem Rh (b : List UInt8) (o : Bb) (h0 : 0 ≤ o.z) (h1 : o.z ≤ 1020) (hb : b.length ≤ 80000000) : C6 Tryz.prog 250 2 [.ptr 0 0] (Zl b o) 2 (.ret (.tup [])) (tlX (b ++ Et o) o) 2 := by
 have c1 := DZ b 2 o.z (by omega) h0 (by omega) (by omega)
 rw [show ((2 : Nat) : Int) = 2 from rfl] at c1
 rw [Et]
 generalize b ++ Av 2 o.z.toNat = B1 at *
 refine AJ fun B M => ?_
 repeat' (first | refine Al ?_ | (refine Ay ?_; first | refine Aj [(1, none)] c1 ?_ | refine Aq ?_ | refine Aw ?_ | refine Ax ?_) | refine Ak ?_ | refine nc ?_ ?_ | (with_reducible intro _ <;> (try (exfalso; omega))) | refine Ad ?_ | (refine nd ?_ ?_ <;> intro hg <;> first | exact xo hg | rw [hg]))
 exact A4 []
theorem LP (b : List UInt8) (o : Bb) (hb : b.length ≤ 80000000) : C6 Tryz.prog 251 2 [.ptr 0 0] (tlX b o) 2 (.ret (.tup [])) (Zl (b ++ c4 o.c) o) 2 := by
 have c1 := RU b o.c (by omega)
 generalize b ++ c4 o.c = B1 at *
 refine AJ fun B M => ?_
 repeat' (first | refine Al ?_ | (refine Ay ?_; first | refine Aj [(1, none)] c1 ?_ | refine Ae 272 fun _ => ?_ | refine Aq ?_ | refine Aw ?_ | refine Ax ?_) | refine Ak ?_ | refine nc ?_ ?_ | (with_reducible intro _ <;> (try (exfalso; omega))) | refine Ad ?_ | (refine nd ?_ ?_ <;> intro hg <;> first | exact xo hg | rw [hg]))
 refine NP 2 rfl ?_
 exact A4 []
theorem Sj (b : List UInt8) (o : Bb) (h : Jz o.tg = true) (hb : b.length ≤ 80000000) : C6 Tryz.prog 252 2 [.ptr 0 0] (Zl b o) 2 (.ret (.tup [])) (tlX (b ++ CP o.tg) o) 2 := by
 have c1 := RT b o.tg h (by omega)
 generalize b ++ CP o.tg = B1 at *
 refine AJ fun B M => ?_
 repeat' (first | refine Al ?_ | (refine Ay ?_; first | refine Aj [(1, none)] c1 ?_ | refine Ae 257 fun _ => ?_ | refine Aq ?_ | refine Aw ?_ | refine Ax ?_) | refine Ak ?_ | refine nc ?_ ?_ | (with_reducible intro _ <;> (try (exfalso; omega))) | refine Ad ?_ | (refine nd ?_ ?_ <;> intro hg <;> first | exact xo hg | rw [hg]))
 exact A4 []
abbrev stS (b : List UInt8) (o : Bb) : Nat → List E
 | 0 => tlX b o
 | i + 1 => [tkE o, .c 1 0 [.row 2 0], .r true true 2 0 5 1 (AH (b ++ Eh (o.px.take (i + 1))))]
theorem TV (b : List UInt8) (o : Bb) (h : Rd o = true) (hb : b.length ≤ 80000000) : C6 Tryz.prog 253 2 [.ptr 0 0] (Zl b o) 2 (.ret (.tup [])) (Zl (b ++ Av 1 o.w.toNat ++ Av 1 o.h.toNat ++ Eh o.px) o) 2 := by
 obtain ⟨s1, s2, s3⟩ := JR h
 simp only [Bv, Bool.and_eq_true, decide_eq_true_eq] at s1 s2
 have c1 := DZ b 1 o.w (by omega) (by omega) (by omega) (by omega)
 have c2 := DZ (b ++ Av 1 o.w.toNat) 1 o.h (by omega) (by omega) (by omega) (by simp [As]; omega)
 rw [show ((1 : Nat) : Int) = 1 from rfl] at c1 c2
 have hb2 : (b ++ Av 1 o.w.toNat ++ Av 1 o.h.toNat).length ≤ 80000010 := by simp [As]; omega
 generalize b ++ Av 1 o.w.toNat = B1 at *
 generalize B1 ++ Av 1 o.h.toNat = B2 at *
 refine AJ fun B M => ?_
 repeat' (first | refine Al ?_ | refine Ak ?_ | refine nc ?_ ?_ | (with_reducible intro _ <;> (try (exfalso; omega))) | refine Ad ?_ | (refine nd ?_ ?_ <;> intro hg <;> first | exact xo hg | rw [hg]))
 refine AF 3 ?_
 repeat' (first | refine Al ?_ | (refine Ay ?_; first | refine Aj [(1, none)] c1 ?_ | refine Aj [(1, none)] c2 ?_ | refine Aq ?_ | refine Aw ?_ | refine Ax ?_) | refine Ak ?_ | refine nc ?_ ?_ | (with_reducible intro _ <;> (try (exfalso; omega))) | refine Ad ?_ | (refine nd ?_ ?_ <;> intro hg <;> first | exact xo hg | rw [hg]))
 have hpl := Dl o.px
 have hl64 : o.px.length ≤ 64 ∧ 1 ≤ o.px.length := by
  have h1 : o.w.toNat ≤ 8 := by omega
  have h2 : o.h.toNat ≤ 8 := by omega
  have h3 : 1 ≤ o.w.toNat := by omega
  have h4 : 1 ≤ o.h.toNat := by omega
  rw [s3]
  exact ⟨Nat.mul_le_mul h1 h2, Nat.mul_le_mul h3 h4⟩
 refine BT (fun i : Nat => ⟨[(74, I .i64 i), (73, I .i64 (o.px.map CI).length), (2, .ptr 0 14), (0, .ptr 0 0)], stS B2 o i, match i with | 0 => 2 | _ + 1 => 3⟩) (fun i => i ≤ o.px.length) (fun i => o.px.length - i) 0 (AI) (Nat.zero_le _) fun i hi => ?_
 rcases Nat.lt_or_ge i o.px.length with h | h
 ·obtain ⟨x, hx⟩ : ∃ x, o.px[i]? = some x := ⟨_, List.getElem?_eq_getElem h⟩
  have hx' : (o.px.map CI)[((i : Nat) : Int).toNat]? = some (CI x) := by simp [hx]
  have hsz := YQ o.px
  have htk : o.px.take (i + 1) = o.px.take i ++ [x] := by rw [List.take_add_one, hx]; rfl
  have hps : Eh (o.px.take (i + 1)) = Eh (o.px.take i) ++ c4 x := by rw [htk]; simp [Eh]
  have hpn : (Eh (o.px.take i)).length ≤ 256 := by rw [FZ, List.length_take]; omega
  cases i with
  | zero =>
   have c := RU B2 x (by omega)
   rw [show B2 ++ c4 x = B2 ++ Eh (o.px.take (0 + 1)) by rw [hps]; rfl] at c
   simp only [stS]
   repeat' (first | refine Al ?_ | (refine Ay ?_; first | refine Aj [(1, none)] c ?_ | refine Ae 272 fun _ => ?_ | refine Aq ?_ | refine Aw ?_ | refine Ax ?_) | refine Ak ?_ | refine nc ?_ ?_ | (with_reducible intro _ <;> (try (exfalso; omega))) | refine Ad ?_ | (refine nd ?_ ?_ <;> intro hg <;> first | exact xo hg | rw [hg]))
   refine AU 1 (by omega) (by omega) ?_
   exact (CO [(2, _, _)])
  | succ i =>
   have c := VI (B2 ++ Eh (o.px.take (i + 1))) x (by simp; omega)
   rw [List.append_assoc, ← hps] at c
   simp only [stS]
   repeat' (first | refine Al ?_ | (refine Ay ?_; first | refine Aj [(1, none), (2, some _)] c ?_ | refine Ae 272 fun _ => ?_ | refine Aq ?_ | refine Aw ?_ | refine Ax ?_) | refine Ak ?_ | refine nc ?_ ?_ | (with_reducible intro _ <;> (try (exfalso; omega))) | refine Ad ?_ | (refine nd ?_ ?_ <;> intro hg <;> first | exact xo hg | rw [hg]))
   refine AU (i + 1 + 1) (by omega) (by omega) ?_
   exact (CO [(2, _, _)])
 ·cases i with
  | zero => omega
  | succ i =>
   simp only [stS]
   repeat' (first | refine Al ?_ | refine Ak ?_ | refine nc ?_ ?_ | (with_reducible intro _ <;> (try (exfalso; omega))) | refine Ad ?_ | (refine nd ?_ ?_ <;> intro hg <;> first | exact xo hg | rw [hg]))
   rw [List.take_of_length_le h]
   refine NP 2 rfl ?_
   exact A4 []

set_option maxRecDepth 20000
set_option maxRecDepth 10000
abbrev SF (f : FuncId) : List D := [.lit (.func (.func f) #[] #[])]
abbrev SI : List (List D) := [SF 248, SF 249, SF 250, SF 251]
abbrev SH : List (List D) := [SF 248, SF 249, SF 251]
abbrev VU : List (List D) := [SF 248, SF 250, SF 251]
abbrev Pp : List (List D) := [SF 248, SF 253]
abbrev SG : List (List D) := [SF 252]
abbrev Hj : List D := [.lit (.slice none 0 0), .sl false true SI, .sl false true SI, .sl false true SH, .sl false true SH, .sl false true VU, .sl false true Pp, .sl false true SG, .sl false true SG]
theorem Gb : VP Tryz.prog 215 [] (· = .ret (.agg Hj)) := by
 refine VP.le ?_
 refine Am fun B => ?_
 repeat' (first | refine Al ?_ | refine Ak ?_ | refine nc ?_ ?_ | (with_reducible intro _ <;> (try (exfalso; omega))) | refine Ad ?_ | (refine nd ?_ ?_ <;> intro hg <;> first | exact xo hg | rw [hg]))
 all_goals exact AP _
theorem VF (b : List UInt8) (o : Bb) (h : Da o = false) (hl : o.px.length ≤ 1000000) : C6 Tryz.prog 182 1 [.ptr 0 0, .d (.agg (oD o))] (Z3 b) 1 (.panic (.d (GB 220))) (Z3 b) 1 := by
 have cc := Ez o hl
 rw [h] at cc
 simp only [Bool.false_eq_true, if_false] at cc
 simp only [oD, De] at *
 refine AJ fun B M => ?_
 repeat' (first | refine Al ?_ | (refine Ay ?_; first | refine cz (cc) ?_ | (refine AK (Aa 220) ?_; first | refine Ag (Aa 220) ?_ | refine An (Ai 220) ?_ | (refine Ah (Ab _ 220) ?_ ?_ <;> intro _ <;> (try (exfalso; omega))) | (refine Ao (Ab _ 220) ?_ ?_ <;> intro _))) | refine Ak ?_ | refine nc ?_ ?_ | (with_reducible intro _ <;> (try (exfalso; omega))) | refine Ad ?_ | (refine nd ?_ ?_ <;> intro hg <;> first | exact xo hg | rw [hg]))
 exact Az []
theorem VB (b : List UInt8) (o : Bb) (h : Da o = true) (hl : o.px.length ≤ 1000000) (hb : b.length ≤ 70000000) : C6 Tryz.prog 182 1 [.ptr 0 0, .d (.agg (oD o))] (Z3 b) 1 (.ret (.tup [])) (Z3 (b ++ Cf o)) 1 := by
 have cc := Ez o hl
 have cf := Gb
 obtain ⟨h1, h2, h3, ⟨h4, h5, h6, h7⟩, h8, h9, ha⟩ := EM h
 have hz := RM h
 rw [h] at cc
 simp only [if_true] at cc
 have d1 := DZ b 1 o.k (by omega) (by omega) (by omega) (by omega)
 have d2 := RT (b ++ Av 1 o.k.toNat) o.id h1 (by simp [As]; omega)
 rw [show ((1 : Nat) : Int) = 1 from rfl] at d1
 have hB2 : (b ++ Av 1 o.k.toNat ++ CP o.id).length ≤ 70000018 := by simp [As, C0]; omega
 rw [Cf, ← List.append_assoc, ← List.append_assoc]
 generalize b ++ Av 1 o.k.toNat = B1 at *
 generalize B1 ++ CP o.id = B2 at *
 have k5 : (o.k = 1 ∨ o.k = 2) ∨ (o.k = 3 ∨ o.k = 4) ∨ o.k = 5 ∨ o.k = 6 ∨ (o.k = 7 ∨ o.k = 8) := by omega
 have lf : (CU o).length = 2 := by simp [CU, As]
 have lt : (FK o).length = 2 := by simp [FK, As]
 have ls : (Et o).length = 2 := by simp [Et, As]
 have d3 := I0 B2 o h4 h5 (by omega)
 rcases k5 with hk | hk | hk | hk | hk
 ·have hi : (Hj.map V.d)[o.k.toNat * 1]? = some (.d (.sl false true SI)) := by rcases hk with hk | hk <;> (rw [hk]; rfl)
  have hln : SI.length = 4 := rfl
  have e1 := I0 (B2) o h4 h5 (by omega)
  have e2 := Yr (B2 ++ CU o) o h6 h7 (by simp; omega)
  have e3 := Rh (B2 ++ CU o ++ FK o) o hz.1 hz.2 (by simp; omega)
  have e4 := LP (B2 ++ CU o ++ FK o ++ Et o) o (by simp; omega)
  rw [show B2 ++ Bu o = B2 ++ CU o ++ FK o ++ Et o ++ c4 o.c by rw [Bu, if_pos hk]; simp only [List.append_assoc]]
  generalize B2 ++ CU o = B3 at *
  generalize B3 ++ FK o = B4 at *
  generalize B4 ++ Et o = B5 at *
  generalize B5 ++ c4 o.c = B6 at *
  clear d3
  simp only [oD, De] at *
  refine AJ fun B M => ?_
  repeat' (first | refine Al ?_ | (refine Ay ?_; first | refine cz (cc) ?_ | refine cz (cf) ?_ | (refine AK (Aa 220) ?_; first | refine Ag (Aa 220) ?_ | refine An (Ai 220) ?_ | (refine Ah (Ab _ 220) ?_ ?_ <;> intro _ <;> (try (exfalso; omega))) | (refine Ao (Ab _ 220) ?_ ?_ <;> intro _)) | refine Aj [(0, none)] d1 ?_ | refine Aj [(0, none)] d2 ?_) | refine Ak ?_ | refine nc ?_ ?_ | (with_reducible intro _ <;> (try (exfalso; omega))) | refine Ad ?_ | (refine nd ?_ ?_ <;> intro hg <;> first | exact xo hg | rw [hg]))
  refine AF 5 ?_
  repeat' (first | refine Al ?_ | (refine Ay ?_; first | refine Aj [(2, none), (0, none)] e1 ?_ | refine Aj [(2, none), (0, none)] e2 ?_ | refine Aj [(2, none), (0, none)] e3 ?_ | refine Aj [(2, none), (0, none)] e4 ?_) | refine Ak ?_ | refine nc ?_ ?_ | (with_reducible intro _ <;> (try (exfalso; omega))) | refine Ad ?_ | (refine nd ?_ ?_ <;> intro hg <;> first | exact xo hg | rw [hg]))
  exact A4 []
 ·have hi : (Hj.map V.d)[o.k.toNat * 1]? = some (.d (.sl false true SH)) := by rcases hk with hk | hk <;> (rw [hk]; rfl)
  have hln : SH.length = 3 := rfl
  have e1 := I0 (B2) o h4 h5 (by omega)
  have e2 := Yr (B2 ++ CU o) o h6 h7 (by simp; omega)
  have e3 := LP (B2 ++ CU o ++ FK o) o (by simp; omega)
  rw [show B2 ++ Bu o = B2 ++ CU o ++ FK o ++ c4 o.c by rw [Bu, if_neg (by omega), if_pos hk]; simp only [List.append_assoc]]
  generalize B2 ++ CU o = B3 at *
  generalize B3 ++ FK o = B4 at *
  generalize B4 ++ c4 o.c = B5 at *
  clear d3
  simp only [oD, De] at *
  refine AJ fun B M => ?_
  repeat' (first | refine Al ?_ | (refine Ay ?_; first | refine cz (cc) ?_ | refine cz (cf) ?_ | (refine AK (Aa 220) ?_; first | refine Ag (Aa 220) ?_ | refine An (Ai 220) ?_ | (refine Ah (Ab _ 220) ?_ ?_ <;> intro _ <;> (try (exfalso; omega))) | (refine Ao (Ab _ 220) ?_ ?_ <;> intro _)) | refine Aj [(0, none)] d1 ?_ | refine Aj [(0, none)] d2 ?_) | refine Ak ?_ | refine nc ?_ ?_ | (with_reducible intro _ <;> (try (exfalso; omega))) | refine Ad ?_ | (refine nd ?_ ?_ <;> intro hg <;> first | exact xo hg | rw [hg]))
  refine AF 4 ?_
  repeat' (first | refine Al ?_ | (refine Ay ?_; first | refine Aj [(2, none), (0, none)] e1 ?_ | refine Aj [(2, none), (0, none)] e2 ?_ | refine Aj [(2, none), (0, none)] e3 ?_) | refine Ak ?_ | refine nc ?_ ?_ | (with_reducible intro _ <;> (try (exfalso; omega))) | refine Ad ?_ | (refine nd ?_ ?_ <;> intro hg <;> first | exact xo hg | rw [hg]))
  exact A4 []
 ·have hi : (Hj.map V.d)[o.k.toNat * 1]? = some (.d (.sl false true VU)) := by rw [hk]; rfl
  have hln : VU.length = 3 := rfl
  have e1 := I0 (B2) o h4 h5 (by omega)
  have e2 := Rh (B2 ++ CU o) o hz.1 hz.2 (by simp; omega)
  have e3 := LP (B2 ++ CU o ++ Et o) o (by simp; omega)
  rw [show B2 ++ Bu o = B2 ++ CU o ++ Et o ++ c4 o.c by rw [Bu, if_neg (by omega), if_neg (by omega), if_pos hk]; simp only [List.append_assoc]]
  generalize B2 ++ CU o = B3 at *
  generalize B3 ++ Et o = B4 at *
  generalize B4 ++ c4 o.c = B5 at *
  clear d3
  simp only [oD, De] at *
  refine AJ fun B M => ?_
  repeat' (first | refine Al ?_ | (refine Ay ?_; first | refine cz (cc) ?_ | refine cz (cf) ?_ | (refine AK (Aa 220) ?_; first | refine Ag (Aa 220) ?_ | refine An (Ai 220) ?_ | (refine Ah (Ab _ 220) ?_ ?_ <;> intro _ <;> (try (exfalso; omega))) | (refine Ao (Ab _ 220) ?_ ?_ <;> intro _)) | refine Aj [(0, none)] d1 ?_ | refine Aj [(0, none)] d2 ?_) | refine Ak ?_ | refine nc ?_ ?_ | (with_reducible intro _ <;> (try (exfalso; omega))) | refine Ad ?_ | (refine nd ?_ ?_ <;> intro hg <;> first | exact xo hg | rw [hg]))
  refine AF 4 ?_
  repeat' (first | refine Al ?_ | (refine Ay ?_; first | refine Aj [(2, none), (0, none)] e1 ?_ | refine Aj [(2, none), (0, none)] e2 ?_ | refine Aj [(2, none), (0, none)] e3 ?_) | refine Ak ?_ | refine nc ?_ ?_ | (with_reducible intro _ <;> (try (exfalso; omega))) | refine Ad ?_ | (refine nd ?_ ?_ <;> intro hg <;> first | exact xo hg | rw [hg]))
  exact A4 []
 ·have hi : (Hj.map V.d)[o.k.toNat * 1]? = some (.d (.sl false true Pp)) := by rw [hk]; rfl
  have hln : Pp.length = 2 := rfl
  have e1 := I0 (B2) o h4 h5 (by omega)
  have e2 := TV (B2 ++ CU o) o (h9 hk) (by simp; omega)
  rw [show B2 ++ Bu o = B2 ++ CU o ++ Av 1 o.w.toNat ++ Av 1 o.h.toNat ++ Eh o.px by rw [Bu, if_neg (by omega), if_neg (by omega), if_neg (by omega), if_pos hk]; simp only [List.append_assoc]]
  generalize B2 ++ CU o = B3 at *
  generalize B3 ++ Av 1 o.w.toNat ++ Av 1 o.h.toNat ++ Eh o.px = B4 at *
  clear d3
  simp only [oD, De] at *
  refine AJ fun B M => ?_
  repeat' (first | refine Al ?_ | (refine Ay ?_; first | refine cz (cc) ?_ | refine cz (cf) ?_ | (refine AK (Aa 220) ?_; first | refine Ag (Aa 220) ?_ | refine An (Ai 220) ?_ | (refine Ah (Ab _ 220) ?_ ?_ <;> intro _ <;> (try (exfalso; omega))) | (refine Ao (Ab _ 220) ?_ ?_ <;> intro _)) | refine Aj [(0, none)] d1 ?_ | refine Aj [(0, none)] d2 ?_) | refine Ak ?_ | refine nc ?_ ?_ | (with_reducible intro _ <;> (try (exfalso; omega))) | refine Ad ?_ | (refine nd ?_ ?_ <;> intro hg <;> first | exact xo hg | rw [hg]))
  refine AF 3 ?_
  repeat' (first | refine Al ?_ | (refine Ay ?_; first | refine Aj [(2, none), (0, none)] e1 ?_ | refine Aj [(2, none), (0, none)] e2 ?_) | refine Ak ?_ | refine nc ?_ ?_ | (with_reducible intro _ <;> (try (exfalso; omega))) | refine Ad ?_ | (refine nd ?_ ?_ <;> intro hg <;> first | exact xo hg | rw [hg]))
  exact A4 []
 ·have hi : (Hj.map V.d)[o.k.toNat * 1]? = some (.d (.sl false true SG)) := by rcases hk with hk | hk <;> (rw [hk]; rfl)
  have hln : SG.length = 1 := rfl
  have e1 := Sj (B2) o (ha (by omega)).1 (by omega)
  rw [show B2 ++ Bu o = B2 ++ CP o.tg by rw [Bu, if_neg (by omega), if_neg (by omega), if_neg (by omega), if_neg (by omega)]]
  generalize B2 ++ CP o.tg = B3 at *
  clear d3
  simp only [oD, De] at *
  refine AJ fun B M => ?_
  repeat' (first | refine Al ?_ | (refine Ay ?_; first | refine cz (cc) ?_ | refine cz (cf) ?_ | (refine AK (Aa 220) ?_; first | refine Ag (Aa 220) ?_ | refine An (Ai 220) ?_ | (refine Ah (Ab _ 220) ?_ ?_ <;> intro _ <;> (try (exfalso; omega))) | (refine Ao (Ab _ 220) ?_ ?_ <;> intro _)) | refine Aj [(0, none)] d1 ?_ | refine Aj [(0, none)] d2 ?_) | refine Ak ?_ | refine nc ?_ ?_ | (with_reducible intro _ <;> (try (exfalso; omega))) | refine Ad ?_ | (refine nd ?_ ?_ <;> intro hg <;> first | exact xo hg | rw [hg]))
  refine AF 2 ?_
  repeat' (first | refine Al ?_ | (refine Ay ?_; first | refine Aj [(2, none), (0, none)] e1 ?_) | refine Ak ?_ | refine nc ?_ ?_ | (with_reducible intro _ <;> (try (exfalso; omega))) | refine Ad ?_ | (refine nd ?_ ?_ <;> intro hg <;> first | exact xo hg | rw [hg]))
  exact A4 []
theorem Va {o : Bb} (h : Da o = true) : (Cf o).length ≤ 1000 := by
 have hp : o.k = 6 → o.px.length ≤ 64 := fun hk => by
  obtain ⟨s1, s2, s3⟩ := JR ((EM h).2.2.2.2.2.1 hk)
  simp only [Bv, Bool.and_eq_true, decide_eq_true_eq] at s1 s2
  rw [s3]; exact Nat.mul_le_mul (show o.w.toNat ≤ 8 by omega) (show o.h.toNat ≤ 8 by omega)
 simp only [Cf, Bu, CU, FK, Et, List.length_append, As, C0]
 repeat' split
 all_goals simp [As, C0, FZ]
 all_goals (rename_i hk; have := hp hk; omega)
abbrev Ej (l : List Bb) : D := .sl false false (l.map oD)
theorem DW (l : List Bb) : (l.map oD).length = l.length := List.length_map _
instance Ab9 (l : List Bb) : CC (l.map oD) (l.map oD) := BS l _ _ (fun _ => inferInstance) (fun _ => rfl)
theorem AbD (l : List Bb) : ∀ x ∈ l.map oD, x.length = 19 := fun x hx => by
 obtain ⟨y, _, rfl⟩ := List.mem_map.1 hx; rfl
theorem NO : ∀ (m : List Bb), (∀ o ∈ m, Da o = true) → (m.flatMap Cf).length ≤ 1000 * m.length
 | [], _ => by simp
 | o :: m, h => by
  have h1 := Va (h o (by simp))
  have h2 := NO m fun p hp => h p (by simp [hp])
  simp only [List.flatMap_cons, List.length_append, List.length_cons]; omega
def Mn (l : List Bb) : List UInt8 × Int := if 64 < l.length then ([], 3) else if l.all Da then (C9 l, 0) else ([], 220)
theorem ZO (l : List Bb) (hl : ∀ o ∈ l, o.px.length ≤ 1000000) : VP Tryz.prog 136 [Ej l] (· = .ret (.tup [CV (Mn l).1, Ar (Mn l).2])) := by
 have hln := DW l
 have hsz := AbD l
 refine VP.le ?_
 by_cases h64 : 64 < l.length
 ·rw [show Mn l = ([], 3) by rw [Mn, if_pos h64]]
  refine Am fun B => ?_
  repeat' (first | refine Al ?_ | (refine Ay ?_; first | (refine AK (Aa 3) ?_; first | refine Ag (Aa 3) ?_ | refine An (Ai 3) ?_ | (refine Ah (Ab _ 3) ?_ ?_ <;> intro _ <;> (try (exfalso; omega))) | (refine Ao (Ab _ 3) ?_ ?_ <;> intro _)) | refine Ae 178 fun _ => ?_ | refine Ae 213 fun _ => ?_ | refine Ae 179 fun _ => ?_ | refine Bs (hc := AN (fd := 247) Tryz.func212 rfl Tryz.ntmps212 Tryz.results212 fun _ => ?_)) | refine Ak ?_ | refine nc ?_ ?_ | (with_reducible intro _ <;> (try (exfalso; omega))) | refine Ad ?_ | (refine nd ?_ ?_ <;> intro hg <;> first | exact xo hg | rw [hg]) | refine AR Tryz.func247 rfl Tryz.ntmps247 Tryz.results247 ?_)
  all_goals first | (simp only [HN, CV, AH, List.map_nil]; infer_instance) | trace_state
 ·have c1 := DZ [] 1 (l.map oD).length (by omega) (by omega) (by omega) (by simp)
  rw [List.nil_append, show ((1 : Nat) : Int) = 1 from rfl, Int.toNat_natCast] at c1
  have hb1 := As 1 (l.map oD).length
  obtain ⟨B1, hB1⟩ : ∃ B, Av 1 (l.map oD).length = B := ⟨_, rfl⟩
  rw [hB1] at c1 hb1
  rw [hln] at hB1
  refine Am fun B => ?_
  repeat' (first | refine Al ?_ | (refine Ay ?_; first | (refine AK (Aa 3) ?_; first | refine Ag (Aa 3) ?_ | refine An (Ai 3) ?_ | (refine Ah (Ab _ 3) ?_ ?_ <;> intro _ <;> (try (exfalso; omega))) | (refine Ao (Ab _ 3) ?_ ?_ <;> intro _)) | refine Aj [(2, none)] c1 ?_ | refine Ae 178 fun _ => ?_ | refine Ae 213 fun _ => ?_ | refine Ae 179 fun _ => ?_ | refine Bs (hc := AN (fd := 247) Tryz.func212 rfl Tryz.ntmps212 Tryz.results212 fun _ => ?_)) | refine Ak ?_ | refine nc ?_ ?_ | (with_reducible intro _ <;> (try (exfalso; omega))) | refine Ad ?_ | (refine nd ?_ ?_ <;> intro hg <;> first | exact xo hg | rw [hg]) | refine AR Tryz.func247 rfl Tryz.ntmps247 Tryz.results247 ?_)
  refine Bi 17 l oD (fun (i : Nat) (_ : Unit) => ⟨[(19, I .i64 i), (18, I .i64 (l.map oD).length), (17, .d (Ej l)), (3, .fn (.func 182) [.ptr 2 0] [])],
     [.c 2 0 [.d (CV (B1 ++ (l.take i).flatMap Cf))], .c 4 0 [.d (Ar 0)], .c 3 0 [.ptr 2 0], .c 1 0 [.fn (.func 179) [] [.ptr 0 0]], .c 0 0 [.d (Ej l)]], 5⟩) (fun i _ => (∀ o ∈ l.take i, Da o = true)) () (by rw [List.take_zero, List.flatMap_nil, List.append_nil]; exact (AI)) (by simp) (fun i y x hT hi hx hx' hlt hlm hlen hdr => ?_) (fun y hT hlt hlm => ?_)
  ·have hxl := hl x (List.mem_of_getElem? hx)
   have htk : l.take (i + 1) = l.take i ++ [x] := by rw [List.take_add_one, hx]; rfl
   have hbl : (B1 ++ (l.take i).flatMap Cf).length ≤ 1000000 := by
    have := NO _ hT
    rw [List.length_append, hb1]
    have h2 : (l.take i).length ≤ i := by simp; omega
    omega
   have hfm : (l.take (i + 1)).flatMap Cf = (l.take i).flatMap Cf ++ Cf x := by rw [htk]; simp
   cases hv : Da x with
   | false =>
    have c := VF (B1 ++ (l.take i).flatMap Cf) x hv hxl
    rw [show Mn l = ([], 220) by
     rw [Mn, if_neg h64, if_neg]
     intro h
     rw [List.all_eq_true] at h
     rw [h x (List.mem_of_getElem? hx)] at hv; cases hv]
    repeat' (first | refine Al ?_ | (refine Ay ?_; first | refine Aj [(2, none)] c ?_) | refine Ak ?_ | refine nc ?_ ?_ | (with_reducible intro _ <;> (try (exfalso; omega))) | refine Ad ?_ | (refine nd ?_ ?_ <;> intro hg <;> first | exact xo hg | rw [hg]) | refine AR Tryz.func247 rfl Tryz.ntmps247 Tryz.results247 ?_)
    all_goals first | (simp only [HN, CV, AH, List.map_nil]; infer_instance) | (exfalso; simp_all; fail_if_success (focus skip)) | trace_state
   | true =>
    have c := VB (B1 ++ (l.take i).flatMap Cf) x hv hxl (by omega)
    repeat' (first | refine Al ?_ | (refine Ay ?_; first | refine Aj [(2, none)] c ?_) | refine Ak ?_ | refine nc ?_ ?_ | (with_reducible intro _ <;> (try (exfalso; omega))) | refine Ad ?_ | (refine nd ?_ ?_ <;> intro hg <;> first | exact xo hg | rw [hg]) | refine AR Tryz.func247 rfl Tryz.ntmps247 Tryz.results247 ?_)
    refine Be () hi ?_ ?_
    ·rw [htk]; intro o ho
     rcases List.mem_append.1 ho with ho | ho
     ·exact hT o ho
     ·simp at ho; rw [ho]; exact hv
    ·rw [hfm, ← List.append_assoc]
     exact (AI)
  ·rw [List.take_of_length_le (Nat.le_refl _)] at hT ⊢
   rw [show Mn l = (C9 l, 0) by rw [Mn, if_neg h64, if_pos (by rw [List.all_eq_true]; exact hT)], C9, hB1]
   repeat' (first | refine Al ?_ | refine Ak ?_ | refine nc ?_ ?_ | (with_reducible intro _ <;> (try (exfalso; omega))) | refine Ad ?_ | (refine nd ?_ ?_ <;> intro hg <;> first | exact xo hg | rw [hg]) | refine AR Tryz.func247 rfl Tryz.ntmps247 Tryz.results247 ?_)
   all_goals first | (simp only [HN]; infer_instance) | (exfalso; simp_all; fail_if_success (focus skip)) | trace_state

end Go.Proofs.YtbgcjnfhadhjeaaGreat