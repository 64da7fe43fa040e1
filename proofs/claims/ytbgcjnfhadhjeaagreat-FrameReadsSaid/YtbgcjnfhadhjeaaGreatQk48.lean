/- Walks by data and names, part 48: Layer 20, by V: FrameBack. The document's frames, by V: what is read of bytes. Memory that may be spoilt: what it is now, whatever it is. -/
import Derived.ShutString
import Derived.ChangeOld
import Derived.JoinedOf
import Derived.Test.YtbgcjnfhadhjeaaGreatQk47
import Derived.Test.YtbgcjnfhadhjeaaGreatQk40
import Derived.Test.YtbgcjnfhadhjeaaGreatQk41
import Derived.Test.YtbgcjnfhadhjeaaGreatQk22
import Derived.Test.YtbgcjnfhadhjeaaGreatQk46
import Derived.Test.YtbgcjnfhadhjeaaGreatQk31
import Derived.Test.YtbgcjnfhadhjeaaGreatQk2
namespace Go.Proofs.YtbgcjnfhadhjeaaGreat
set_option maxRecDepth 20000
open Go.RowKit
set_option maxRecDepth 10000
set_option maxHeartbeats 8000000
theorem AbV {o : A5} (h : Dr o = true) : o.px.length ≤ 64 := by
 obtain ⟨_, _, hp, _, _, h6, _⟩ := FS h
 by_cases hk : o.k = 6
 ·obtain ⟨s1, s2, s3⟩ := KT (h6 hk)
  simp only [BQ, Bool.and_eq_true, decide_eq_true_eq] at s1 s2
  rw [s3]
  exact Nat.mul_le_mul (show o.w.toNat ≤ 8 by omega) (show o.h.toNat ≤ 8 by omega)
 ·have e := congrArg A5.px hp
  simp only [BL, decide_eq_false hk, Bool.false_eq_true, if_false] at e
  rw [← e]; exact Nat.zero_le _

set_option maxRecDepth 20000
set_option maxRecDepth 10000
def Z3 (f : Fr) : Prop := ∀ o ∈ f.os, Dr o = true
theorem Ur {f g : Fr} {n : Fl} {b t : List UInt8} (h : Be f n b = some (g, t)) (hf : Z3 f) : Z3 g := by
 cases n with
 | bs =>
  simp only [Be] at h
  repeat' (split at h)
  all_goals first | (cases h; fail_if_success (focus skip)) | (cases h; exact hf)
 | os =>
  simp only [Be] at h
  split at h
  ·cases h
  ·rename_i l u hl
   cases h
   exact (N0 hl).1
 | _ =>
  simp only [Be, Option.map_eq_some_iff] at h
  obtain ⟨⟨x, y⟩, _, h2⟩ := h
  cases h2
  exact hf
theorem Xi {f g : Fr} {n : Fl} {b t : List UInt8} (h : Be f n b = some (g, t)) (hn : n ≠ .bs) : g.bs = f.bs := by
 cases n with
 | bs => exact (hn rfl).elim
 | os =>
  simp only [Be] at h
  split at h
  ·cases h
  ·cases h; rfl
 | _ =>
  simp only [Be, Option.map_eq_some_iff] at h
  obtain ⟨⟨x, y⟩, _, h2⟩ := h
  cases h2
  rfl
theorem Uq {f g : Fr} {n : Fl} {b t : List UInt8} (h : Be f n b = some (g, t)) (hn : n ≠ .os) : g.os = f.os := by
 cases n with
 | os => exact (hn rfl).elim
 | bs =>
  simp only [Be] at h
  repeat' (split at h)
  all_goals first | (cases h; fail_if_success (focus skip)) | (cases h; rfl)
 | _ =>
  simp only [Be, Option.map_eq_some_iff] at h
  obtain ⟨⟨x, y⟩, _, h2⟩ := h
  cases h2
  rfl
theorem Uv (L : List UInt8) (hL : L.length ≤ 1000000) : VP Tryz.prog 24 [BD L] (· = .ret (.tup [.agg (Cc (BG L).1), An (BG L).2])) := by
 refine VP.le ?_
 have c1 := WX L hL
 cases ho : C3 L with
 | none =>
  have e : BG L = (.zero, 120) := by unfold BG; rw [ho]
  rw [e]
  rw [ho] at c1
  simp only [Option.getD_none, Option.isSome_none, Ef] at c1
  refine Al fun B => ?_
  repeat' (first | refine Ai ?_ | (refine As ?_; first | refine cz (c1) ?_) | refine Ah ?_ | refine nc ?_ ?_ | (with_reducible intro _ <;> (try (exfalso; omega))) | refine Aa ?_ | (refine nd ?_ ?_ <;> intro hg <;> first | exact xo hg | rw [hg]))
  all_goals (simp only [Cm, Cc, Dn, Do, Fr.zero, Vc.zero, List.map_nil, Int.cast_ofNat_Int]; infer_instance)
 | some c =>
  have hcl : c.length ≤ 1000000 := by
   have := congrArg List.length (Sr ho)
   rw [TV] at this
   omega
  rw [ho] at c1
  simp only [Option.getD_some, Option.isSome_some] at c1
  have hbl := Av c
  rcases c with _ | ⟨k, r⟩
  ·have e : BG L = (.zero, 300) := by unfold BG; rw [ho]; rfl
   rw [e]
   simp only [Ef] at c1
   have h00 : ((([] : List (List D)).length : Nat) : Int) = 0 := rfl
   refine Al fun B => ?_
   repeat' (first | refine Ai ?_ | (refine As ?_; first | refine cz (c1) ?_) | refine Ah ?_ | refine nc ?_ ?_ | (with_reducible intro _ <;> (try (exfalso; omega))) | refine Aa ?_ | (refine nd ?_ ?_ <;> intro hg <;> first | exact xo hg | rw [hg]))
   all_goals first | (simp only [Cm, Cc, Dn, Do, Fr.zero, Vc.zero, List.map_nil, Int.cast_ofNat_Int]; infer_instance) | trace_state
  ·have hk8 := k.toNat_lt
   obtain ⟨res, hE⟩ : ∃ res, F6 (Bb k.toNat) { Fr.zero with k := k.toNat } r = res := ⟨_, rfl⟩
   have hr1 : res = none → BG L = (.zero, 300) := fun h => by unfold BG; rw [ho]; simp only [G0, hE, h]
   have hr2 : ∀ z, res = some (z, []) → BG L = if GK z then (z, 0) else (.zero, 300) := fun z h => by unfold BG; rw [ho]; simp only [G0, hE, h]; cases GK z <;> rfl
   have hr3 : ∀ z x t, res = some (z, x :: t) → BG L = (.zero, 300) := fun z x t h => by unfold BG; rw [ho]; simp only [G0, hE, h]
   obtain ⟨RF, hRF⟩ : ∃ z, BG L = z := ⟨_, rfl⟩
   rw [hRF] at hr1 hr2 hr3 ⊢
   have hx2 : (AG (k :: r))[((0 : Int)).toNat]? = some [.lit (.int .u8 (k.toNat : Int))] := rfl
   have hcut := HL (k :: r) 1
   rw [show (k :: r).drop 1 = r from rfl, Int.cast_ofNat_Int] at hcut
   simp only [List.length_cons] at hbl hcl
   have hsz : ∀ y ∈ AG (k :: r), y.length = 1 := by simp [AG]
   generalize AG (k :: r) = BC at *
   have c2 := OH (k.toNat : Int)
   have hfl := LA (Bb (k.toNat : Int))
   refine Al fun B => ?_
   repeat' (first | rw [hcut] | refine Ai ?_ | (refine As ?_; first | refine cz (c1) ?_ | refine cz (c2) ?_) | refine Ah ?_ | refine nc ?_ ?_ | (with_reducible intro _ <;> (try (exfalso; omega))) | refine Aa ?_ | (refine nd ?_ ?_ <;> intro hg <;> first | exact xo hg | rw [hg]))
   all_goals first | (exfalso; omega) | skip
   refine Bo 32 (Bb (k.toNat : Int)) (fun n => [Je n]) (fun (i : Nat) (z : Fr × D × D × List UInt8) => ⟨[(34, I .i64 i), (33, I .i64 (Fa (Bb (k.toNat : Int))).length), (32, .d (.sl false true (Fa (Bb (k.toNat : Int))))), (6, .ptr 1 0), (4, .d (BD z.2.2.2)), (2, .ptr 0 0)], [.c 1 0 ((Do z.2.1 z.2.2.1 z.1).map V.d), .c 0 0 AcE], 2⟩)
       (fun i z => F6 ((Bb (k.toNat : Int)).drop i) z.1 z.2.2.2 = res ∧ Z3 z.1 ∧ z.2.2.2.length ≤ 1000000 ∧ XT z.2.1 z.1.bs ∧ XS z.2.2.1 z.1.os ∧ BT (.d z.2.1) = true ∧ BT (.d z.2.2.1) = true) ({ Fr.zero with k := k.toNat }, EH, EH, r) (AE) ⟨hE, (fun _ h => by cases h), by simp only; omega, .inr ⟨rfl, rfl⟩, .inr ⟨rfl, rfl⟩, rfl, rfl⟩ (fun i y x hT hi hx hx' hlt hlm hlen hdr => ?_) (fun y hT hlt hlm => ?_)
   ·obtain ⟨z, b, o, rest⟩ := y
    obtain ⟨hT, hos, hrl, hb, hoo, hb1, ho1⟩ := hT
    dsimp only at *
    rw [hdr] at hT
    simp only [F6] at hT
    have c3 := WW b o hb1 ho1 z x rest hrl
    have hrb := Av rest
    haveI q1 : DL b b := by rcases hb with rfl | ⟨rfl, _⟩ <;> infer_instance
    haveI q2 : DL o o := by rcases hoo with rfl | ⟨rfl, _⟩ <;> infer_instance
    cases hr : Be z x rest with
    | none =>
     rw [hr] at c3 hT
     simp only [IT] at c3 hT
     rw [hr1 hT.symm]
     have k4 : BT (.d (if x = .os then .sl false false [] else o)) = true := by split <;> first | exact ho1 | rfl
     generalize (if x = .os then .sl false false [] else o) = o' at *
     generalize (if x = .bs then z else II z Fr.zero x) = u at *
     repeat' (first | refine Ai ?_ | (refine As ?_; first | refine cz (c3) ?_) | refine Ah ?_ | refine nc ?_ ?_ | (with_reducible intro _ <;> (try (exfalso; omega))) | refine Aa ?_ | (refine nd ?_ ?_ <;> intro hg <;> first | exact xo hg | rw [hg]) | refine Gt ?_ (by (with_reducible apply Bi) <;> first | rfl | (repeat (first | exact rfl | refine Bz (by first | rfl | assumption) ?_))) | refine G9 ?_ (h1 := by repeat (first | exact rfl | refine Bz (by first | rfl | assumption) ?_)))
     all_goals first | (exfalso; omega) | (simp only [Cm, Cc, Dn, Do, Fr.zero, Vc.zero, List.map_nil, Int.cast_ofNat_Int]; infer_instance) | trace_state
    | some q =>
     obtain ⟨u, t⟩ := q
     rw [hr] at c3 hT
     simp only [IT] at c3 hT
     obtain ⟨p, hp, hp0⟩ := Up hr
     have hpl := congrArg List.length hp
     rw [List.length_append] at hpl
     have hos' := Ur hr hos
     have hcut3 : CP (some ((rest.length : Int) - (t.length : Int))) none (AG rest) = AG t := by
      rw [show (rest.length : Int) - (t.length : Int) = (p.length : Int) by omega, HL, ← hp, List.drop_left]
     have k1 : XT (if x = .bs then BD u.bs else b) u.bs := by
      by_cases hx : x = .bs
      ·rw [if_pos hx]; exact .inl rfl
      ·rw [if_neg hx, show u.bs = z.bs from Xi hr hx]; exact hb
     have k2 : XS (if x = .os then Ek u.os else o) u.os := by
      by_cases hx : x = .os
      ·rw [if_pos hx]; exact .inl rfl
      ·rw [if_neg hx, show u.os = z.os from Uq hr hx]; exact hoo
     have k3 : BT (.d (if x = .bs then BD u.bs else b)) = true := by split <;> first | exact hb1 | rfl
     have k4 : BT (.d (if x = .os then Ek u.os else o)) = true := by split <;> first | exact ho1 | rfl
     generalize (if x = .bs then BD u.bs else b) = b' at *
     generalize (if x = .os then Ek u.os else o) = o' at *
     clear hb hoo
     repeat' (first | rw [hcut3] | refine Bw (id := 14) [1] ?_ | refine Ai ?_ | (refine As ?_; first | refine cz (c3) ?_) | refine Ah ?_ | refine nc ?_ ?_ | (with_reducible intro _ <;> (try (exfalso; omega))) | refine Aa ?_ | (refine nd ?_ ?_ <;> intro hg <;> first | exact xo hg | rw [hg]) | refine Gt ?_ (by (with_reducible apply Bi) <;> first | rfl | (repeat (first | exact rfl | refine Bz (by first | rfl | assumption) ?_))) | refine G9 ?_ (h1 := by repeat (first | exact rfl | refine Bz (by first | rfl | assumption) ?_)))
     all_goals first | (exfalso; omega) | skip
     refine Bd (u, b', o', t) hi ?_ (AE)
     exact ⟨hT, hos', by simp only; omega, k1, k2, k3, k4⟩
   ·obtain ⟨z, b, o, rest⟩ := y
    obtain ⟨hT, hos, hrl, hb, hoo, hb1, ho1⟩ := hT
    dsimp only at *
    rw [List.drop_of_length_le (Nat.le_refl _)] at hT
    simp only [F6] at hT
    have c4 := PJ z (fun o ho => Nat.le_trans (AbV (hos o ho)) (by decide))
    have hrb := Av rest
    have hbb : BD z.bs = .sl false false (AG z.bs) := rfl
    rcases rest with _ | ⟨x, rest⟩
    ·rw [hr2 z hT.symm]
     have hrb : (AG []).length = 0 := rfl
     obtain ⟨w, hw⟩ : ∃ w, GK z = w := ⟨_, rfl⟩
     rw [hw] at c4 ⊢
     obtain ⟨E, hEE⟩ : ∃ E : Fr × Int, (if w = true then (z, 0) else (Fr.zero, 300)) = E := ⟨_, rfl⟩
     rw [hEE]
     simp only [Cc, Dn] at c4
     rcases hb with rfl | ⟨rfl, hb⟩ <;> rcases hoo with rfl | ⟨rfl, hoo⟩ <;> cases w
     all_goals
      first | (obtain rfl : (z, 0) = E := hEE) | (obtain rfl : (Fr.zero, 300) = E := hEE)
      try rw [hb] at c4
      try rw [hoo] at c4
      try simp only [List.map_nil] at c4
      repeat' (first | refine Ai ?_ | (refine As ?_; first | refine cz (c4) ?_) | refine Ah ?_ | refine nc ?_ ?_ | (with_reducible intro _ <;> (try (exfalso; omega))) | refine Aa ?_ | (refine nd ?_ ?_ <;> intro hg <;> first | exact xo hg | rw [hg]) | refine Gt ?_ (by (with_reducible apply Bi) <;> first | rfl | (repeat (first | exact rfl | refine Bz (by first | rfl | assumption) ?_))) | refine G9 ?_ (h1 := by repeat (first | exact rfl | refine Bz (by first | rfl | assumption) ?_)))
     all_goals first | (exfalso; omega) | (simp only [Cm, Cc, Dn, Do, Fr.zero, Vc.zero, List.map_nil, Int.cast_ofNat_Int, hb, hoo]; infer_instance) | (simp only [Cm, Cc, Dn, Do, Fr.zero, Vc.zero, List.map_nil, Int.cast_ofNat_Int, hb]; infer_instance) | (simp only [Cm, Cc, Dn, Do, BD, Fr.zero, Vc.zero, List.map_nil, Int.cast_ofNat_Int, hoo]; infer_instance) | (simp only [Cm, Cc, Dn, Do, BD, Fr.zero, Vc.zero, List.map_nil, Int.cast_ofNat_Int]; infer_instance) | trace_state
    ·rw [hr3 z x rest hT.symm]
     simp only [List.length_cons] at hrb
     rcases hb with rfl | ⟨rfl, hb⟩ <;> rcases hoo with rfl | ⟨rfl, hoo⟩
     all_goals
      repeat' (first | refine Ai ?_ | refine Ah ?_ | refine nc ?_ ?_ | (with_reducible intro _ <;> (try (exfalso; omega))) | refine Aa ?_ | (refine nd ?_ ?_ <;> intro hg <;> first | exact xo hg | rw [hg]) | refine Gt ?_ (by (with_reducible apply Bi) <;> first | rfl | (repeat (first | exact rfl | refine Bz (by first | rfl | assumption) ?_))) | refine G9 ?_ (h1 := by repeat (first | exact rfl | refine Bz (by first | rfl | assumption) ?_)))
     all_goals first | (exfalso; omega) | (simp only [Cm, Cc, Dn, Do, Fr.zero, Vc.zero, List.map_nil, Int.cast_ofNat_Int]; infer_instance) | trace_state

set_option maxRecDepth 20000
theorem M9 {P : Program} {cx : Cx} {s : St} {Q : VE → St → Prop} (t : Tmp) {e c f : Bool} {l : List (List D)} (h : AA t s.tm = some (.po e (.sl c f l))) {x : Code} (k : l.length ≤ 9223372036854775807 → VW P cx x s Q) : VW P cx x s Q := fun n g0 w0 g a w hE hS => by
 have h1 := hS.tm h
 simp only [vrep] at h1
 obtain ⟨y, hy, h1⟩ := h1
 obtain ⟨m, rfl, hm, _⟩ := LQ hy
 simp only [drep] at h1
 obtain ⟨a', cap, cs, _, h2, h3, _⟩ := h1
 rw [FL hm] at h2
 exact k (by unfold maxLen at h3; omega) n g0 w0 g a w hE hS

set_option maxRecDepth 10000
theorem J8 : ∀ (k : Nat) {l m : List D}, A0 l m → A0 (l.drop k) (m.drop k)
 | 0, _, _, h => h
 | _ + 1, [], m, h => by simp only [A0] at h; subst h; simp [A0]
 | k + 1, x :: xs, m, h => by
  simp only [A0] at h
  obtain ⟨y, ys, rfl, _, h2⟩ := h
  exact J8 k h2
section
variable {P : Program} {cx : Cx} {s : St} {Q : VE → St → Prop} {ops rest : List Oper} {tm : List (Nat × V)} {st : List E} {nb : Nat}
theorem Xq {t ty : TypeId} {x : Operand} {f off sz : Nat} {ag ex : Bool} {l : List D} [Bj P t f off sz ag] (hx : Af s x = some (.po ex (.pt l))) : Bq P cx (.fieldAddr t x f) ty s (.po ex (.pt (l.drop off))) := fun g a w hS => by
 have h1 := hS.eval hx
 simp only [vrep] at h1
 obtain ⟨y, hy, h1⟩ := h1
 obtain ⟨m, rfl, hm, hme⟩ := HB hy
 simp only [drep] at h1
 obtain ⟨b, o, cs, h1, h2, h3⟩ := h1
 refine ⟨.pointer (some ⟨b, o + off, none⟩), by simp [execOp, h1, FB (P := P) (sT := t) (f := f) (off := off) (sz := sz) (ag := ag) (w := w)], ?_⟩
 simp only [vrep]
 refine ⟨.pt (m.drop off), LR (by simp only [AX]; exact ⟨_, rfl, J8 off hm⟩) (fun he => by rw [hme he]), ?_⟩
 simp only [drep]
 refine ⟨b, o + off, cs.drop off, rfl, fun j u hj => ?_, ?_⟩
 ·rw [List.getElem?_drop] at hj
  obtain ⟨b', o', e, hp, hc⟩ := h2 _ u hj
  cases e
  exact ⟨b, o + off, rfl, hp, by rw [Nat.add_assoc]; exact hc⟩
 ·refine Ft (by simp [Bx h3]) fun i x y hx hy => ?_
  rw [List.getElem?_drop] at hx hy
  obtain ⟨y', e, k⟩ := BU h3 hx
  rw [hy] at e; cases e; exact k
theorem G7 {d : Tmp} {t ty : TypeId} {x : Operand} {f off sz : Nat} {ag ex : Bool} {l : List D} {pos : String} {af : Array Edge} {gd : Option (Nat × Bool)} [Bj P t f off sz ag] (k : VL P cx ops rest ⟨(d, .po ex (.pt (l.drop off))) :: tm, st, nb⟩ Q) (hx : Af ⟨tm, st, nb⟩ x = some (.po ex (.pt l)) := by rfl)
  (hw : Wd ops tm gd := by first | exact trivial | exact A1 rfl rfl (by with_reducible rfl)) (hd : Nat.blt d cx.N = true := by rfl) : VL P cx ops (⟨some d, .fieldAddr t x f, ty, pos, af, gd⟩ :: rest) ⟨tm, st, nb⟩ Q := Wz (Xq hx) hw hd rfl k
end
theorem V5 (b : List UInt8) (i : Nat) (h : i < b.length) : ∃ n, (AG b)[((i : Nat) : Int).toNat]? = some [.lit (.int .u8 n)] := ⟨b[i].toNat, by simp [AG, h, vb]⟩
abbrev spX (f : Fr) : List V := [.d (An f.k), .d (AK f.ep), .d (An f.si), .d (AK f.sn), .d (An f.ix), .d (An f.my), .po false (.sl false true (AG f.bs)), .po false (.sl false true (f.os.map oM)),
 .d (AK f.v.n0), .d (AK f.v.n1), .d (AK f.v.n2), .d (AK f.v.n3), .d (AK f.v.n4), .d (AK f.v.n5), .d (AK f.v.n6), .d (AK f.v.n7), .d (AK f.v.n8), .d (AK f.fl), .d (AK f.fq), .d (AK f.pr), .d (AK f.tl),
 .d (AK f.w.n0), .d (AK f.w.n1), .d (AK f.w.n2), .d (AK f.w.n3), .d (AK f.w.n4), .d (AK f.w.n5), .d (AK f.w.n6), .d (AK f.w.n7), .d (AK f.w.n8)]
abbrev p8 (x : UInt8) : V := .po false (.lit (vb x))
abbrev spY (o : A5) : List V := [.d (AK o.id.t), .d (An o.id.s), .d (AK o.id.q), .d (An o.k), .d (An o.x), .d (An o.y), .d (An o.x2), .d (An o.y2), .d (An o.z), p8 o.c.r, p8 o.c.g, p8 o.c.b, p8 o.c.a,
 .d (An o.w), .d (An o.h), .po false (.sl false true (o.px.map Cq)), .d (AK o.tg.t), .d (An o.tg.s), .d (AK o.tg.q)]
theorem Sf (f : Fr) : VS Tryz.prog 25 [.agg (Mn f)] := by
 refine Abh Tryz.func25 rfl Tryz.ntmps25 rfl ?_
 have hbl := Av f.bs
 have hml : (f.os.map oM).length = f.os.length := List.length_map _
 simp only [IW, N7, Jq]
 repeat' (first | (refine FA (fun _ => ?_)) | (refine EC ?_; simp only [D0, Cd, Cn, CD]) | refine JU ?_ | refine G7 ?_ | refine Ai ?_ | refine Ah ?_ | refine nc ?_ ?_ | (with_reducible intro _ <;> (try (exfalso; omega))) | refine Aa ?_ | (refine nd ?_ ?_ <;> intro hg <;> first | exact xo hg | rw [hg]))
 refine Qz (fun _ : Unit => ⟨[(1, .ptr 0 0)], [.c 0 0 (spX f)], 1⟩) (fun _ => True) ?_ fun _ _ => ?_
 ·refine BP (fun i : Nat => ⟨[(9, I .i64 i), (8, I .i64 (AG f.bs).length), (7, .po false (.sl false true (AG f.bs))), (1, .ptr 0 0)], [.c 0 0 (spX f)], 1⟩) (fun i => i ≤ f.bs.length) (fun i => f.bs.length - i) 0 (AE) (Nat.zero_le _) fun i hi => ?_
  refine M9 7 rfl fun hlen => ?_
  rcases Nat.lt_or_ge i f.bs.length with h | h
  ·obtain ⟨n, hx'⟩ := V5 f.bs i h
   have hlt : (i : Int) < ((AG f.bs).length : Int) := by rw [Av]; omega
   repeat' (first | (refine FA (fun _ => ?_)) | (refine EC ?_; simp only [D0, Cd, Cn, CD]) | refine JU ?_ | refine G7 ?_ | refine Ai ?_ | refine Ah ?_ | refine nc ?_ ?_ | (with_reducible intro _ <;> (try (exfalso; omega))) | refine Aa ?_ | (refine nd ?_ ?_ <;> intro hg <;> first | exact xo hg | rw [hg]))
   exact AP (i + 1) (by omega) (by omega) (AE)
  ·have hlt : ¬ (i : Int) < ((AG f.bs).length : Int) := by rw [Av]; omega
   repeat' (first | (refine FA (fun _ => ?_)) | (refine EC ?_; simp only [D0, Cd, Cn, CD]) | refine JU ?_ | refine G7 ?_ | refine Ai ?_ | refine Ah ?_ | refine nc ?_ ?_ | (with_reducible intro _ <;> (try (exfalso; omega))) | refine Aa ?_ | (refine nd ?_ ?_ <;> intro hg <;> first | exact xo hg | rw [hg]))
   exact Fm () trivial (AE)
 ·repeat' (first | (refine FA (fun _ => ?_)) | (refine EC ?_; simp only [D0, Cd, Cn, CD]) | refine JU ?_ | refine G7 ?_ | refine Ai ?_ | refine Ah ?_ | refine nc ?_ ?_ | (with_reducible intro _ <;> (try (exfalso; omega))) | refine Aa ?_ | (refine nd ?_ ?_ <;> intro hg <;> first | exact xo hg | rw [hg]))
  refine BP (fun j : Nat => ⟨[(23, I .i64 j), (22, I .i64 (f.os.map oM).length), (21, .po false (.sl false true (f.os.map oM))), (1, .ptr 0 0)], [.c 0 0 (spX f)], 1⟩) (fun j => j ≤ f.os.length) (fun j => f.os.length - j) 0 (AE) (Nat.zero_le _) fun j hj => ?_
  refine M9 21 rfl fun hlen => ?_
  rcases Nat.lt_or_ge j f.os.length with h | h
  ·have hx : (f.os.map oM)[((j : Nat) : Int).toNat]? = some (oM f.os[j]) := by simp [h]
   have hlt : (j : Int) < ((f.os.map oM).length : Int) := by rw [hml]; omega
   generalize f.os[j] = x at *
   simp only [oM, C6] at hx
   repeat' (first | (refine FA (fun _ => ?_)) | (refine EC ?_; simp only [D0, Cd, Cn, CD]) | refine JU ?_ | refine G7 ?_ | refine Ai ?_ | refine Ah ?_ | refine nc ?_ ?_ | (with_reducible intro _ <;> (try (exfalso; omega))) | refine Aa ?_ | (refine nd ?_ ?_ <;> intro hg <;> first | exact xo hg | rw [hg]))
   refine BP (fun i : Nat => ⟨[(31, I .i64 i), (30, I .i64 (x.px.map Cq).length), (29, .po false (.sl false true (x.px.map Cq))), (4, .ptr 1 0), (23, I .i64 j), (22, I .i64 (f.os.map oM).length), (21, .po false (.sl false true (f.os.map oM))), (1, .ptr 0 0)], [.c 1 0 (spY x), .c 0 0 (spX f)], 2⟩) (fun i => i ≤ x.px.length) (fun i => x.px.length - i) 0 (AE) (Nat.zero_le _) fun i hi => ?_
   refine M9 29 rfl fun hlen2 => ?_
   have hxl : (x.px.map Cq).length = x.px.length := List.length_map _
   rcases Nat.lt_or_ge i x.px.length with h2 | h2
   ·have hx' : (x.px.map Cq)[((i : Nat) : Int).toNat]? = some (Cq x.px[i]) := by simp [h2]
    generalize x.px[i] = co at *
    simp only [Cq, vb] at hx'
    have hlt2 : (i : Int) < ((x.px.map Cq).length : Int) := by rw [hxl]; omega
    repeat' (first | (refine FA (fun _ => ?_)) | (refine EC ?_; simp only [D0, Cd, Cn, CD]) | refine JU ?_ | refine G7 ?_ | refine Ai ?_ | refine Ah ?_ | refine nc ?_ ?_ | (with_reducible intro _ <;> (try (exfalso; omega))) | refine Aa ?_ | (refine nd ?_ ?_ <;> intro hg <;> first | exact xo hg | rw [hg]))
    exact AP (i + 1) (by omega) (by omega) (AE)
   ·have hlt2 : ¬ (i : Int) < ((x.px.map Cq).length : Int) := by rw [hxl]; omega
    repeat' (first | (refine FA (fun _ => ?_)) | (refine EC ?_; simp only [D0, Cd, Cn, CD]) | refine JU ?_ | refine G7 ?_ | refine Ai ?_ | refine Ah ?_ | refine nc ?_ ?_ | (with_reducible intro _ <;> (try (exfalso; omega))) | refine Aa ?_ | (refine nd ?_ ?_ <;> intro hg <;> first | exact xo hg | rw [hg]))
    exact AP (j + 1) (by omega) (by omega) (AE)
  ·have hlt : ¬ (j : Int) < ((f.os.map oM).length : Int) := by rw [hml]; omega
   repeat' (first | (refine FA (fun _ => ?_)) | (refine EC ?_; simp only [D0, Cd, Cn, CD]) | refine JU ?_ | refine G7 ?_ | refine Ai ?_ | refine Ah ?_ | refine nc ?_ ?_ | (with_reducible intro _ <;> (try (exfalso; omega))) | refine Aa ?_ | (refine nd ?_ ?_ <;> intro hg <;> first | exact xo hg | rw [hg]))
   rfl

set_option maxRecDepth 20000
set_option maxRecDepth 10000
abbrev X3 (l : List Fr) : D := .sl false false (l.map Cc)
theorem Pd (l : List Fr) : (l.map Cc).length = l.length := List.length_map _
theorem AaH (l m : List Fr) : VP Tryz.prog 27 [X3 l, X3 m, .fn 13 [] []] (· = .ret (.lit (.bool (decide (l = m))))) := by
 rw [← NR]
 refine Al fun B => ?_
 have hl := Pd l
 have hm := Pd m
 generalize hp : (fun x y : Fr => decide (x = y)) = p
 repeat' (first | refine Ai ?_ | refine Ah ?_ | refine nc ?_ ?_ | (with_reducible intro _ <;> (try (exfalso; omega))) | refine Aa ?_ | (refine nd ?_ ?_ <;> intro hg <;> first | exact xo hg | rw [hg]))
 ·rw [KC (by omega)]
 ·refine Bo 15 l Cc (fun (i : Nat) (_ : Unit) => ⟨[(17, I .i64 i), (16, I .i64 (l.map Cc).length), (15, .d (X3 l)), (1, .d (X3 m)), (2, .d (.fn 13 [] []))], [], 0⟩) (fun i _ => MZ p l m = MZ p (l.drop i) (m.drop i)) () (AE) rfl (fun i y x hT hi hx hx' hlt hlm hlen hdr => ?_) (fun y hT hlt hlm => ?_)
  ·have hlb : i < m.length := by omega
   have hb' : m[i]? = some m[i] := List.getElem?_eq_getElem hlb
   have hbd := List.drop_eq_getElem_cons hlb
   generalize m[i] = z at *
   have hbx : (m.map Cc)[((i : Nat) : Int).toNat]? = some (Cc z) := by simp [hb']
   rw [hdr, hbd] at hT
   have c := Ep x z
   rw [show decide (x = z) = p x z by rw [← hp]] at c
   simp only [Cc, Dn, Do] at c hx' hbx ⊢
   repeat' (first | refine Ai ?_ | (refine As ?_; first | refine cz (c) ?_) | refine Ah ?_ | refine nc ?_ ?_ | (with_reducible intro _ <;> (try (exfalso; omega))) | refine Aa ?_ | (refine nd ?_ ?_ <;> intro hg <;> first | exact xo hg | rw [hg]))
   ·rw [hT]; simp_all [MZ]
   ·refine Bd () hi ?_ (AE); rw [hT]; simp_all [MZ]
  ·repeat' (first | refine Ai ?_ | refine Ah ?_ | refine nc ?_ ?_ | (with_reducible intro _ <;> (try (exfalso; omega))) | refine Aa ?_ | (refine nd ?_ ?_ <;> intro hg <;> first | exact xo hg | rw [hg]))
   rw [hT, List.drop_of_length_le (Nat.le_refl _), List.drop_of_length_le (by omega)]; rfl
def Sh (b : List UInt8) : List D := [.sl false true (AG b)]
instance AaY (l : List (List UInt8)) : CO (l.map Sh) (l.map F5) := BM l _ _ (fun _ => by unfold Sh F5; infer_instance) (fun _ => rfl)
instance Aco (l : List Fr) : CO (l.map Cc) (l.map Cc) := BM l _ _ (fun _ => inferInstance) (fun _ => rfl)
def IJ (x : List (List UInt8)) : List (List UInt8) := x.map (List.take 2100)
abbrev Acd (x : List (List UInt8)) (i : Nat) : St := ⟨[(18, I .i64 i), (17, I .i64 (x.map F5).length), (16, .d (.sl false false (x.map F5))), (5, .d (An ((i : Int) - (D9 (IJ (x.take i))).length))), (4, .row 1 0), (3, .row 0 0), (0, .d (.sl false false (x.map F5)))],
 [.r true true 1 0 28 30 ((D9 (IJ (x.take i))).map Cc), .r true true 0 0 23 1 ((IJ (x.take i)).map Sh)], 2⟩
theorem Sj (x : List (List UInt8)) (j : Nat) (hj : j ≤ 5) (hx : j ≤ x.length) (B : Nat) : VW Tryz.prog ⟨88, none, B, 0, some B, []⟩ (Ox 6 (LO Tryz.f4)) ⟨[(5, .d (An ((j : Int) - (D9 (IJ (x.take j))).length))), (4, .row 1 0), (3, .row 0 0)], [.r true true 1 0 28 30 ((D9 (IJ (x.take j))).map Cc), .r true true 0 0 23 1 ((IJ (x.take j)).map Sh)], 2⟩ (Fw Tryz.prog [.tmp 2] (· = .ret (.lit (.bool true)))) := by
 have hl : (IJ (x.take j)).length = j := by simp [IJ]; omega
 have hb : ∀ b ∈ IJ (x.take j), b.length ≤ 900000 := by
  intro b hb
  obtain ⟨c, _, rfl⟩ := List.mem_map.1 hb
  simp; omega
 have c1 := OJ (IJ (x.take j)) (by omega) hb
 have c2 := AaH (D9 (IJ (x.take j))) (D9 (IJ (x.take j)))
 rw [decide_eq_true rfl] at c2
 rw [hl] at c1
 generalize D9 (IJ (x.take j)) = W at *
 generalize IJ (x.take j) = R at *
 refine AS ?_
 repeat' (first | refine Ai ?_ | (refine As ?_; first | refine cz (c1) ?_ | refine cz (c2) ?_) | refine Ah ?_ | refine nc ?_ ?_ | (with_reducible intro _ <;> (try (exfalso; omega))) | refine Aa ?_ | (refine nd ?_ ?_ <;> intro hg <;> first | exact xo hg | rw [hg]))
 all_goals first | rfl | (exfalso; omega) | trace_state
theorem Aae (l : List (List UInt8)) (q : List UInt8) : D9 (l ++ [q]) = D9 l ++ (if (BG q).2 = 0 then [(BG q).1] else []) := by simp [D9]
theorem W6 (X : List (List UInt8)) : VP Tryz.prog 4 [.sl false false (X.map F5)] (· = .ret (.lit (.bool true))) := by
 have cw := RU
 have hxl := K1 X
 refine Al fun B => ?_
 refine AS ?_
 repeat' (first | refine Ai ?_ | ((fail_if_success (with_reducible refine AS ?_)); refine Ah ?_) | refine nc ?_ ?_ | (with_reducible intro _ <;> (try (exfalso; omega))) | refine Aa ?_ | (refine nd ?_ ?_ <;> intro hg <;> first | exact xo hg | rw [hg]))
 refine AS ?_
 refine AS ?_
 repeat' (first | refine Ai ?_ | (refine As ?_; first | refine cz (cw) ?_) | ((fail_if_success (with_reducible refine AS ?_)); refine Ah ?_) | refine nc ?_ ?_ | (with_reducible intro _ <;> (try (exfalso; omega))) | refine Aa ?_ | (refine nd ?_ ?_ <;> intro hg <;> first | exact xo hg | rw [hg]))
 refine AS ?_
 repeat' (first | refine Ai ?_ | ((fail_if_success (with_reducible refine AS ?_)); refine Ah ?_) | refine nc ?_ ?_ | (with_reducible intro _ <;> (try (exfalso; omega))) | refine Aa ?_ | (refine nd ?_ ?_ <;> intro hg <;> first | exact xo hg | rw [hg]))
 refine AS ?_
 repeat' (first | refine Ai ?_ | ((fail_if_success (with_reducible refine AS ?_)); refine Ah ?_) | refine nc ?_ ?_ | (with_reducible intro _ <;> (try (exfalso; omega))) | refine Aa ?_ | (refine nd ?_ ?_ <;> intro hg <;> first | exact xo hg | rw [hg]))
 refine AS ?_
 repeat' (first | refine Ai ?_ | ((fail_if_success (with_reducible refine AS ?_)); refine Ah ?_) | refine nc ?_ ?_ | (with_reducible intro _ <;> (try (exfalso; omega))) | refine Aa ?_ | (refine nd ?_ ?_ <;> intro hg <;> first | exact xo hg | rw [hg]))
 refine HI 3 23 1 rfl ?_
 refine HI 4 28 30 rfl ?_
 refine AS ?_
 refine AS ?_
 repeat' (first | refine Ai ?_ | ((fail_if_success (with_reducible refine AS ?_)); refine Ah ?_) | refine nc ?_ ?_ | (with_reducible intro _ <;> (try (exfalso; omega))) | refine Aa ?_ | (refine nd ?_ ?_ <;> intro hg <;> first | exact xo hg | rw [hg]))
 refine Qz (fun j : Nat => ⟨[(5, .d (An ((j : Int) - (D9 (IJ (X.take j))).length))), (4, .row 1 0), (3, .row 0 0)], [.r true true 1 0 28 30 ((D9 (IJ (X.take j))).map Cc), .r true true 0 0 23 1 ((IJ (X.take j)).map Sh)], 2⟩) (fun j => j ≤ 5 ∧ j ≤ X.length) ?_ fun j hj => Sj X j hj.1 hj.2 B
 refine Bo 16 X F5 (fun (i : Nat) (_ : Unit) => Acd X i) (fun i _ => i ≤ 5) () (AE) (Nat.zero_le _) (fun i y x hT hi hx hx' hlt hlm hlen hdr => ?_) (fun y hT hlt hlm => ?_)
 ·try simp only at hT
  have hcl : IJ (X.take (i + 1)) = IJ (X.take i) ++ [x.take 2100] := by rw [List.take_add_one, hx]; simp [IJ]
  have hWl : (D9 (IJ (X.take i))).length ≤ i := by
   have := Lm (IJ (X.take i))
   simp only [IJ, List.length_map, List.length_take] at this
   simp only [IJ]; omega
  have hRl : (IJ (X.take i)).length ≤ i := by simp [IJ]; omega
  have hok := Aae (IJ (X.take i)) (x.take 2100)
  rw [← hcl] at hok
  by_cases h5 : i = 5
  ·subst h5
   repeat' (first | refine Ai ?_ | refine Ah ?_ | refine nc ?_ ?_ | (with_reducible intro _ <;> (try (exfalso; omega))) | refine Aa ?_ | (refine nd ?_ ?_ <;> intro hg <;> first | exact xo hg | rw [hg]))
   exact Fm 5 ⟨Nat.le_refl _, Nat.le_of_lt hi⟩ (AE)
  have h5' : ¬ (i : Int) = 5 := by omega
  obtain ⟨W, hW⟩ : ∃ W, D9 (IJ (X.take i)) = W := ⟨_, rfl⟩
  obtain ⟨R, hR⟩ : ∃ R, IJ (X.take i) = R := ⟨_, rfl⟩
  obtain ⟨W', hW'⟩ : ∃ W', D9 (IJ (X.take (i + 1))) = W' := ⟨_, rfl⟩
  simp only [Acd]
  rw [hW] at hWl hok ⊢
  rw [hR] at hRl hcl ⊢
  have hcut : CP none (some (min ((AG x).length : Int) 2100)) (AG x) = AG (x.take 2100) := Acw _ x 2100
  have hql : (x.take 2100).length ≤ 2100 := by simp; omega
  have hqx : (x.take 2100).length ≤ x.length := by simp; omega
  have hcut2 : CP none (some ((AG (x.take 2100)).length : Int)) (AG x) = AG (x.take 2100) := by rw [Av, KQ, List.length_take, ← List.take_eq_take_min]
  have c1 := Ji (x.take 2100) (by omega)
  have c2 := K6 (x.take 2100) (by omega)
  have c3 := Uv (x.take 2100) (by omega)
  have c5 := RI (x.take 2100) (x.take 2100)
  rw [decide_eq_true rfl] at c5
  have hbl := Av (x.take 2100)
  have hbl0 := Av x
  obtain ⟨f, hf⟩ : ∃ f, (BG (x.take 2100)).1 = f := ⟨_, rfl⟩
  obtain ⟨e, he⟩ : ∃ e, (BG (x.take 2100)).2 = e := ⟨_, rfl⟩
  rw [hf, he] at c2 c3 hok
  have c4 := Ep f f
  rw [decide_eq_true rfl] at c4
  have s := Sf f
  clear hf he
  generalize x.take 2100 = q at *
  have hRm : (R.map Sh).length = R.length := List.length_map _
  have hWm : (W.map Cc).length = W.length := List.length_map _
  simp only [F5] at hx'
  simp only [Mn, Cc, Dn, Do, Cc] at c2 c3 c4 s ⊢
  by_cases he : e = 0
  ·rw [if_pos he] at hok
   repeat' (first | rw [hcut] | rw [hcut2] | refine Ai ?_ | (refine As ?_; first | refine cz (c1) ?_ | (refine QA c2 ?_; simp only [N7, IW]) | refine cz (c3) ?_ | refine cz (c4) ?_ | (refine Od s ?_; simp only [D0, Cd, Cn, CD, List.map_cons, List.map_nil]) | refine cz (c5) ?_) | refine Ah ?_ | refine nc ?_ ?_ | (with_reducible intro _ <;> (try (exfalso; omega))) | refine Aa ?_ | (refine nd ?_ ?_ <;> intro hg <;> first | exact xo hg | rw [hg]))
   all_goals first | (exfalso; omega) | skip
   refine Bd () hi (show i + 1 ≤ 5 by omega) ?_
   try dsimp only
   rw [hok, hcl, List.map_append, List.map_append, List.length_append, show (([f] : List Fr).length) = 1 from rfl]
   rw [show (((i + 1 : Nat) : Int) - ((W.length + 1 : Nat) : Int)) = (i : Int) - (W.length : Int) by omega]
   exact (Eo [(0, _, _), (1, _, _)])
  ·rw [if_neg he] at hok
   repeat' (first | rw [hcut] | rw [hcut2] | refine Ai ?_ | (refine As ?_; first | refine cz (c1) ?_ | (refine QA c2 ?_; simp only [N7, IW]) | refine cz (c3) ?_ | refine cz (c4) ?_ | (refine Od s ?_; simp only [D0, Cd, Cn, CD, List.map_cons, List.map_nil]) | refine cz (c5) ?_) | refine Ah ?_ | refine nc ?_ ?_ | (with_reducible intro _ <;> (try (exfalso; omega))) | refine Aa ?_ | (refine nd ?_ ?_ <;> intro hg <;> first | exact xo hg | rw [hg]))
   all_goals first | (exfalso; omega) | skip
   refine Bd () hi (show i + 1 ≤ 5 by omega) ?_
   try dsimp only
   rw [hok, List.append_nil, hcl, List.map_append]
   rw [show (((i + 1 : Nat) : Int) - (W.length : Int)) = (i : Int) - (W.length : Int) + 1 by omega]
   exact (Eo [(0, _, _)])
 ·repeat' (first | refine Ai ?_ | refine Ah ?_ | refine nc ?_ ?_ | (with_reducible intro _ <;> (try (exfalso; omega))) | refine Aa ?_ | (refine nd ?_ ?_ <;> intro hg <;> first | exact xo hg | rw [hg]))
  exact Fm X.length ⟨hT, Nat.le_refl _⟩ (AE)

set_option maxRecDepth 20000
theorem Sq : IH Tryz.prog 45 (fun _ : List (List UInt8) => True) (fun l => [.sl false false (l.map F5)]) :=
 (IH.slice Z6 Tryz.underlying45 (by rw [show Tryz.prog.cellsOf 23 = 1 by kernel_rfl]; omega) (by kernel_rfl)).map (fun y h => ⟨y, trivial, rfl⟩) (fun z hz => by rw [show Tryz.prog.cellsOf 45 = 1 by kernel_rfl]; rfl)

theorem Below.up {a b c : World} (h : Below a.heap.size a b) (k : Below b.heap.size b c) : Below a.heap.size a c := h.trans (k.mono h.size)
theorem Below.new (w : World) (o : Obj) : Below w.heap.size w (w.alloc o) := (Below.refl _ _).alloc (Nat.le_refl _) o
theorem Ie.up {w w' : World} {b : Nat} {cs : Array Value} {t : TypeId} (h : Ie w b cs t) (hb : Below w.heap.size w w') : Ie w' b cs t := h.below hb h.lt
theorem Df.part {w : World} {a : Option Addr} {n n' c k : Nat} {cs cs' : List Value} (h : Df w (.slice a n c) n' cs) (hk : k ≤ n) (hcs : ∀ (j : Nat) (u : Value), cs'[j]? = some u → cs[j]? = some u) : Df w (.slice a k c) k cs' := by
 obtain ⟨a', c', e, h1, h2, h3, h4⟩ := h
 cases e
 exact ⟨a, c, rfl, by omega, h2, h3, fun j u hu => h4 j u (hcs j u hu)⟩
theorem FO.part {w : World} {a : Option Addr} {n c k : Nat} {l : List UInt8} (h : FO w (.slice a n c) l) (hk : k ≤ l.length) : FO w (.slice a k c) (l.take k) := by
 have h' := h
 obtain ⟨a', c', e, h1, h2, h3, h4⟩ := h'
 cases e
 have := Df.part (k := k) (cs' := (l.take k).map vb) h hk (fun j u hu => by
  rw [List.map_take, List.getElem?_take] at hu
  split at hu
  ·exact hu
  ·cases hu)
 unfold FO
 rw [List.length_take, Nat.min_eq_left hk]
 exact this

open Go.ChangeShapes Go.WideShapes Go.ChangeAt Go.RowKit
theorem Ab8 : ownKnob Tryz.prog.godebug = none := by kernel_rfl
theorem MO : laidOutB Tryz.prog = true := by kernel_rfl
theorem O5 : mapsRowed Tryz.prog = true := by kernel_rfl
theorem Aaw : Tryz.prog.plainKeys = true := by kernel_rfl
theorem XY : Tryz.prog.stopsHeard = true := by kernel_rfl
theorem XZ : Tryz.prog.mayEnter = true := by kernel_rfl
theorem Vv : (({ program := "", sum := "", func := "", spec := "" } : OpenClaim).lifted == Tryz.prog.liftsFinal) = true := by kernel_rfl
theorem Aav : (Tryz.prog.make == some ({ program := "", sum := "", func := "", spec := "" } : OpenClaim).make) = true := by kernel_rfl

end Go.Proofs.YtbgcjnfhadhjeaaGreat