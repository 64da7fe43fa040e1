/- Walks by data and names, part 8: Numbers in walks: sums that stay in range, comparisons; slices: elements, parts, lengths. Rows of a walk's own: what is laid behind, what is written, what is left to all. -/
import Derived.IntWalk
import Derived.Laws.Small
import Derived.Great.BuildSlice
import Derived.Test.YtbgcjnfhadhjeaaGreatPk7
namespace Go.Proofs.YtbgcjnfhadhjeaaGreat
set_option maxRecDepth 20000
open Go.RowKit
def Im : IntKind → Int → Prop
 | .i8, n => -128 ≤ n ∧ n ≤ 127
 | .i16, n => -32768 ≤ n ∧ n ≤ 32767
 | .i32, n => -2147483648 ≤ n ∧ n ≤ 2147483647
 | .i64, n => -9223372036854775808 ≤ n ∧ n ≤ 9223372036854775807
 | .u8, n => 0 ≤ n ∧ n ≤ 255
 | .u16, n => 0 ≤ n ∧ n ≤ 65535
 | .u32, n => 0 ≤ n ∧ n ≤ 4294967295
 | .u64, n => 0 ≤ n ∧ n ≤ 18446744073709551615
theorem B9 {k : IntKind} {n : Int} (h : Im k n) : k.wrap n = n := by
 cases k <;> simp only [Im] at h
 ·exact IntWalk.i8_in n h
 ·exact IntWalk.i16_in n h
 ·exact IntWalk.i32_in n h
 ·exact IntWalk.i64_in n h
 ·exact IntWalk.u8_in n h
 ·exact IntWalk.u16_in n h
 ·exact IntWalk.u32_in n h
 ·exact IntWalk.u64_in n h
section
variable {P : Program} {cx : Cx} {s : St} {Q : VE → St → Prop} {ops rest : List Oper}
abbrev I (k : IntKind) (n : Int) : V := .d (.lit (.int k n))
theorem UT {t yt ty : TypeId} {x y : Operand} {k : IntKind} {a b : Int} (hx : Af s x = some (I k a)) (hy : Af s y = some (I k b)) (h : Im k (a + b)) : Bn P cx (.binOp .add t x y yt) ty s (I k (a + b)) := by
 refine Fy hx hy fun w => ?_
 have : (do eqGuard .add t x y (.int k a) (.int k b); binOp .add t (.int k a) (.int k b) : Sem Value) = pure (.int k (k.wrap (a + b))) := by simp [eqGuard, binOp, Op.intArith]
 rw [this, B9 h]; rfl
theorem UA {t yt ty : TypeId} {x y : Operand} {k : IntKind} {a b : Int} (hx : Af s x = some (I k a)) (hy : Af s y = some (I k b)) (h : Im k (a - b)) : Bn P cx (.binOp .sub t x y yt) ty s (I k (a - b)) := by
 refine Fy hx hy fun w => ?_
 have : (do eqGuard .sub t x y (.int k a) (.int k b); binOp .sub t (.int k a) (.int k b) : Sem Value) = pure (.int k (k.wrap (a - b))) := by simp [eqGuard, binOp, Op.intArith]
 rw [this, B9 h]; rfl
theorem UF {t yt ty : TypeId} {x y : Operand} {k : IntKind} {a b : Int} (hx : Af s x = some (I k a)) (hy : Af s y = some (I k b)) (h : Im k (a * b)) : Bn P cx (.binOp .mul t x y yt) ty s (I k (a * b)) := by
 refine Fy hx hy fun w => ?_
 have : (do eqGuard .mul t x y (.int k a) (.int k b); binOp .mul t (.int k a) (.int k b) : Sem Value) = pure (.int k (k.wrap (a * b))) := by simp [eqGuard, binOp, Op.intArith]
 rw [this, B9 h]; rfl
theorem ZI {t yt ty : TypeId} {x y : Operand} {k : IntKind} {a b : Int} (hx : Af s x = some (I k a)) (hy : Af s y = some (I k b)) : Bn P cx (.binOp .eql t x y yt) ty s (.d (.lit (.bool (decide (a = b))))) := by
 refine Fy hx hy fun w => ?_
 have : (do eqGuard .eql t x y (.int k a) (.int k b); binOp .eql t (.int k a) (.int k b) : Sem Value) = pure (.bool (decide (a = b))) := by simp [eqGuard, binOp, Op.intCmp]; rfl
 rw [this]; rfl
theorem ZC {t yt ty : TypeId} {x y : Operand} {k : IntKind} {a b : Int} (hx : Af s x = some (I k a)) (hy : Af s y = some (I k b)) : Bn P cx (.binOp .neq t x y yt) ty s (.d (.lit (.bool (decide (a ≠ b))))) := by
 refine Fy hx hy fun w => ?_
 have : (do eqGuard .neq t x y (.int k a) (.int k b); binOp .neq t (.int k a) (.int k b) : Sem Value) = pure (.bool (decide (a ≠ b))) := by
  simp only [eqGuard, binOp, Op.intCmp, ne_eq, not_true_eq_false, ↓reduceIte]
  have : (a != b) = decide (a ≠ b) := by by_cases h : a = b <;> simp [h]
  simp [this]
 rw [this]; rfl
theorem ZD {t yt ty : TypeId} {x y : Operand} {k : IntKind} {a b : Int} (hx : Af s x = some (I k a)) (hy : Af s y = some (I k b)) : Bn P cx (.binOp .lss t x y yt) ty s (.d (.lit (.bool (decide (a < b))))) := by
 refine Fy hx hy fun w => ?_
 have : (do eqGuard .lss t x y (.int k a) (.int k b); binOp .lss t (.int k a) (.int k b) : Sem Value) = pure (.bool (decide (a < b))) := by simp [eqGuard, binOp, Op.intCmp]
 rw [this]; rfl
theorem ZE {t yt ty : TypeId} {x y : Operand} {k : IntKind} {a b : Int} (hx : Af s x = some (I k a)) (hy : Af s y = some (I k b)) : Bn P cx (.binOp .leq t x y yt) ty s (.d (.lit (.bool (decide (a ≤ b))))) := by
 refine Fy hx hy fun w => ?_
 have : (do eqGuard .leq t x y (.int k a) (.int k b); binOp .leq t (.int k a) (.int k b) : Sem Value) = pure (.bool (decide (a ≤ b))) := by simp [eqGuard, binOp, Op.intCmp]
 rw [this]; rfl
theorem ZF {t yt ty : TypeId} {x y : Operand} {k : IntKind} {a b : Int} (hx : Af s x = some (I k a)) (hy : Af s y = some (I k b)) : Bn P cx (.binOp .gtr t x y yt) ty s (.d (.lit (.bool (decide (b < a))))) := by
 refine Fy hx hy fun w => ?_
 have : (do eqGuard .gtr t x y (.int k a) (.int k b); binOp .gtr t (.int k a) (.int k b) : Sem Value) = pure (.bool (decide (b < a))) := by simp [eqGuard, binOp, Op.intCmp]
 rw [this]; rfl
theorem ZG {t yt ty : TypeId} {x y : Operand} {k : IntKind} {a b : Int} (hx : Af s x = some (I k a)) (hy : Af s y = some (I k b)) : Bn P cx (.binOp .geq t x y yt) ty s (.d (.lit (.bool (decide (b ≤ a))))) := by
 refine Fy hx hy fun w => ?_
 have : (do eqGuard .geq t x y (.int k a) (.int k b); binOp .geq t (.int k a) (.int k b) : Sem Value) = pure (.bool (decide (b ≤ a))) := by simp [eqGuard, binOp, Op.intCmp]
 rw [this]; rfl
theorem P3 {t ty : TypeId} {x : Operand} (hx : Af s x = some (.d (.lit (.bool true)))) : Bn P cx (.unOp .not t x) ty s (.d (.lit (.bool false))) := P2 hx fun _ => rfl
theorem P4 {t ty : TypeId} {x : Operand} (hx : Af s x = some (.d (.lit (.bool false)))) : Bn P cx (.unOp .not t x) ty s (.d (.lit (.bool true))) := P2 hx fun _ => rfl
theorem UC {t ty : TypeId} {x : Operand} {p : Prop} {_ : Decidable p} (hx : Af s x = some (.d (.lit (.bool (decide p))))) : Bn P cx (.unOp .not t x) ty s (.d (.lit (.bool (decide (¬ p))))) := by
 refine P2 hx fun w => ?_
 have : (!decide p) = decide (¬ p) := by by_cases h : p <;> simp [h]
 rw [← this]; rfl
theorem UQ {t yt ty : TypeId} {x y : Operand} {a b : Bool} [hB : Wo P t] (hx : Af s x = some (.d (.lit (.bool a)))) (hy : Af s y = some (.d (.lit (.bool b)))) : Bn P cx (.binOp .eql t x y yt) ty s (.d (.lit (.bool (decide (a = b))))) := by
 refine Fy hx hy fun w => ?_
 have h := run_equal_bool (P := P) (w := w) t a b hB.und
 simp only [eqGuard, binOp, Sem.run_bind, Sem.run_pure]
 simp [h]; rfl
theorem UE {t yt ty : TypeId} {x y : Operand} {a b : Bool} [hB : Wo P t] (hx : Af s x = some (.d (.lit (.bool a)))) (hy : Af s y = some (.d (.lit (.bool b)))) : Bn P cx (.binOp .neq t x y yt) ty s (.d (.lit (.bool (decide (a ≠ b))))) := by
 refine Fy hx hy fun w => ?_
 have h := run_equal_bool (P := P) (w := w) t a b hB.und
 simp only [eqGuard, binOp, Sem.run_bind, Sem.run_pure]
 simp [h]
 cases a <;> cases b <;> rfl
theorem NL {op : BinOp} {t yt ty : TypeId} {x y : Operand} {k k' : IntKind} {a b : Int} {u : Value} (hx : Af s x = some (I k a)) (hy : Af s y = some (I k' b)) (hr : ∀ w, (binOp op t (.int k a) (.int k' b) : Sem Value).run P w = .ok u w) : Bn P cx (.binOp op t x y yt) ty s (.d (.lit u)) := by
 refine Fy hx hy fun w => ?_
 have : (eqGuard op t x y (.int k a) (.int k' b)).run P w = .ok () w := by
  unfold eqGuard
  cases op <;> simp
 rw [Sem.run_bind, this]
 exact hr w
theorem NJ {t1 t2 ty : TypeId} {x : Operand} {k1 k2 : IntKind} {a : Int} [h1 : Je P t1 k1] [h2 : Je P t2 k2] (hx : Af s x = some (I k1 a)) (h : Im k2 a) : Bn P cx (.convert t1 t2 x) ty s (I k2 a) := by
 refine UR hx fun w => ?_
 simp [convert, run_underlying h1.und w, run_underlying h2.und w, Conv.intToInt, B9 h]
theorem NI {t1 t2 ty : TypeId} {x : Operand} {k1 k2 : IntKind} {a : Int} [h1 : Je P t1 k1] [h2 : Je P t2 k2] (hx : Af s x = some (I k1 a)) : Bn P cx (.convert t1 t2 x) ty s (I k2 (k2.wrap a)) := by
 refine UR hx fun w => ?_
 simp [convert, run_underlying h1.und w, run_underlying h2.und w, Conv.intToInt]
theorem Cw {w : World} {t e : TypeId} {sz by_ : Nat} (hT : GP P t e sz by_) : (sizeOf e).run P w = .ok sz w := by
 obtain ⟨i, z, h1, h2, h3, h4, h5⟩ := hT.info
 simp [sizeOf, typeInfo, h1, h3]
end

def G.setRw (g : G) (k ver : Nat) (u : Value) : G := ⟨g.ex, g.bx, fun i => if i = k then u.ownBlock else g.rb i, fun i v => if i = k ∧ v = ver then some u else g.rw i v, g.pl, g.plex⟩
theorem GX {B nb : Nat} {g : G} {w w' : World} (hi : Cs B nb g w) {st : List E} (hs : AG B g w st) {k ver ver' : Nat} {e e' : TypeId} {sz sz' : Nat} {l l' : List (List D)} {nw : Bool} (hr : AB k st = some (true, nw, ver, e, sz, l))
  {v u : Value} (hv : g.rw k ver = some v) (hb : g.rb k = v.ownBlock) (hg : w.grownBy w' v.ownBlock) {xs : List Value} (h1 : drepss B (fun b => g.prot b ∧ some b ≠ u.ownBlock) w' l' xs) (h2 : (∀ x ∈ l', x.length = sz') ∧ ∀ u ∈ xs, u.oneCell' = true)
  (h3 : w'.ownsRow 0 e' sz' u l'.length xs) (hu : ∀ b, u.ownBlock = some b → v.ownBlock = some b ∨ w.heap.size ≤ b) (hver : (ver' = ver ∧ u = v) ∨ ver' = ver + 1) :
  BO B g w (g.setRw k ver' u) w' ∧ AG B (g.setRw k ver' u) w' (.r true nw k ver' e' sz' l' :: st) ∧ Cs B nb (g.setRw k ver' u) w' ∧ vrep B (g.setRw k ver' u) w' (.row k ver') u := by
 obtain ⟨v0, xs0, r1, r2, r3, r4, r5⟩ := hs.row hr
 rw [hv] at r1; cases r1
 have hlt : ∀ b, u.ownBlock = some b → b < w'.heap.size := fun b hb' => (h3.lt b hb').2
 have hkn : k < nb := hi.rwlt hv
 have hrw : ∀ {i j x}, g.rw i j = some x → (g.setRw k ver' u).rw i j = some x := fun {i j x} h => by
  simp only [G.setRw]
  split
  ·rename_i hc
   obtain ⟨rfl, rfl⟩ := hc
   rcases hver with ⟨rfl, rfl⟩ | hver
   ·rw [hv] at h; exact h
   ·have := r3.2.2 _ _ h; omega
  ·exact h
 have hown : ∀ b, (g.setRw k ver' u).own b → g.own b ∨ (u.ownBlock = some b ∧ w.heap.size ≤ b) := fun b ho => by
  rcases ho with ho | ⟨i, hk⟩ | ⟨i, hk⟩
  ·exact .inl (.inl ho)
  ·exact .inl (.inr (.inl ⟨i, hk⟩))
  ·simp only [G.setRw] at hk
   split at hk
   ·rcases hu b hk with h | h
    ·exact .inl (.inr (.inr ⟨k, hb.trans h⟩))
    ·exact .inr ⟨hk, h⟩
   ·exact .inl (.inr (.inr ⟨i, hk⟩))
 have hE : BO B g w (g.setRw k ver' u) w' := ⟨hg.os, hg.tape, hg.output, hg.size, id, hrw, fun b hb' hp => ⟨fun ho => by
  rcases hown b ho with h | h
  ·exact hp h
  ·omega, hg.block b hb' fun he => hp (.inr (.inr ⟨k, hb.trans he.symm⟩))⟩, fun _ h => h, fun b hb' => hg.block b (hi.exlt hb') fun he => hi.exrb (hb.trans he.symm) hb', .refl⟩
 have hone : u.oneCell' = true := by
  rcases h3.2 with ⟨rfl, _⟩ | ⟨b, c, cur, rfl, _⟩ <;> rfl
 have hu' : (g.setRw k ver' u).rw k ver' = some u := by simp [G.setRw]
 refine ⟨hE, ⟨fun {i o x} hc => ?_, fun {i o nw' vr e2 sz2 l2} hr2 => ?_, fun {i r T tm0} hl => ?_⟩, ⟨fun {i b} h => ?_, fun {i b} h => ?_, fun {i j x} h => ?_, hi.bxinj, fun {i i' b} h h' => ?_, fun {i i' b} h h' => ?_, fun h => by have := hi.exlt h; have := hg.size; omega, hi.exbx, fun {i b} h he => ?_, hi.plB, Nat.le_trans hi.base hg.size⟩, by simp only [vrep]; exact ⟨hu', hone⟩⟩
 ·simp only [Ap] at hc
  obtain ⟨b, rcs, ty, x', m1, m2, m3, m4⟩ := hs.cell hc
  exact ⟨b, rcs, ty, x', m1, (hg.block b (hi.bxlt m1).1 fun he => hi.apart m1 (hb.trans he.symm)).trans m2, m3, hE.vrep m4⟩
 ·simp only [AB] at hr2
  split at hr2
  ·rename_i hbq
   have := Nat.eq_of_beq_eq_true hbq
   subst this
   cases hr2
   refine ⟨u, xs, hu', AL (Nat.le_refl _) (fun b _ hp => ⟨fun ho => ?_, rfl⟩) h1, ⟨h2.1, h2.2, fun j x hx => ?_⟩, fun hn b hb' => ?_, .inl ⟨rfl, h3, by simp [G.setRw]⟩⟩
   ·rcases hown b ho with h | h
    ·exact hp.1 h
    ·exact hp.2 h.1.symm
   ·simp only [G.setRw] at hx
    split at hx
    ·rename_i hc; omega
    ·have := r3.2.2 _ _ hx
     rcases hver with ⟨h, _⟩ | h <;> omega
   ·rcases hu b hb' with h | h
    ·exact r4 hn b h
    ·exact Nat.le_trans hi.base h
  ·rename_i hbq
   have hne : i ≠ k := fun e => by subst e; rw [Nat.beq_refl] at hbq; cases hbq
   exact hs.keepRow hE hg (by simp [G.setRw, hne]) (by funext j; simp [G.setRw, hne]) (fun b hb' he => hne (hi.rbinj hb' (hb.trans he.symm))) hr2
 ·simp only [Au] at hl
  obtain ⟨h1, h2⟩ := hs.loop hl
  exact ⟨fun lp e => let ⟨b, m1, m2⟩ := h1 lp e; ⟨b, m1, (hg.block b (hi.bxlt m1).1 fun he => hi.apart m1 (hb.trans he.symm)).trans m2⟩, fun ht => hE.vrep (h2 ht)⟩
 ·have := hi.bxlt h; have := hg.size; omega
 ·simp only [G.setRw] at h
  split at h
  ·have := hlt b h; omega
  ·have := hi.rblt h; have := hg.size; omega
 ·simp only [G.setRw] at h
  split at h
  ·omega
  ·exact hi.rwlt h
 ·simp only [G.setRw] at h h'
  split at h <;> split at h'
  ·omega
  ·rcases hu b h with h2 | h2
   ·have := hi.rbinj (hb.trans h2) h'; omega
   ·have := (hi.rblt h').1; omega
  ·rcases hu b h' with h2 | h2
   ·have := hi.rbinj (hb.trans h2) h; omega
   ·have := (hi.rblt h).1; omega
  ·exact hi.rbinj h h'
 ·simp only [G.setRw] at h'
  split at h'
  ·rcases hu b h' with h2 | h2
   ·exact hi.apart h (hb.trans h2)
   ·have := (hi.bxlt h).1; omega
  ·exact hi.apart h h'
 ·simp only [G.setRw] at h
  split at h
  ·rcases hu b h with h2 | h2
   ·exact hi.exrb (hb.trans h2) he
   ·have := hi.exlt he; omega
  ·exact hi.exrb h he
theorem Lv {B nb : Nat} {g : G} {w : World} (hi : Cs B nb g w) {st : List E} (hs : AG B g w st) {k ver : Nat} {e : TypeId} {sz : Nat} {l : List (List D)} {nw : Bool} (hr : AB k st = some (true, nw, ver, e, sz, l)) :
  ∃ g', BO B g w g' w ∧ AG B g' w (.r false nw k ver e sz l :: st) ∧ Cs B nb g' w := by
 obtain ⟨v, xs, r1, r2, r3, r4, r5⟩ := hs.row hr
 rcases r5 with ⟨_, r5, r6⟩ | ⟨h, _⟩
 ·let g' : G := ⟨g.ex, g.bx, fun i => if i = k then none else g.rb i, g.rw, g.pl, g.plex⟩
  have hown : ∀ b, g'.own b → g.own b ∧ v.ownBlock ≠ some b := fun b ho => by
   rcases ho with ho | ⟨i, hk⟩ | ⟨i, hk⟩
   ·exact ⟨.inl ho, fun he => hi.exrb (r6.trans he) ho⟩
   ·exact ⟨.inr (.inl ⟨i, hk⟩), fun he => hi.apart hk (r6.trans he)⟩
   ·simp only [g'] at hk
    split at hk
    ·cases hk
    ·rename_i hne
     exact ⟨.inr (.inr ⟨i, hk⟩), fun he => hne (hi.rbinj hk (r6.trans he))⟩
  have hE : BO B g w g' w := ⟨rfl, rfl, rfl, Nat.le_refl _, id, id, fun b _ hp => ⟨fun ho => hp (hown b ho).1, rfl⟩, fun _ h => h, fun _ _ => rfl, .refl⟩
  refine ⟨g', hE, ⟨fun {i o x} hc => ?_, fun {i o nw' vr e2 sz2 l2} hr2 => ?_, fun {i r T tm0} hl => ⟨(hs.loop hl).1, fun ht => hE.vrep ((hs.loop hl).2 ht)⟩⟩, ⟨hi.bxlt, fun {i b} h => ?_, hi.rwlt, hi.bxinj, fun {i i' b} h h' => ?_, fun {i i' b} h h' => ?_, hi.exlt, hi.exbx, fun {i b} h => ?_, hi.plB, hi.base⟩⟩
  ·simp only [Ap] at hc
   obtain ⟨b, rcs, ty, x', m1, m2, m3, m4⟩ := hs.cell hc
   exact ⟨b, rcs, ty, x', m1, m2, m3, hE.vrep m4⟩
  ·simp only [AB] at hr2
   split at hr2
   ·rename_i hbq
    have := Nat.eq_of_beq_eq_true hbq
    subst this
    cases hr2
    refine ⟨v, xs, r1, hE.drepss r2, r3, r4, .inr ⟨rfl, by simp [g'], ?_⟩⟩
    refine Gs (AL (Nat.le_refl _) (fun b _ hp => ⟨fun ho => hp (hown b ho).1, rfl⟩) r2) r3.1 r3.2.1 r5 r4 fun b hb ho => (hown b ho).2 hb
   ·rename_i hbq
    have hne : i ≠ k := fun e => by subst e; rw [Nat.beq_refl] at hbq; cases hbq
    exact hs.keepRow hE (x := none) ⟨rfl, rfl, rfl, Nat.le_refl _, fun _ _ _ => rfl⟩ (by simp [g', hne]) rfl (by simp) hr2
  ·simp only [g'] at h
   split at h
   ·cases h
   ·exact hi.rblt h
  ·simp only [g'] at h h'
   split at h
   ·cases h
   ·split at h'
    ·cases h'
    ·exact hi.rbinj h h'
  ·simp only [g'] at h'
   split at h'
   ·cases h'
   ·exact hi.apart h h'
  ·simp only [g'] at h
   split at h
   ·cases h
   ·exact hi.exrb h
 ·cases h
section
variable {P : Program} {cx : Cx} {s : St} {Q : VE → St → Prop} {ops rest : List Oper}
end

end Go.Proofs.YtbgcjnfhadhjeaaGreat