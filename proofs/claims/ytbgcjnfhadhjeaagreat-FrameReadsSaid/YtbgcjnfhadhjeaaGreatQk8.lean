/- Walks by data and names, part 8: Rows of a walk's own: what is laid behind, what is written, what is left to all. append, in walks. -/
import Derived.Great.BuildSlice
import Derived.Test.YtbgcjnfhadhjeaaGreatQk7
namespace Go.Proofs.YtbgcjnfhadhjeaaGreat
set_option maxRecDepth 20000
open Go.RowKit
def G.setRw (g : G) (k ver : Nat) (u : Value) : G := ⟨g.ex, g.bx, fun i => if i = k then u.ownBlock else g.rb i, fun i v => if i = k ∧ v = ver then some u else g.rw i v, g.pl, g.plex⟩
theorem He {B nb : Nat} {g : G} {w w' : World} (hi : CG B nb g w) {st : List E} (hs : AC B g w st) {k ver ver' : Nat} {e e' : TypeId} {sz sz' : Nat} {l l' : List (List D)} {nw : Bool} (hr : Az k st = some (true, nw, ver, e, sz, l))
  {v u : Value} (hv : g.rw k ver = some v) (hb : g.rb k = v.ownBlock) (hg : w.grownBy w' v.ownBlock) {xs : List Value} (h1 : drepss B (fun b => g.prot b ∧ some b ≠ u.ownBlock) w' l' xs) (h2 : (∀ x ∈ l', x.length = sz') ∧ ∀ u ∈ xs, u.oneCell' = true)
  (h3 : w'.ownsRow 0 e' sz' u l'.length xs) (hu : ∀ b, u.ownBlock = some b → v.ownBlock = some b ∨ w.heap.size ≤ b) (hver : (ver' = ver ∧ u = v) ∨ ver' = ver + 1) :
  BZ B g w (g.setRw k ver' u) w' ∧ AC B (g.setRw k ver' u) w' (.r true nw k ver' e' sz' l' :: st) ∧ CG B nb (g.setRw k ver' u) w' ∧ vrep B (g.setRw k ver' u) w' (.row k ver') u := by
 obtain ⟨v0, xs0, r1, r2, r3, r4, r5⟩ := hs.row hr
 rw [hv] at r1; cases r1
 have hlt : ∀ b, u.ownBlock = some b → b < w'.heap.size := fun b hb' => (h3.lt b hb').2
 have hkn : k < nb := hi.rwlt hv
 have hrw : ∀ {i j x}, g.rw i j = some x → (g.setRw k ver' u).rw i j = some x := fun {i j x} h => by
  simp only [G.setRw]
  split
  ·rename_i hc
   obtain ⟨rfl, rfl⟩ := hc
   rcases hver with ⟨rfl, rfl⟩ | hver
   ·rw [hv] at h; exact h
   ·have := r3.2.2 _ _ h; omega
  ·exact h
 have hown : ∀ b, (g.setRw k ver' u).own b → g.own b ∨ (u.ownBlock = some b ∧ w.heap.size ≤ b) := fun b ho => by
  rcases ho with ho | ⟨i, hk⟩ | ⟨i, hk⟩
  ·exact .inl (.inl ho)
  ·exact .inl (.inr (.inl ⟨i, hk⟩))
  ·simp only [G.setRw] at hk
   split at hk
   ·rcases hu b hk with h | h
    ·exact .inl (.inr (.inr ⟨k, hb.trans h⟩))
    ·exact .inr ⟨hk, h⟩
   ·exact .inl (.inr (.inr ⟨i, hk⟩))
 have hE : BZ B g w (g.setRw k ver' u) w' := ⟨hg.os, hg.tape, hg.output, hg.size, id, hrw, fun b hb' hp => ⟨fun ho => by
  rcases hown b ho with h | h
  ·exact hp h
  ·omega, hg.block b hb' fun he => hp (.inr (.inr ⟨k, hb.trans he.symm⟩))⟩, fun _ h => h, fun b hb' => hg.block b (hi.exlt hb') fun he => hi.exrb (hb.trans he.symm) hb', .refl⟩
 have hone : u.oneCell' = true := by
  rcases h3.2 with ⟨rfl, _⟩ | ⟨b, c, cur, rfl, _⟩ <;> rfl
 have hu' : (g.setRw k ver' u).rw k ver' = some u := by simp [G.setRw]
 refine ⟨hE, ⟨fun {i o x} hc => ?_, fun {i o nw' vr e2 sz2 l2} hr2 => ?_, fun {i r T tm0} hl => ?_⟩, ⟨fun {i b} h => ?_, fun {i b} h => ?_, fun {i j x} h => ?_, hi.bxinj, fun {i i' b} h h' => ?_, fun {i i' b} h h' => ?_, fun h => by have := hi.exlt h; have := hg.size; omega, hi.exbx, fun {i b} h he => ?_, hi.plB, Nat.le_trans hi.base hg.size⟩, by simp only [vrep]; exact ⟨hu', hone⟩⟩
 ·simp only [Aq] at hc
  obtain ⟨b, rcs, ty, x', m1, m2, m3, m4⟩ := hs.cell hc
  exact ⟨b, rcs, ty, x', m1, (hg.block b (hi.bxlt m1).1 fun he => hi.apart m1 (hb.trans he.symm)).trans m2, m3, hE.vrep m4⟩
 ·simp only [Az] at hr2
  split at hr2
  ·rename_i hbq
   have := Nat.eq_of_beq_eq_true hbq
   subst this
   cases hr2
   refine ⟨u, xs, hu', AL (Nat.le_refl _) (fun b _ hp => ⟨fun ho => ?_, rfl⟩) h1, ⟨h2.1, h2.2, fun j x hx => ?_⟩, fun hn b hb' => ?_, .inl ⟨rfl, h3, by simp [G.setRw]⟩⟩
   ·rcases hown b ho with h | h
    ·exact hp.1 h
    ·exact hp.2 h.1.symm
   ·simp only [G.setRw] at hx
    split at hx
    ·rename_i hc; omega
    ·have := r3.2.2 _ _ hx
     rcases hver with ⟨h, _⟩ | h <;> omega
   ·rcases hu b hb' with h | h
    ·exact r4 hn b h
    ·exact Nat.le_trans hi.base h
  ·rename_i hbq
   have hne : i ≠ k := fun e => by subst e; rw [Nat.beq_refl] at hbq; cases hbq
   exact hs.keepRow hE hg (by simp [G.setRw, hne]) (by funext j; simp [G.setRw, hne]) (fun b hb' he => hne (hi.rbinj hb' (hb.trans he.symm))) hr2
 ·simp only [Au] at hl
  obtain ⟨h1, h2⟩ := hs.loop hl
  exact ⟨fun lp e => let ⟨b, m1, m2⟩ := h1 lp e; ⟨b, m1, (hg.block b (hi.bxlt m1).1 fun he => hi.apart m1 (hb.trans he.symm)).trans m2⟩, fun ht => hE.vrep (h2 ht)⟩
 ·have := hi.bxlt h; have := hg.size; omega
 ·simp only [G.setRw] at h
  split at h
  ·have := hlt b h; omega
  ·have := hi.rblt h; have := hg.size; omega
 ·simp only [G.setRw] at h
  split at h
  ·omega
  ·exact hi.rwlt h
 ·simp only [G.setRw] at h h'
  split at h <;> split at h'
  ·omega
  ·rcases hu b h with h2 | h2
   ·have := hi.rbinj (hb.trans h2) h'; omega
   ·have := (hi.rblt h').1; omega
  ·rcases hu b h' with h2 | h2
   ·have := hi.rbinj (hb.trans h2) h; omega
   ·have := (hi.rblt h).1; omega
  ·exact hi.rbinj h h'
 ·simp only [G.setRw] at h'
  split at h'
  ·rcases hu b h' with h2 | h2
   ·exact hi.apart h (hb.trans h2)
   ·have := (hi.bxlt h).1; omega
  ·exact hi.apart h h'
 ·simp only [G.setRw] at h
  split at h
  ·rcases hu b h with h2 | h2
   ·exact hi.exrb (hb.trans h2) he
   ·have := hi.exlt he; omega
  ·exact hi.exrb h he
theorem Lw {B nb : Nat} {g : G} {w : World} (hi : CG B nb g w) {st : List E} (hs : AC B g w st) {k ver : Nat} {e : TypeId} {sz : Nat} {l : List (List D)} {nw : Bool} (hr : Az k st = some (true, nw, ver, e, sz, l)) :
  ∃ g', BZ B g w g' w ∧ AC B g' w (.r false nw k ver e sz l :: st) ∧ CG B nb g' w := by
 obtain ⟨v, xs, r1, r2, r3, r4, r5⟩ := hs.row hr
 rcases r5 with ⟨_, r5, r6⟩ | ⟨h, _⟩
 ·let g' : G := ⟨g.ex, g.bx, fun i => if i = k then none else g.rb i, g.rw, g.pl, g.plex⟩
  have hown : ∀ b, g'.own b → g.own b ∧ v.ownBlock ≠ some b := fun b ho => by
   rcases ho with ho | ⟨i, hk⟩ | ⟨i, hk⟩
   ·exact ⟨.inl ho, fun he => hi.exrb (r6.trans he) ho⟩
   ·exact ⟨.inr (.inl ⟨i, hk⟩), fun he => hi.apart hk (r6.trans he)⟩
   ·simp only [g'] at hk
    split at hk
    ·cases hk
    ·rename_i hne
     exact ⟨.inr (.inr ⟨i, hk⟩), fun he => hne (hi.rbinj hk (r6.trans he))⟩
  have hE : BZ B g w g' w := ⟨rfl, rfl, rfl, Nat.le_refl _, id, id, fun b _ hp => ⟨fun ho => hp (hown b ho).1, rfl⟩, fun _ h => h, fun _ _ => rfl, .refl⟩
  refine ⟨g', hE, ⟨fun {i o x} hc => ?_, fun {i o nw' vr e2 sz2 l2} hr2 => ?_, fun {i r T tm0} hl => ⟨(hs.loop hl).1, fun ht => hE.vrep ((hs.loop hl).2 ht)⟩⟩, ⟨hi.bxlt, fun {i b} h => ?_, hi.rwlt, hi.bxinj, fun {i i' b} h h' => ?_, fun {i i' b} h h' => ?_, hi.exlt, hi.exbx, fun {i b} h => ?_, hi.plB, hi.base⟩⟩
  ·simp only [Aq] at hc
   obtain ⟨b, rcs, ty, x', m1, m2, m3, m4⟩ := hs.cell hc
   exact ⟨b, rcs, ty, x', m1, m2, m3, hE.vrep m4⟩
  ·simp only [Az] at hr2
   split at hr2
   ·rename_i hbq
    have := Nat.eq_of_beq_eq_true hbq
    subst this
    cases hr2
    refine ⟨v, xs, r1, hE.drepss r2, r3, r4, .inr ⟨rfl, by simp [g'], ?_⟩⟩
    refine GD (AL (Nat.le_refl _) (fun b _ hp => ⟨fun ho => hp (hown b ho).1, rfl⟩) r2) r3.1 r3.2.1 r5 r4 fun b hb ho => (hown b ho).2 hb
   ·rename_i hbq
    have hne : i ≠ k := fun e => by subst e; rw [Nat.beq_refl] at hbq; cases hbq
    exact hs.keepRow hE (x := none) ⟨rfl, rfl, rfl, Nat.le_refl _, fun _ _ _ => rfl⟩ (by simp [g', hne]) rfl (by simp) hr2
  ·simp only [g'] at h
   split at h
   ·cases h
   ·exact hi.rblt h
  ·simp only [g'] at h h'
   split at h
   ·cases h
   ·split at h'
    ·cases h'
    ·exact hi.rbinj h h'
  ·simp only [g'] at h'
   split at h'
   ·cases h'
   ·exact hi.apart h h'
  ·simp only [g'] at h
   split at h
   ·cases h
   ·exact hi.exrb h
 ·cases h
section
variable {P : Program} {cx : Cx} {s : St} {Q : VE → St → Prop} {ops rest : List Oper}
end

inductive Ic (st : List E) (sz : Nat) : V → List (List D) → Prop where
 | sl {c f : Bool} {l : List (List D)} (h : ∀ x ∈ l, x.length = sz) : Ic st sz (.d (.sl c f l)) l
 | row {k ver : Nat} {o nw : Bool} {e : TypeId} {l : List (List D)} (h : Az k st = some (o, nw, ver, e, sz, l)) : Ic st sz (.row k ver) l
 | nil : Ic st sz (.d (.lit (.slice none 0 0))) []
theorem Df.of_drep {B : Nat} {U : Nat → Prop} {w : World} {c f : Bool} {l : List (List D)} {u : Value} (h : drep B U w (.sl c f l) u) {sz : Nat} (hz : ∀ x ∈ l, x.length = sz) : ∃ us, Df w u l.length us ∧ drepss B U w l us ∧ us.length = l.length * sz ∧ ∀ u ∈ us, u.oneCell' = true := by
 simp only [drep] at h
 obtain ⟨a, cap, cs, e1, e2, e3, e4, e5, ⟨sz', e6⟩, e0, e7, e8⟩ := h
 refine ⟨cs, ⟨a, cap, e1, e2, e3, e5, fun j u hj => ?_⟩, e8, Dc hz e8, e0⟩
 obtain ⟨b, o, k1, _, k2⟩ := e7 j u hj
 exact ⟨b, o, k1, k2⟩
theorem Ic.rep {B : Nat} {g : G} {w : World} {st : List E} (hs : AC B g w st) {sz : Nat} {v : V} {l : List (List D)} (h : Ic st sz v l) {u : Value} (hu : vrep B g w v u) : ∃ us, Df w u l.length us ∧ drepss B g.prot w l us ∧ us.length = l.length * sz ∧ (∀ u ∈ us, u.oneCell' = true) ∧ ∀ x ∈ l, x.length = sz := by
 cases h with
 | sl h =>
  simp only [vrep] at hu
  obtain ⟨us, h1, h2, h3, h4⟩ := Df.of_drep hu h
  exact ⟨us, h1, h2, h3, h4, h⟩
 | row h =>
  simp only [vrep] at hu
  obtain ⟨v, xs, r1, r2, r3, r4, r5⟩ := hs.row h
  rw [hu.1] at r1; cases r1
  rcases r5 with ⟨_, r5, _⟩ | ⟨_, _, r5⟩
  ·exact ⟨xs, Df.of_own r5, r2, Dc r3.1 r2, r3.2.1, r3.1⟩
  ·obtain ⟨us, h1, h2, h3, h4⟩ := Df.of_drep r5 r3.1
   exact ⟨us, h1, h2, h3, h4, r3.1⟩
 | nil => simp only [vrep, drep] at hu; subst hu; exact ⟨[], Df.nil w, by simp only [drepss], by simp, by simp, by simp⟩
section
variable {P : Program} {w : World}
theorem HZ {e : TypeId} {size : Nat} {z : Value} {need cap : Nat} {xs : List Value} (hz : z.cells.size = size) (hl : xs.length = need * size) (h1 : need ≤ cap) (h2 : cap ≤ maxLen) :
  (w.drew.alloc (.cells (xs.toArray ++ Builtin.zeroCells z.cells (cap - need)) e)).ownsRow w.heap.size e size (.slice (some ⟨w.heap.size, 0, none⟩) need cap) need xs := by
 refine ⟨hl, .inr ⟨w.heap.size, cap, _, rfl, Nat.le_refl _, heap_alloc_new w.drew _, h1, h2, ?_, ?_⟩⟩
 ·simp only [Array.size_append, List.size_toArray, size_zeroCells, hz, hl, ← Nat.add_mul]
  congr 1; omega
 ·simp only [Array.toList_append]
  rw [← hl]; exact List.take_left
theorem Ka (w : World) (o : Obj) : Below w.heap.size w (w.drew.alloc o) := ⟨rfl, rfl, rfl, by simp, fun k hk => Below.heap_alloc w.drew o k hk⟩
theorem E4 {t ty e : TypeId} {size bytes : Nat} (hE : G4 P t e size bytes) {v : Value} {n : Nat} {xs : List Value} (hown : w.ownsRow 0 e size v n xs) {x : Value} {m : Nat} {news : List Value} (hsl : Df w x m news) (hl : news.length = m * size) (h1 : ∀ u ∈ news, u.oneCell' = true)
  (h63 : n + m ≤ maxLen) (hbytes : (n + m) * bytes ≤ 140737488355328) :
  ∃ v' w', (Builtin.append_ #[t, t] ty #[v, x]).run P w = .ok v' w' ∧ w'.ownsRow 0 e size v' (n + m) (xs ++ news) ∧ w.grownBy w' v.ownBlock ∧ ∀ b, v'.ownBlock = some b → v.ownBlock = some b ∨ w.heap.size ≤ b := by
 obtain ⟨ht, ⟨i, z, hi, hz, rfl, rfl, hzs⟩, hp⟩ := hE
 obtain ⟨ad, c, rfl, hmc, hcm, hnil, hrd⟩ := hsl
 cases ad with
 | none =>
  obtain rfl : c = 0 := hnil rfl
  obtain rfl : m = 0 := by omega
  obtain rfl : news = [] := List.eq_nil_of_length_eq_zero (by simpa using hl)
  exact ⟨v, w, run_append_owned_none w 0 t ty e i i.size ht hi v n xs hown, by simpa using hown, KA _ _, fun b hb => .inl hb⟩
 | some ad =>
  have hsmall : n + m ≤ 9223372036854775807 := by simp only [maxLen] at h63; omega
  have hlen : (xs ++ news).length = (n + m) * i.size := by rw [List.length_append, hown.1, hl, Nat.add_mul]
  by_cases hm : m = 0
  ·subst hm
   obtain rfl : news = [] := List.eq_nil_of_length_eq_zero (by simpa using hl)
   have hnews : ∀ (j : Nat) u, ([] : List Value)[j]? = some u → w.cell? (ad.add j) = some u := fun j u hj => by simp at hj
   rcases hown.2 with ⟨rfl, rfl⟩ | ⟨g, cap, cur, rfl, hbg, hg, hnc, hcm', hcs, htake⟩
   ·have hx : xs = [] := List.eq_nil_of_length_eq_zero (by simpa using hown.1)
    subst hx
    refine ⟨.slice none 0 0, w, ?_, World.ownsRow_nil w 0 e i.size, KA _ _, fun b hb => by simp [Value.ownBlock] at hb⟩
    simp [Builtin.append_, run_underlying ht, sizeOf, typeInfo, hi, Builtin.lenOf, Builtin.firstCells, loadCells, loadCellsFrom]
   ·have hfit : n * i.size + ([] : List Value).length ≤ cur.size := by rw [hcs]; simpa using Nat.mul_le_mul_right _ hnc
    have hr := run_append_room (P := P) w t ty e i ht hi g n cap cur hg ad 0 c [] (by simp) hnews (by simp) (by omega) hfit
    refine ⟨_, _, hr, ⟨hlen, .inr ⟨g, cap, _, rfl, hbg, setRow_heap w g cur _ e _ hg, by omega, hcm', ?_, ?_⟩⟩, Cj w g _, fun b hb => .inl hb⟩
    ·simp only [List.size_toArray, List.length_append, List.length_take, List.length_drop, Array.length_toList, List.length_nil] at hfit ⊢
     omega
    ·rw [htake, ← hlen]
     exact List.take_left
  ·have hpos : 0 < news.length := by rw [hl]; exact Nat.mul_pos (by omega) hp
   obtain ⟨b0, o0, e1, _⟩ := hrd 0 news[0] (by simp [hpos])
   cases e1
   have hnews : ∀ (j : Nat) u, news[j]? = some u → w.cell? ((⟨b0, o0, none⟩ : Addr).add j) = some u := fun j u hu => by
    obtain ⟨b', o', e2, hc⟩ := hrd j u hu
    cases e2
    have hadd : (⟨b0, o0, none⟩ : Addr).add j = ⟨b0, o0 + j, none⟩ := by unfold Addr.add; split <;> simp_all
    rw [hadd]; exact hc
   rcases hown.2 with ⟨rfl, rfl⟩ | ⟨g, cap, cur, rfl, hbg, hg, hnc, hcm', hcs, htake⟩
   ·have hx : xs = [] := List.eq_nil_of_length_eq_zero (by simpa using hown.1)
    subst hx
    have hr := run_append_nil (P := P) w t ty e i z ht hi hz ⟨b0, o0, none⟩ m c news hl hnews (by omega) (by omega) (by have hb := hbytes; simp only [Nat.zero_add] at hb; omega)
    have hgo := HZ (w := w) (e := e) hzs hl (grownCap_ge w m 0 e) (grownCap_le_maxLen w m 0 e (by omega))
    refine ⟨_, _, hr, by simpa using E7 hgo (Nat.zero_le _), ⟨rfl, rfl, rfl, by simp, fun k hk _ => Below.heap_alloc w.drew _ k hk⟩, fun b hb => .inr ?_⟩
    simp [Value.ownBlock] at hb; omega
   ·by_cases hroom : n + m ≤ cap
    ·have hfit : n * i.size + news.length ≤ cur.size := by rw [hl, hcs, ← Nat.add_mul]; exact Nat.mul_le_mul_right _ hroom
     have hr := run_append_room (P := P) w t ty e i ht hi g n cap cur hg ⟨b0, o0, none⟩ m c news hl hnews h1 hroom hfit
     refine ⟨_, _, hr, ⟨hlen, .inr ⟨g, cap, _, rfl, hbg, setRow_heap w g cur _ e _ hg, hroom, hcm', ?_, ?_⟩⟩, Cj w g _, fun b hb => .inl hb⟩
     ·simp only [List.size_toArray, List.length_append, List.length_take, List.length_drop, Array.length_toList]
      omega
     ·rw [htake, ← hlen]
      exact List.take_left
    ·have holds : ∀ (j : Nat) u, xs[j]? = some u → w.cell? ((⟨g, 0, none⟩ : Addr).add j) = some u := hown.cells (g := g) rfl
     have hr := run_append_grow (P := P) w t ty e i z ht hi hz ⟨g, 0, none⟩ n cap xs hown.1 holds ⟨b0, o0, none⟩ m c news hl hnews (by omega) (by omega) (growslice_fits (by omega) hbytes)
     have hgo := HZ (w := w) (e := e) hzs hlen (grownCap_ge w (n + m) cap e) (grownCap_le_maxLen w (n + m) cap e h63)
     refine ⟨_, _, hr, by simpa using E7 hgo (Nat.zero_le _), ⟨rfl, rfl, rfl, by simp, fun k hk _ => Below.heap_alloc w.drew _ k hk⟩, fun b hb => .inr ?_⟩
     simp [Value.ownBlock] at hb; omega
end
section
variable {P : Program} {cx : Cx} {s : St} {Q : VE → St → Prop} {ops rest : List Oper}
theorem EK {a : Act} {w : World} {x y : Operand} {t ty : TypeId} {u w'} (h : (Builtin.append_ #[t, t] ty #[a.eval x, a.eval y]).run P w = .ok u w') : (execOp a.eval (IE (.call { callee := .builtin .append, args := #[x, y], argTypes := #[t, t] }) ty)).run P w = .ok (.value u) w' := by
 simp [execOp, resolve, invoke, builtin, h]
theorem Abu {t ty e : TypeId} {x y : Operand} {k ver sz by_ : Nat} {l l2 : List (List D)} {nw : Bool} {v2 : V} [hE : EQ P t e sz by_] (hx : Af s x = some (.row k ver)) (hr : Az k s.st = some (true, nw, ver, e, sz, l)) (hy : Af s y = some v2) (hsrc : Ic s.st sz v2 l2)
  (hb : (l.length + l2.length) * by_ ≤ 140737488355328) (h0 : 0 < by_) : Y4 P cx (.call { callee := .builtin .append, args := #[x, y], argTypes := #[t, t] }) ty s (.row k (ver + 1)) (.r true nw k (ver + 1) e sz (l ++ l2) :: s.st) s.nb := fun g a w hS => by
 have hx' := hS.eval hx
 simp only [vrep] at hx'
 obtain ⟨v, xs, r1, r2, r3, r4, r5⟩ := hS.st.row hr
 rw [hx'.1] at r1; cases r1
 rcases r5 with ⟨_, r5, r6⟩ | ⟨h, _⟩
 ·obtain ⟨us, s1, s2, s3, s4, s5⟩ := hsrc.rep hS.st (hS.eval hy)
  have hml : l.length + l2.length ≤ maxLen := by
   have := Nat.le_mul_of_pos_right (l.length + l2.length) h0
   unfold maxLen; omega
  obtain ⟨v', w', hrun, h1, h2, h3⟩ := E4 (ty := ty) hE.elem r5 s1 s3 s4 hml hb
  have hold : ∀ b, b < w.heap.size → g.prot b → (g.prot b ∧ some b ≠ v'.ownBlock) ∧ w'.heap[b]? = w.heap[b]? := fun b hb' hp => by
   refine ⟨⟨hp, fun he => ?_⟩, h2.block b hb' fun he => hp (.inr (.inr ⟨k, r6.trans he.symm⟩))⟩
   rcases h3 b he.symm with h | h
   ·exact hp (.inr (.inr ⟨k, r6.trans h⟩))
   ·omega
  obtain ⟨m1, m2, m3, m4⟩ := He hS.inv hS.st hr hx'.1 r6 h2 (Fs (AL (Nat.le_refl _) hold r2) (AL (Nat.le_refl _) hold s2))
   ⟨fun x hx => (List.mem_append.1 hx).elim (r3.1 x) (s5 x), fun u hu => (List.mem_append.1 hu).elim (r3.2.1 u) (s4 u)⟩ (by rw [List.length_append]; exact h1) h3 (.inr rfl)
  exact ⟨v', _, w', EK hrun, m1, m2, m3, m4⟩
 ·cases h
theorem Ns {t ty e : TypeId} {x y : Operand} {sz by_ k : Nat} {l2 : List (List D)} {v2 : V} {tm : List (Nat × V)} {st : List E} [hE : EQ P t e sz by_] (hx : Af ⟨tm, st, 0⟩ x = some (.d (.lit (.slice none 0 0)))) (hy : Af ⟨tm, st, 0⟩ y = some v2) (hsrc : Ic st sz v2 l2)
  (hb : l2.length * by_ ≤ 140737488355328) (h0 : 0 < by_) : Qs P cx (.call { callee := .builtin .append, args := #[x, y], argTypes := #[t, t] }) ty tm st (.row k 0) k (.r true true k 0 e sz l2) := fun nb g a w hk hf hS => by
 have hx : Af ⟨tm, st, nb⟩ x = some (.d (.lit (.slice none 0 0))) := by cases x <;> exact hx
 have hy : Af ⟨tm, st, nb⟩ y = some v2 := by cases y <;> exact hy
 have hx' := hS.eval hx
 simp only [vrep, drep] at hx'
 obtain ⟨us, s1, s2, s3, s4, s5⟩ := hsrc.rep hS.st (hS.eval hy)
 have hml : 0 + l2.length ≤ maxLen := by
  have := Nat.le_mul_of_pos_right l2.length h0
  unfold maxLen; omega
 have h00 : w.ownsRow 0 e sz (a.eval x) 0 [] := by rw [hx']; exact World.ownsRow_nil w 0 e sz
 obtain ⟨v', w', hrun, h1, h2, h3⟩ := E4 (ty := ty) hE.elem h00 s1 s3 s4 hml (by rw [Nat.zero_add]; exact hb)
 rw [hx'] at h2 h3
 simp only [Value.ownBlock] at h2 h3
 have hbel : Below w.heap.size w w' := ⟨h2.os, h2.tape, h2.output, h2.size, fun b hb' => h2.block b hb' (by simp)⟩
 have hown : w'.ownsRow w.heap.size e sz v' l2.length us := by
  simp only [Nat.zero_add, List.nil_append] at h1
  refine ⟨h1.1, ?_⟩
  rcases h1.2 with h | ⟨gb, cap, cur, hv', _, rest⟩
  ·exact .inl h
  ·refine .inr ⟨gb, cap, cur, hv', ?_, rest⟩
   rcases h3 gb (by rw [hv']) with h | h
   ·cases h
   ·exact h
 obtain ⟨m1, m2, m3, m4⟩ := Ea hS.inv hf hk hbel (e := e) (sz := sz) (AL (Nat.le_refl _) (fun b hb' hp => ⟨⟨hp, fun he => by have := (hown.lt b he.symm).1; omega⟩, hbel.block b hb'⟩) s2) ⟨s5, s4⟩ hown
 exact ⟨v', _, w', EK hrun, m1, m2, m3, m4⟩
theorem Kf {t ty e : TypeId} {size bytes : Nat} {w : World} (hE : G4 P t e size bytes) {a : Option Addr} {n : Nat} {xs : List Value} (hsl0 : Df w (.slice a n n) n xs) (hl0 : xs.length = n * size) {x : Value} {m : Nat} {news : List Value} (hsl : Df w x m news) (hl : news.length = m * size)
  (hm : 0 < m) (h63 : n + m ≤ maxLen) (hbytes : (n + m) * bytes ≤ 140737488355328) :
  ∃ v' w', (Builtin.append_ #[t, t] ty #[.slice a n n, x]).run P w = .ok v' w' ∧ w'.ownsRow w.heap.size e size v' (n + m) (xs ++ news) ∧ Below w.heap.size w w' := by
 obtain ⟨ht, ⟨i, z, hi, hz, rfl, rfl, hzs⟩, hp⟩ := hE
 obtain ⟨ad, c, rfl, hmc, hcm, hnil, hrd⟩ := hsl
 obtain ⟨a', c', e1, _, _, hnil0, hrd0⟩ := hsl0
 cases e1
 have hsmall : n + m ≤ 9223372036854775807 := by simp only [maxLen] at h63; omega
 have hlen : (xs ++ news).length = (n + m) * i.size := by rw [List.length_append, hl0, hl, Nat.add_mul]
 have hpos : 0 < news.length := by rw [hl]; exact Nat.mul_pos hm hp
 have hreads : ∀ {a : Option Addr} {cs : List Value}, Gs w a cs → ∀ b, a = some b → ∀ (j : Nat) u, cs[j]? = some u → w.cell? (b.add j) = some u := fun {a cs} h b hb j u hu => by
  obtain ⟨b', o', e2, hc⟩ := h j u hu
  rw [hb] at e2; cases e2
  have hadd : (⟨b', o', none⟩ : Addr).add j = ⟨b', o' + j, none⟩ := by unfold Addr.add; split <;> simp_all
  rw [hadd]; exact hc
 obtain ⟨b0, o0, e1, _⟩ := hrd 0 news[0] (by simp [hpos])
 have hnews := hreads hrd _ e1
 subst e1
 cases a with
 | none =>
  obtain rfl : n = 0 := hnil0 rfl
  obtain rfl : xs = [] := List.eq_nil_of_length_eq_zero (by simpa using hl0)
  have hr := run_append_nil (P := P) w t ty e i z ht hi hz ⟨b0, o0, none⟩ m c news hl hnews hm (by omega) (by have hb := hbytes; simp only [Nat.zero_add] at hb; omega)
  have hgo := HZ (w := w) (e := e) hzs hl (grownCap_ge w m 0 e) (grownCap_le_maxLen w m 0 e (by omega))
  exact ⟨_, _, hr, by simpa using hgo, Ka w _⟩
 | some b =>
  have hr := run_append_grow (P := P) w t ty e i z ht hi hz b n n xs hl0 (hreads hrd0 b rfl) ⟨b0, o0, none⟩ m c news hl hnews (by omega) (by omega) (growslice_fits (by omega) hbytes)
  have hgo := HZ (w := w) (e := e) hzs hlen (grownCap_ge w (n + m) n e) (grownCap_le_maxLen w (n + m) n e h63)
  exact ⟨_, _, hr, by simpa using hgo, Ka w _⟩
inductive Pt (st : List E) (sz : Nat) : V → List (List D) → Prop where
 | sl {f : Bool} {l : List (List D)} (hz : ∀ x ∈ l, x.length = sz) : Pt st sz (.d (.sl true f l)) l
 | rv {k ver n e : Nat} {nw : Bool} {l : List (List D)} (hr : Az k st = some (true, nw, ver, e, sz, l)) (hn : n ≤ l.length) : Pt st sz (.rv k ver n) (l.take n)
theorem Pt.rep {B : Nat} {g : G} {w : World} {st : List E} (hs : AC B g w st) {sz : Nat} {v : V} {l : List (List D)} (h : Pt st sz v l) {u : Value} (hu : vrep B g w v u) :
  ∃ a us, u = .slice a l.length l.length ∧ Df w u l.length us ∧ drepss B g.prot w l us ∧ us.length = l.length * sz ∧ (∀ u ∈ us, u.oneCell' = true) ∧ ∀ x ∈ l, x.length = sz := by
 cases h with
 | sl hz =>
  simp only [vrep] at hu
  have hu0 := hu
  obtain ⟨us, h1, h2, h3, h4⟩ := Df.of_drep hu hz
  simp only [drep] at hu0
  obtain ⟨a, cap, cs, e1, _, _, e4, _⟩ := hu0
  have := e4 trivial
  subst this
  exact ⟨a, us, e1, h1, h2, h3, h4, hz⟩
 | @rv k ver n e nw l hr hn =>
  simp only [vrep] at hu
  obtain ⟨a, m, c, k1, rfl⟩ := hu
  obtain ⟨v, xs, r1, r2, r3, r4, r5⟩ := hs.row hr
  rw [k1] at r1; cases r1
  have hlen : (l.take n).length = n := by simp [hn]
  rcases r5 with ⟨_, r5, r6⟩ | ⟨h, _⟩
  ·obtain ⟨a', c', e1, q2, q3, q4, q5⟩ := Df.of_own r5
   cases e1
   have hp := FH r3.1 r2 n
   refine ⟨a, xs.take (n * sz), by rw [hlen], ⟨a, n, by rw [hlen], by rw [hlen]; exact Nat.le_refl _, by omega, fun h => by have := q4 h; omega, q5.take _⟩, hp.1, ?_, fun u hu => r3.2.1 u (List.mem_of_mem_take hu), fun x hx => r3.1 x (List.mem_of_mem_take hx)⟩
   rw [hlen, List.length_take, r5.1]
   exact Nat.min_eq_left (Nat.mul_le_mul_right _ hn)
  ·cases h
theorem Nt {t ty e : TypeId} {x y : Operand} {sz by_ k : Nat} {l l2 : List (List D)} {v v2 : V} {tm : List (Nat × V)} {st : List E} [hE : EQ P t e sz by_] (hx : Af ⟨tm, st, 0⟩ x = some v) (hc : Pt st sz v l) (hy : Af ⟨tm, st, 0⟩ y = some v2) (hsrc : Ic st sz v2 l2)
  (hm : 0 < l2.length) (hb : (l.length + l2.length) * by_ ≤ 140737488355328) (h0 : 0 < by_) : Qs P cx (.call { callee := .builtin .append, args := #[x, y], argTypes := #[t, t] }) ty tm st (.row k 0) k (.r true true k 0 e sz (l ++ l2)) := fun nb g a w hk hf hS => by
 have hx : Af ⟨tm, st, nb⟩ x = some v := by cases x <;> exact hx
 have hy : Af ⟨tm, st, nb⟩ y = some v2 := by cases y <;> exact hy
 obtain ⟨ad, us0, q1, q2, q3, q4, q5, q6⟩ := hc.rep hS.st (hS.eval hx)
 obtain ⟨us, s1, s2, s3, s4, s5⟩ := hsrc.rep hS.st (hS.eval hy)
 have hml : l.length + l2.length ≤ maxLen := by
  have := Nat.le_mul_of_pos_right (l.length + l2.length) h0
  unfold maxLen; omega
 rw [q1] at q2
 obtain ⟨v', w', hrun, h1, hbel⟩ := Kf (ty := ty) hE.elem q2 q4 s1 s3 hm hml hb
 rw [← q1] at hrun
 have hold : ∀ b, b < w.heap.size → g.prot b → (g.prot b ∧ some b ≠ v'.ownBlock) ∧ w'.heap[b]? = w.heap[b]? := fun b hb' hp => ⟨⟨hp, fun he => by have := (h1.lt b he.symm).1; omega⟩, hbel.block b hb'⟩
 obtain ⟨m1, m2, m3, m4⟩ := Ea hS.inv hf hk hbel (e := e) (sz := sz) (Fs (AL (Nat.le_refl _) hold q3) (AL (Nat.le_refl _) hold s2)) ⟨fun x hx => (List.mem_append.1 hx).elim (q6 x) (s5 x), fun u hu => (List.mem_append.1 hu).elim (q5 u) (s4 u)⟩ (by rw [List.length_append]; exact h1)
 exact ⟨v', _, w', EK hrun, m1, m2, m3, m4⟩
end

end Go.Proofs.YtbgcjnfhadhjeaaGreat