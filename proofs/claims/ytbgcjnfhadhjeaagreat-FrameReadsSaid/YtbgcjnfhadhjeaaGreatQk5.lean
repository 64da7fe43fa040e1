/- Walks by data and names, part 5: Operations of walks: addresses, loads, stores, new variables. -/
import Derived.Test.YtbgcjnfhadhjeaaGreatQk4
namespace Go.Proofs.YtbgcjnfhadhjeaaGreat
set_option maxRecDepth 20000
open Go.RowKit
def BT : V → Bool
 | .d (.lit v) => v.oneCell'
 | .po _ (.lit v) => v.oneCell'
 | .po _ (.sl _ _ _) | .po _ (.ifc _ _) | .po _ (.pt _) | .po _ (.fn _ _ _) | .d (.sl _ _ _) | .d (.ifc _ _) | .ptr _ _ | .ep _ | .row _ _ | .rp _ _ _ _ _ | .rv _ _ _ | .yl _ | .fn _ _ _ | .ifc _ _ | .sv _ _ _ _ _ | .d (.pt _) | .d (.fn _ _ _) => true
 | _ => false
def Bt : V → Option (List V)
 | .agg l => some l
 | .d (.agg l) => some (l.map .d)
 | v => match BT v with
  | true => some [v]
  | false => none
def Ca : List V → Bool
 | [] => true
 | v :: l => match BT v with
  | true => Ca l
  | false => false
section
variable {B : Nat} {g : G} {w : World}
theorem HY {v : V} {u : Value} (h : BT v = true) (k : vrep B g w v u) : u.oneCell' = true := by
 cases v with
 | d x => cases x with
  | lit v => simp only [vrep, drep] at k; subst k; exact h
  | sl c f l => simp only [vrep, drep] at k; obtain ⟨a, cap, cs, rfl, _⟩ := k; rfl
  | ifc t d => simp only [vrep, drep] at k; obtain ⟨x, rfl, _⟩ := k; rfl
  | agg l => simp [BT] at h
  | tup l => simp [BT] at h
  | any => simp [BT] at h
  | pt l => simp only [vrep, drep] at k; obtain ⟨b, o, cs, rfl, _⟩ := k; rfl
  | fn f a c => simp only [vrep, drep] at k; obtain ⟨xs, ys, rfl, _⟩ := k; rfl
 | agg l => simp [BT] at h
 | tup l => simp [BT] at h
 | ptr k' o => simp only [vrep] at k; obtain ⟨b, _, rfl⟩ := k; rfl
 | ep l => simp only [vrep] at k; obtain ⟨b, o, cs, rfl, _⟩ := k; rfl
 | row k' i => simp only [vrep] at k; exact k.2
 | rp k' i sz m j => simp only [vrep] at k; obtain ⟨b, n, c, _, rfl⟩ := k; rfl
 | fn f a c => simp only [vrep] at k; obtain ⟨xs, ys, rfl, _⟩ := k; rfl
 | ifc t x => simp only [vrep] at k; obtain ⟨y, rfl, _⟩ := k; rfl
 | sv k' o n c sz => simp only [vrep] at k; obtain ⟨b, _, rfl, _⟩ := k; rfl
 | yl k' => simp only [vrep] at k; obtain ⟨b, _, rfl⟩ := k; rfl
 | rv k' i n => simp only [vrep] at k; obtain ⟨a, m, c, _, rfl⟩ := k; rfl
 | po e x =>
  simp only [vrep] at k
  obtain ⟨y, hy, k⟩ := k
  cases x with
  | lit v =>
   have hy : ∃ v', y = .lit v' ∧ (v' = v ∨ Jq v = true ∧ Jq v' = true) := by cases e; exact (by simpa only [C4, AX] using hy); exact ⟨v, hy, .inl rfl⟩
   obtain ⟨v', rfl, hv⟩ := hy
   simp only [drep] at k; subst k
   rcases hv with rfl | ⟨_, hv⟩
   ·exact h
   ·unfold Jq at hv; split at hv
    ·rfl
    ·cases hv
  | sl c f l =>
   have hy : ∃ m, y = .sl c f m := by cases e; (simp only [C4, AX] at hy; obtain ⟨m, rfl, _⟩ := hy; exact ⟨m, rfl⟩); exact ⟨l, hy⟩
   obtain ⟨m, rfl⟩ := hy
   simp only [drep] at k; obtain ⟨a, cap, cs, rfl, _⟩ := k; rfl
  | ifc t d =>
   have hy : ∃ m, y = .ifc t m := by cases e; (simp only [C4, AX] at hy; obtain ⟨m, rfl, _⟩ := hy; exact ⟨m, rfl⟩); exact ⟨d, hy⟩
   obtain ⟨m, rfl⟩ := hy
   simp only [drep] at k; obtain ⟨x, rfl, _⟩ := k; rfl
  | agg l => simp [BT] at h
  | tup l => simp [BT] at h
  | any => simp [BT] at h
  | pt l =>
   have hy : ∃ m, y = .pt m := by cases e; (simp only [C4, AX] at hy; obtain ⟨m, rfl, _⟩ := hy; exact ⟨m, rfl⟩); exact ⟨l, hy⟩
   obtain ⟨m, rfl⟩ := hy
   simp only [drep] at k; obtain ⟨b, o, cs, rfl, _⟩ := k; rfl
  | fn f a c =>
   have hy : ∃ m m', y = .fn f m m' := by cases e; (simp only [C4, AX] at hy; obtain ⟨m, m', rfl, _⟩ := hy; exact ⟨m, m', rfl⟩); exact ⟨a, c, hy⟩
   obtain ⟨m, m', rfl⟩ := hy
   simp only [drep] at k; obtain ⟨xs, ys, rfl, _⟩ := k; rfl
theorem Et : ∀ {vs : List V} {us : List Value}, Ca vs = true → vreps B g w vs us → ∀ u ∈ us, u.oneCell' = true
 | [], us, _, h, u, hu => by simp only [vreps] at h; subst h; simp at hu
 | v :: vs, us, hl, h, u, hu => by
  simp only [vreps] at h
  obtain ⟨y, ys, rfl, k1, k2⟩ := h
  simp only [Ca] at hl
  split at hl
  ·rename_i h1
   rcases List.mem_cons.1 hu with rfl | hu
   ·exact HY h1 k1
   ·exact Et hl k2 u hu
  ·cases hl
theorem CC {v : V} {u : Value} {vs : List V} (h : Bt v = some vs) (k : vrep B g w v u) : vreps B g w vs u.cells.toList := by
 unfold Bt at h
 split at h
 ·cases h; simp only [vrep] at k; obtain ⟨cs, rfl, k⟩ := k; simpa [Value.cells] using k
 ·cases h; simp only [vrep, drep] at k; obtain ⟨cs, rfl, k⟩ := k; simpa [Value.cells] using HK k
 ·split at h
  ·rename_i h1
   cases h
   have h2 := HY h1 k
   have h3 : u.cells = #[u] := by cases u <;> simp_all [Value.cells, Value.oneCell']
   rw [h3]
   simp only [vreps]
   exact ⟨u, [], rfl, k, rfl⟩
  ·cases h
theorem AC.cells {st : List E} (h : AC B g w st) {k : Nat} : ∀ {n off : Nat} {vs : List V}, AM k off st (n + 1) = some vs →
  ∃ b rcs ty us, g.bx k = some b ∧ w.heap[b]? = some (.cells rcs ty (0, 0)) ∧ vreps B g w vs us ∧ us.length = n + 1 ∧ ∀ (j : Nat) u, us[j]? = some u → rcs[off + j]? = some u
 | n, off, vs, hv => by
  simp only [AM] at hv
  split at hv
  ·cases hv
  ·rename_i v hc
   obtain ⟨b, rcs, ty, u, h1, h2, h3, h4⟩ := h.cell hc
   cases n with
   | zero =>
    simp only [AM] at hv
    cases hv
    refine ⟨b, rcs, ty, [u], h1, h2, ?_, rfl, fun j x hj => ?_⟩
    ·simp only [vreps]; exact ⟨u, [], rfl, h4, rfl⟩
    ·cases j with
     | zero => simp at hj; subst hj; exact h3
     | succ j => simp at hj
   | succ n =>
    split at hv
    ·cases hv
    ·rename_i vs' hvs
     cases hv
     obtain ⟨b', rcs', ty', us, k1, k2, k3, k4, k5⟩ := AC.cells h hvs
     rw [h1] at k1; cases k1
     rw [h2] at k2; cases k2
     refine ⟨b, rcs, ty, u :: us, h1, h2, ?_, by simp [k4], fun j x hj => ?_⟩
     ·simp only [vreps]; exact ⟨u, us, rfl, h4, k3⟩
     ·cases j with
      | zero => simp at hj; subst hj; exact h3
      | succ j => simp at hj; have := k5 j x hj; rwa [show off + 1 + j = off + (j + 1) by omega] at this
theorem BZ.of_grown {nb : Nat} (hi : CG B nb g w) {w' : World} {x : Nat} (h : w.grownBy w' (some x)) (hx : (∃ k, g.bx k = some x) ∨ ∃ k, g.rb k = some x) : BZ B g w g w' :=
 ⟨h.os, h.tape, h.output, h.size, id, id, fun b hb hp => ⟨hp, h.block b hb (fun e => by cases e; exact hp (.inr hx))⟩, fun _ h => h, fun b hb => h.block b (hi.exlt hb) (fun e => by
  cases e
  rcases hx with ⟨k, hk⟩ | ⟨k, hk⟩
  ·exact hi.exbx hk hb
  ·exact hi.exrb hk hb), .refl⟩
theorem CG.evo {nb : Nat} (h : CG B nb g w) {w' : World} (hs : w.heap.size ≤ w'.heap.size) : CG B nb g w' :=
 ⟨fun e => ⟨Nat.lt_of_lt_of_le (h.bxlt e).1 hs, (h.bxlt e).2⟩, fun e => ⟨Nat.lt_of_lt_of_le (h.rblt e).1 hs, (h.rblt e).2⟩, h.rwlt, h.bxinj, h.rbinj, h.apart, fun e => Nat.lt_of_lt_of_le (h.exlt e) hs, h.exbx, h.exrb, h.plB, Nat.le_trans h.base hs⟩
theorem Mh {w' : World} {x : Option Nat} {e : TypeId} {sz n : Nat} {v : Value} {xs : List Value} (h : w.ownsRow 0 e sz v n xs) (hg : w.grownBy w' x) (hne : ∀ b, v.ownBlock = some b → some b ≠ x) : w'.ownsRow 0 e sz v n xs := by
 refine h.kept hg ?_
 cases hv : v.ownBlock with
 | none => exact .inl rfl
 | some b => exact .inr (hne b hv)
theorem AC.keepRow {st : List E} (h : AC B g w st) {g' : G} {w' : World} {x : Option Nat} (hE : BZ B g w g' w') (hg : w.grownBy w' x) {k : Nat} (hk : g'.rb k = g.rb k) (hrw : g'.rw k = g.rw k) (hx : ∀ b, g.rb k = some b → some b ≠ x) {o nw : Bool} {ver : Nat} {e : TypeId} {sz : Nat} {l : List (List D)} (hr : Az k st = some (o, nw, ver, e, sz, l)) :
  ∃ v xs, g'.rw k ver = some v ∧ drepss B g'.prot w' l xs ∧ ((∀ x ∈ l, x.length = sz) ∧ (∀ u ∈ xs, u.oneCell' = true) ∧ ∀ i v', g'.rw k i = some v' → i ≤ ver) ∧ (nw = true → ∀ b, v.ownBlock = some b → B ≤ b) ∧ ((o = true ∧ w'.ownsRow 0 e sz v l.length xs ∧ g'.rb k = v.ownBlock) ∨ (o = false ∧ g'.rb k = none ∧ drep B g'.prot w' (.sl false nw l) v)) := by
 obtain ⟨v, xs, h1, h2, h3, hn, h4⟩ := h.row hr
 refine ⟨v, xs, hE.rw h1, hE.drepss h2, ⟨h3.1, h3.2.1, by rw [hrw]; exact h3.2.2⟩, hn, ?_⟩
 rcases h4 with ⟨e1, h4, h5⟩ | ⟨e1, h4, h5⟩
 ·exact .inl ⟨e1, Mh h4 hg (fun b hb => hx b (h5.trans hb)), hk.trans h5⟩
 ·exact .inr ⟨e1, hk.trans h4, hE.drep h5⟩
end
section
variable {P : Program} {cx : Cx} {s : St} {Q : VE → St → Prop} {ops rest : List Oper}
theorem Ce {w : World} {t : TypeId} {sz : Nat} {z : List Value} [hT : BE P t false sz z] {a : Addr} {u : Value} (h : w.cell? a = some u) : (loadVar t a).run P w = .ok u w := by
 obtain ⟨d, h1, h2⟩ := hT.und
 have hagg : (isAgg t).run P w = .ok false w := by
  unfold isAgg
  rw [Sem.run_bind, run_underlying h1 w]
  cases d <;> simp_all [Mo]
 simp [loadVar, Sem.run_bind, hagg, h]
theorem Cs {w : World} {t : TypeId} {sz : Nat} {z : List Value} [hT : BE P t true sz z] {b o : Nat} {us : List Value} (hl : us.length = sz) (h : ∀ (j : Nat) u, us[j]? = some u → w.cell? ⟨b, o + j, none⟩ = some u) : (loadVar t ⟨b, o, none⟩).run P w = .ok (.agg us.toArray) w := by
 obtain ⟨d, h1, h2⟩ := hT.und
 obtain ⟨i, zv, h3, h4, _, _⟩ := hT.size
 refine run_loadVar_mid w b o t us d h h1 ?_ (by rw [h3]; simp [h4, hl])
 cases d <;> simp_all [Mo]
theorem NA {t ty : TypeId} {x : Operand} {k off sz : Nat} {z : List Value} {v : V} [hT : BE P t false sz z] (hx : Af s x = some (.ptr k off)) (hc : Aq k off s.st = some v) : Bq P cx (.load t x) ty s v := fun g a w hS => by
 have h1 := hS.eval hx
 simp only [vrep] at h1
 obtain ⟨b, h1, h2⟩ := h1
 obtain ⟨b', rcs, ty', u, k1, k2, k3, k4⟩ := hS.st.cell hc
 rw [h1] at k1; cases k1
 refine ⟨u, ?_, k4⟩
 have := Ce (P := P) (t := t) (sz := sz) (z := z) (w := w) (a := ⟨b, off, none⟩) (u := u) (by rw [cell_of_row w b off rcs ty' (0, 0) k2]; exact k3)
 simp [execOp, h2, Instr.loadAt, Instr.sureAddr, this]
theorem Kr {t ty : TypeId} {x : Operand} {k off sz : Nat} {z : List Value} {vs : List V} [hT : BE P t true (sz + 1) z] (hx : Af s x = some (.ptr k off)) (hc : AM k off s.st (sz + 1) = some vs) : Bq P cx (.load t x) ty s (.agg vs) := fun g a w hS => by
 have h1 := hS.eval hx
 simp only [vrep] at h1
 obtain ⟨b, h1, h2⟩ := h1
 obtain ⟨b', rcs, ty', us, k1, k2, k3, k4, k5⟩ := hS.st.cells hc
 rw [h1] at k1; cases k1
 refine ⟨.agg us.toArray, ?_, by simp only [vrep]; exact ⟨us, rfl, k3⟩⟩
 have := Cs (P := P) (t := t) (sz := sz + 1) (z := z) (w := w) (b := b) (o := off) (us := us) k4 (fun j u hj => by rw [cell_of_row w b _ rcs ty' (0, 0) k2]; exact k5 j u hj)
 simp [execOp, h2, Instr.loadAt, Instr.sureAddr, this]
theorem Nz {t ty : TypeId} {x : Operand} {sz : Nat} {z : List Value} {d : D} {l : List D} [hT : BE P t false sz z] (hx : Af s x = some (.ep l)) (hl : l[0]? = some d) : Bq P cx (.load t x) ty s (.d d) := fun g a w hS => by
 have h1 := hS.eval hx
 simp only [vrep] at h1
 obtain ⟨b, o, cs, h1, h2, h3⟩ := h1
 obtain ⟨u, k1, k2⟩ := BU h3 hl
 obtain ⟨b', o', e, _, hc⟩ := h2 0 u k1
 cases e
 refine ⟨u, ?_, by simp only [vrep]; exact k2⟩
 have := Ce (P := P) (t := t) (sz := sz) (z := z) (w := w) (a := ⟨b, o, none⟩) (u := u) hc
 simp [execOp, h1, Instr.loadAt, Instr.sureAddr, this]
theorem Lg {t ty : TypeId} {x : Operand} {sz : Nat} {z : List Value} {l : List D} [hT : BE P t true sz z] (hx : Af s x = some (.ep l)) (hl : l.length = sz) : Bq P cx (.load t x) ty s (.d (.agg l)) := fun g a w hS => by
 have h1 := hS.eval hx
 simp only [vrep] at h1
 obtain ⟨b, o, cs, h1, h2, h3⟩ := h1
 refine ⟨.agg cs.toArray, ?_, by simp only [vrep, drep]; exact ⟨cs, rfl, h3⟩⟩
 have := Cs (P := P) (t := t) (sz := sz) (z := z) (w := w) (b := b) (o := o) (us := cs) (by rw [Bx h3, hl]) (fun j u hj => by
  obtain ⟨b', o', e, _, hc⟩ := h2 j u hj
  cases e; exact hc)
 simp [execOp, h1, Instr.loadAt, Instr.sureAddr, this]
theorem FB {w : World} {sT f off sz : Nat} {ag : Bool} [h : Bj P sT f off sz ag] (b o : Nat) : (Instr.fieldAt sT (.pointer (some ⟨b, o, none⟩)) f).run P w = .ok (.pointer (some ⟨b, o + off, none⟩)) w := by
 obtain ⟨fs, x, i, h1, h2, h3, h4, h5, _⟩ := h.get
 have hp := h.pos
 have hadd : (⟨b, o, none⟩ : Addr).add off = ⟨b, o + off, none⟩ := by unfold Addr.add; split <;> simp_all
 have hsz : (sizeOf x.type).run P w = .ok sz w := by simp [sizeOf, typeInfo, h4, h5]
 simp [Instr.fieldAt, run_underlying h1 w, h2, Instr.sureAddr, fieldPlace, hsz, h3, hadd, show ¬ sz = 0 by omega]
theorem P4 {t ty : TypeId} {x : Operand} {f k o off sz : Nat} {ag : Bool} [Bj P t f off sz ag] (hx : Af s x = some (.ptr k o)) : Bq P cx (.fieldAddr t x f) ty s (.ptr k (o + off)) := fun g a w hS => by
 have h1 := hS.eval hx
 simp only [vrep] at h1
 obtain ⟨b, h1, h2⟩ := h1
 exact ⟨.pointer (some ⟨b, o + off, none⟩), by simp [execOp, h2, FB (P := P) (sT := t) (f := f) (off := off) (sz := sz) (ag := ag) (w := w)], by simp only [vrep]; exact ⟨b, h1, rfl⟩⟩
theorem P5 {t ty : TypeId} {x : Operand} {f off sz : Nat} {ag : Bool} {l : List D} [Bj P t f off sz ag] (hx : Af s x = some (.ep l)) : Bq P cx (.fieldAddr t x f) ty s (.ep (l.drop off)) := fun g a w hS => by
 have h1 := hS.eval hx
 simp only [vrep] at h1
 obtain ⟨b, o, cs, h1, h2, h3⟩ := h1
 refine ⟨.pointer (some ⟨b, o + off, none⟩), by simp [execOp, h1, FB (P := P) (sT := t) (f := f) (off := off) (sz := sz) (ag := ag) (w := w)], ?_⟩
 simp only [vrep]
 refine ⟨b, o + off, cs.drop off, rfl, fun j u hj => ?_, ?_⟩
 ·rw [List.getElem?_drop] at hj
  obtain ⟨b', o', e, hp, hc⟩ := h2 _ u hj
  cases e
  exact ⟨b, o + off, rfl, hp, by rw [Nat.add_assoc]; exact hc⟩
 ·refine Ft (by simp [Bx h3]) fun i x y hx hy => ?_
  rw [List.getElem?_drop] at hx hy
  obtain ⟨y', e, k⟩ := BU h3 hx
  rw [hy] at e; cases e; exact k
theorem P3 {t ty : TypeId} {x : Operand} {f k ver sz' i j off sz : Nat} {ag : Bool} [Bj P t f off sz ag] (hx : Af s x = some (.rp k ver sz' i j)) : Bq P cx (.fieldAddr t x f) ty s (.rp k ver sz' i (j + off)) := fun g a w hS => by
 have h1 := hS.eval hx
 simp only [vrep] at h1
 obtain ⟨b, n, c, h1, h2⟩ := h1
 exact ⟨.pointer (some ⟨b, i * sz' + j + off, none⟩), by simp [execOp, h2, FB (P := P) (sT := t) (f := f) (off := off) (sz := sz) (ag := ag) (w := w)], by simp only [vrep]; exact ⟨b, n, c, h1, by rw [Nat.add_assoc]⟩⟩
theorem PT {ty : TypeId} {x : Operand} {k o : Nat} (hx : Af s x = some (.ptr k o)) : Bq P cx (.nilCheck x) ty s (.ptr k o) := fun g a w hS => by
 have h1 := hS.eval hx
 have h0 := h1
 simp only [vrep] at h1
 obtain ⟨b, h1, h2⟩ := h1
 exact ⟨a.eval x, by simp [execOp, h2], h0⟩
theorem PV {ty : TypeId} {x : Operand} {l : List D} (hx : Af s x = some (.ep l)) : Bq P cx (.nilCheck x) ty s (.ep l) := fun g a w hS => by
 have h1 := hS.eval hx
 have h0 := h1
 simp only [vrep] at h1
 obtain ⟨b, o, cs, h1, h2⟩ := h1
 exact ⟨a.eval x, by simp [execOp, h1], h0⟩
theorem PS {ty : TypeId} {x : Operand} {k ver sz i j : Nat} (hx : Af s x = some (.rp k ver sz i j)) : Bq P cx (.nilCheck x) ty s (.rp k ver sz i j) := fun g a w hS => by
 have h1 := hS.eval hx
 have h0 := h1
 simp only [vrep] at h1
 obtain ⟨b, n, c, h1, h2⟩ := h1
 exact ⟨a.eval x, by simp [execOp, h2], h0⟩
theorem PU {ty : TypeId} {x : Operand} {f : FuncId} {fi ca : List V} (hx : Af s x = some (.fn (.func f) fi ca)) : Bq P cx (.nilCheck x) ty s (.fn (.func f) fi ca) := fun g a w hS => by
 have h1 := hS.eval hx
 have h0 := h1
 simp only [vrep] at h1
 obtain ⟨xs, ys, h1, h2⟩ := h1
 exact ⟨a.eval x, by simp [execOp, h1], h0⟩
theorem GA {w : World} {t : TypeId} {ag : Bool} {sz : Nat} {z : List Value} [hT : BE P t ag sz z] {b o : Nat} {rcs : Array Value} {ty : TypeId} {v : Value} (hb : w.heap[b]? = some (.cells rcs ty (0, 0))) (hl : v.cells.toList.length = sz) (ho : o + sz ≤ rcs.size) (h1 : ∀ u ∈ v.cells.toList, u.oneCell' = true) :
  (storeVar t ⟨b, o, none⟩ v).run P w = .ok () (w.setRow b (rcs.toList.take o ++ v.cells.toList ++ rcs.toList.drop (o + sz)).toArray) := by
 obtain ⟨i, zv, h3, h4, _, _⟩ := hT.size
 have h := run_storeCells_at (P := P) b o ty v.cells.toList 0 rcs w hb (by simp only [Nat.add_zero]; omega) h1
 simp only [Nat.add_zero, hl] at h
 have hs : v.cells.size = i.size := by rw [h4, ← hl]; simp
 simp [storeVar, sizeOf, typeInfo, h3, hs, h]
theorem Cj (w : World) (b : Nat) (cs : Array Value) : w.grownBy (w.setRow b cs) (some b) :=
 ⟨rfl, rfl, rfl, by simp, fun k _ hk => setRow_other w b k cs (fun e => hk (by rw [e]))⟩
theorem Ip {t ty : TypeId} {x y : Operand} {k off sz : Nat} {ag : Bool} {z : List Value} {v : V} {vs old : List V} [hT : BE P t ag (sz + 1) z] (hx : Af s x = some (.ptr k off)) (hy : Af s y = some v) (hv : Bt v = some vs) (hl : vs.length = sz + 1) (h1 : Ca vs = true) (hold : AM k off s.st (sz + 1) = some old) {g : G} {a : Act} {w : World} (hS : Dg cx g a w s) :
  ∃ w', (execOp a.eval (IE (.store t x y) ty)).run P w = .ok .skip w' ∧ BZ cx.B g w g w' ∧ CG cx.B s.nb g w' ∧ ∀ st2, AC cx.B g w st2 → AC cx.B g w' (.c k off vs :: st2) := by
 have hx' := hS.eval hx
 have hy' := hS.eval hy
 simp only [vrep] at hx'
 obtain ⟨b, hb, hx'⟩ := hx'
 have hus := CC hv hy'
 have hlen := C0 hus
 obtain ⟨b', rcs, ty', us0, k1, k2, k3, k4, k5⟩ := hS.st.cells hold
 rw [hb] at k1; cases k1
 have hroom : off + (sz + 1) ≤ rcs.size := by
  have := k5 sz (us0[sz]'(by omega)) (by simp)
  have := (Array.getElem?_eq_some_iff.1 this).1
  omega
 have hrun := GA (P := P) (t := t) (w := w) (b := b) (o := off) (rcs := rcs) (v := a.eval y) k2 (by rw [hlen, hl]) hroom (Et h1 hus)
 have hg := Cj w b (rcs.toList.take off ++ (a.eval y).cells.toList ++ rcs.toList.drop (off + (sz + 1))).toArray
 have hE := BZ.of_grown (B := cx.B) hS.inv hg (.inl ⟨k, hb⟩)
 refine ⟨_, by simp [execOp, hx', Instr.storeAt, Instr.sureAddr, hrun], hE, hS.inv.evo (by simp), fun st2 hs2 => ⟨fun {k' o' x} hc => ?_, fun {k' o nw ver e sz' l} hr => ?_, fun {k' r T tm0} hl => ?_⟩⟩
 ·have hnew := setRow_heap w b rcs (rcs.toList.take off ++ (a.eval y).cells.toList ++ rcs.toList.drop (off + (sz + 1))).toArray ty' (0, 0) k2
  have hbase : Aq k' o' st2 = some x → (k' = k → o' < off ∨ off + (sz + 1) ≤ o') → ∃ b1 rcs1 ty1 u, g.bx k' = some b1 ∧ (w.setRow b (rcs.toList.take off ++ (a.eval y).cells.toList ++ rcs.toList.drop (off + (sz + 1))).toArray).heap[b1]? = some (.cells rcs1 ty1 (0, 0)) ∧ rcs1[o']? = some u ∧ vrep cx.B g (w.setRow b (rcs.toList.take off ++ (a.eval y).cells.toList ++ rcs.toList.drop (off + (sz + 1))).toArray) x u := by
   intro hc0 hout
   obtain ⟨b1, rcs1, ty1, u, m1, m2, m3, m4⟩ := hs2.cell hc0
   by_cases e : k' = k
   ·subst e
    rw [hb] at m1; cases m1
    rw [k2] at m2; cases m2
    refine ⟨b, _, _, u, hb, hnew, ?_, hE.vrep m4⟩
    rcases hout rfl with h | h
    ·rw [List.getElem?_toArray, List.append_assoc, List.getElem?_append_left (by simp; omega), List.getElem?_take, if_pos h]; simpa using m3
    ·rw [List.getElem?_toArray, List.getElem?_append_right (by simp [hlen, hl]; omega), List.getElem?_drop]
     rw [show off + (sz + 1) + (o' - (rcs.toList.take off ++ (a.eval y).cells.toList).length) = o' by rw [List.length_append, List.length_take, hlen, hl]; simp; omega]
     simpa using m3
   ·exact ⟨b1, rcs1, ty1, u, m1, (setRow_other w b b1 _ (fun e2 => e (hS.inv.bxinj m1 (e2 ▸ hb)))).trans m2, m3, hE.vrep m4⟩
  simp only [Aq] at hc
  split at hc
  ·rename_i hk
   have := Nat.eq_of_beq_eq_true hk
   subst this
   split at hc
   ·rename_i ho
    have ho := Nat.le_of_ble_eq_true ho
    split at hc
    ·rename_i v' hv'
     cases hc
     obtain ⟨u, m1, m2⟩ := CH hus hv'
     refine ⟨b, _, _, u, hb, hnew, ?_, hE.vrep m2⟩
     have hj := (List.getElem?_eq_some_iff.1 hv').1
     rw [List.getElem?_toArray, List.append_assoc, List.getElem?_append_right (by simp; omega), List.length_take, List.getElem?_append_left (by simp [hlen]; omega)]
     rw [show o' - min off rcs.toList.length = o' - off by simp; omega]
     exact m1
    ·rename_i hv'
     have := List.getElem?_eq_none_iff.1 hv'
     exact hbase hc fun _ => .inr (by omega)
   ·rename_i ho
    exact hbase hc fun _ => .inl (by
     rcases Nat.lt_or_ge o' off with h | h
     ·exact h
     ·have := Nat.ble_eq_true_of_le h; simp_all)
  ·rename_i hk
   exact hbase hc fun e => by subst e; rw [Nat.beq_refl] at hk; cases hk
 ·simp only [Az] at hr
  exact hs2.keepRow hE hg rfl rfl (fun b2 hb2 e => by cases e; exact hS.inv.apart hb hb2) hr
 ·simp only [Au] at hl
  obtain ⟨h1, h2⟩ := hs2.loop hl
  refine ⟨fun lp e => let ⟨b2, m1, m2⟩ := h1 lp e; ⟨b2, m1, (hg.block b2 (hS.inv.bxlt m1).1 fun e => ?_).trans m2⟩, fun ht => hE.vrep (h2 ht)⟩
  cases e; rw [k2] at m2; cases m2
theorem WN {t ty : TypeId} {x y : Operand} {k off sz : Nat} {ag : Bool} {z : List Value} {v : V} {vs old : List V} [hT : BE P t ag (sz + 1) z] (hx : Af s x = some (.ptr k off)) (hy : Af s y = some v) (hv : Bt v = some vs) (hl : vs.length = sz + 1) (h1 : Ca vs = true) (hold : AM k off s.st (sz + 1) = some old) :
  Y5 P cx (.store t x y) ty s (.c k off vs :: s.st) s.nb := fun g a w hS => by
 obtain ⟨w', h1, h2, h3, h4⟩ := Ip (hT := hT) hx hy hv hl h1 hold hS
 exact ⟨g, w', h1, h2, h4 _ hS.st, h3⟩
def Mb (g : G) (k : Nat) : Prop := g.bx k = none ∧ g.rb k = none ∧ ∀ i, g.rw k i = none
theorem CG.free {B nb : Nat} {g : G} {w : World} (h : CG B nb g w) : Mb g nb := by
 refine ⟨?_, ?_, fun i => ?_⟩
 ·cases hq : g.bx nb with
  | none => rfl
  | some b => exact absurd (h.bxlt hq).2 (Nat.lt_irrefl _)
 ·cases hq : g.rb nb with
  | none => rfl
  | some b => exact absurd (h.rblt hq).2 (Nat.lt_irrefl _)
 ·cases hq : g.rw nb i with
  | none => rfl
  | some b => exact absurd (h.rwlt hq) (Nat.lt_irrefl _)
theorem CG.up {B nb nb' : Nat} {g : G} {w : World} (h : CG B nb g w) (hn : nb ≤ nb') : CG B nb' g w :=
 ⟨fun e => ⟨(h.bxlt e).1, Nat.lt_of_lt_of_le (h.bxlt e).2 hn⟩, fun e => ⟨(h.rblt e).1, Nat.lt_of_lt_of_le (h.rblt e).2 hn⟩, fun e => Nat.lt_of_lt_of_le (h.rwlt e) hn, h.bxinj, h.rbinj, h.apart, h.exlt, h.exbx, h.exrb, h.plB, h.base⟩
structure New (B : Nat) (g : G) (w : World) (g' : G) (w' : World) (k : Nat) : Prop where
 evo : BZ B g w g' w'
 keep : ∀ b, b < w.heap.size → w'.heap[b]? = w.heap[b]?
 same : ∀ i, i ≠ k → g'.bx i = g.bx i ∧ g'.rb i = g.rb i ∧ g'.rw i = g.rw i
theorem AC.new {B nb : Nat} {g g' : G} {w w' : World} {k : Nat} (h : New B g w g' w' k) (hi : CG B nb g w) (hf : Mb g k) {st : List E} (hs : AC B g w st) : AC B g' w' st := by
 refine ⟨fun {i o x} hc => ?_, fun {i o nw ver e sz l} hr => ?_, fun {i r T tm0} hl => ?_⟩
 ·obtain ⟨b, rcs, ty, u, m1, m2, m3, m4⟩ := hs.cell hc
  exact ⟨b, rcs, ty, u, h.evo.bx m1, (h.keep b (hi.bxlt m1).1).trans m2, m3, h.evo.vrep m4⟩
 ·obtain ⟨v, xs, r1, _⟩ := hs.row hr
  have hne : i ≠ k := fun e => by subst e; rw [hf.2.2] at r1; cases r1
  exact hs.keepRow h.evo (x := none) ⟨h.evo.os, h.evo.tape, h.evo.output, h.evo.size, fun b hb _ => h.keep b hb⟩ (h.same i hne).2.1 (h.same i hne).2.2 (by simp) hr
 ·obtain ⟨h1, h2⟩ := hs.loop hl
  exact ⟨fun lp e => let ⟨b, m1, m2⟩ := h1 lp e; ⟨b, h.evo.bx m1, (h.keep b (hi.bxlt m1).1).trans m2⟩, fun ht => h.evo.vrep (h2 ht)⟩
theorem AC.cons {B : Nat} {g : G} {w : World} {e0 : E} {st : List E} (h1 : AC B g w [e0]) (h2 : AC B g w st) : AC B g w (e0 :: st) := by
 refine ⟨fun {i o x} hc => ?_, fun {i o nw ver e sz l} hr => ?_, fun {i r T tm0} hl => ?_⟩
 ·cases e0 with
  | c k o' vs =>
   have h1c := fun v => h1.cell (k := i) (off := o) (v := v)
   simp only [Aq] at hc h1c
   split at hc
   ·rename_i hk
    split at hc
    ·rename_i ho
     split at hc
     ·rename_i v hv
      cases hc
      refine h1c x ?_
      simp [hk, ho, hv]
     ·exact h2.cell hc
    ·exact h2.cell hc
   ·exact h2.cell hc
  | r _ _ _ _ _ _ _ => simp only [Aq] at hc; exact h2.cell hc
  | y _ _ _ _ => simp only [Aq] at hc; exact h2.cell hc
 ·cases e0 with
  | c k o' vs => simp only [Az] at hr; exact h2.row hr
  | y _ _ _ _ => simp only [Az] at hr; exact h2.row hr
  | r _ _ k' _ _ _ _ =>
   have h1c := fun y => h1.row (k := i) (o := o) (nw := nw) (ver := ver) (e := y) (sz := sz) (l := l)
   simp only [Az] at hr h1c
   split at hr
   ·rename_i hk
    refine h1c _ ?_
    simp [hk]
    simpa using hr
   ·exact h2.row hr
 ·cases e0 with
  | c k o' vs => simp only [Au] at hl; exact h2.loop hl
  | r _ _ _ _ _ _ _ => simp only [Au] at hl; exact h2.loop hl
  | y k' r' T' tm' =>
   have h1c := fun y => h1.loop (k := i) (r := r) (T := T) (tm := y)
   simp only [Au] at hl h1c
   split at hl
   ·rename_i hk
    refine h1c _ ?_
    simp [hk]
    simpa using hl
   ·exact h2.loop hl
theorem AC.nil {B : Nat} {g : G} {w : World} : AC B g w [] := ⟨fun h => by simp [Aq] at h, fun h => by simp [Az] at h, fun h => by simp [Au] at h⟩
def G.addBx (g : G) (k b : Nat) : G := ⟨g.ex, fun i => if i = k then some b else g.bx i, g.rb, g.rw, g.pl, g.plex⟩
theorem Vj {B : Nat} {g : G} {w : World} {nb k : Nat} (hi : CG B nb g w) (hf : Mb g k) (hk : k < nb) (o : Obj) :
  New B g w (g.addBx k w.heap.size) (w.alloc o) k ∧ CG B nb (g.addBx k w.heap.size) (w.alloc o) := by
 have hne : ∀ {i b}, g.bx i = some b → i ≠ k := fun h e => by subst e; rw [hf.1] at h; cases h
 have hbx : ∀ {i b}, g.bx i = some b → (g.addBx k w.heap.size).bx i = some b := fun {i b} h => by simp only [G.addBx]; rw [if_neg (hne h)]; exact h
 have hE : BZ B g w (g.addBx k w.heap.size) (w.alloc o) := ⟨rfl, rfl, rfl, by simp, hbx, id, fun b hb hp => ⟨fun ho => by
  rcases ho with ho | ⟨i, hk⟩ | ⟨i, hk⟩
  ·exact hp (.inl ho)
  ·simp only [G.addBx] at hk
   split at hk
   ·cases hk; omega
   ·exact hp (.inr (.inl ⟨i, hk⟩))
  ·exact hp (.inr (.inr ⟨i, hk⟩)), Below.heap_alloc w _ b hb⟩, fun _ h => h, fun b hb => Below.heap_alloc w _ b (hi.exlt hb), .refl⟩
 refine ⟨⟨hE, fun b hb => Below.heap_alloc w _ b hb, fun i hne => ⟨by simp [G.addBx, hne], rfl, rfl⟩⟩, ⟨fun {i b} h => ?_, fun {i b} h => ?_, fun h => hi.rwlt h, fun {i i' b} h h' => ?_, hi.rbinj, fun {i i' b} h h' => ?_, fun h => by have := hi.exlt h; simp; omega, fun {i b} h he => ?_, hi.exrb, hi.plB, by have := hi.base; simp; omega⟩⟩
 ·simp only [G.addBx] at h
  split at h
  ·cases h; simp; omega
  ·have := hi.bxlt h; simp; omega
 ·have := hi.rblt h; simp; omega
 ·simp only [G.addBx] at h h'
  split at h <;> split at h'
  ·omega
  ·cases h; have := (hi.bxlt h').1; omega
  ·cases h'; have := (hi.bxlt h).1; omega
  ·exact hi.bxinj h h'
 ·simp only [G.addBx] at h
  split at h
  ·cases h; have := (hi.rblt h').1; omega
  ·exact hi.apart h h'
 ·simp only [G.addBx] at h
  split at h
  ·cases h; exact absurd (hi.exlt he) (Nat.lt_irrefl _)
  ·exact hi.exbx h he
theorem Vi {B : Nat} {g : G} {w : World} {nb k : Nat} (hi : CG B nb g w) (hf : Mb g k) (hk : k < nb) (cs : Array Value) (t : TypeId) (vs : List V) (hv : vreps B g w vs cs.toList) :
  New B g w (g.addBx k w.heap.size) (w.alloc (.cells cs t)) k ∧ AC B (g.addBx k w.heap.size) (w.alloc (.cells cs t)) [.c k 0 vs] ∧ CG B nb (g.addBx k w.heap.size) (w.alloc (.cells cs t)) := by
 obtain ⟨hN, hI⟩ := Vj hi hf hk (.cells cs t)
 refine ⟨hN, ⟨fun {i o x} hc => ?_, fun {i o nw ver e sz l} hr => by simp [Az] at hr, fun h => by simp [Au] at h⟩, hI⟩
 simp only [Aq] at hc
 split at hc
 ·rename_i hk
  have := Nat.eq_of_beq_eq_true hk
  subst this
  split at hc
  ·split at hc
   ·rename_i v' hv'
    cases hc
    obtain ⟨u, m1, m2⟩ := CH hv hv'
    exact ⟨w.heap.size, cs, t, u, by simp [G.addBx], heap_alloc_new w _, by simpa using m1, hN.evo.vrep m2⟩
   ·cases hc
  ·cases hc
 ·cases hc
def Qs (P : Program) (cx : Cx) (op : Op) (ty : TypeId) (tm : List (Nat × V)) (st : List E) (v : V) (k : Nat) (e : E) : Prop :=
 ∀ nb g a w, k < nb → Mb g k → Dg cx g a w ⟨tm, st, nb⟩ → ∃ u g' w', (execOp a.eval (IE op ty)).run P w = .ok (.value u) w' ∧ New cx.B g w g' w' k ∧ AC cx.B g' w' [e] ∧ CG cx.B nb g' w' ∧ vrep cx.B g' w' v u
theorem Qs.v {P : Program} {cx : Cx} {op : Op} {ty : TypeId} {tm : List (Nat × V)} {st : List E} {nb : Nat} {v : V} {e : E} (h : Qs P cx op ty tm st v nb e) : Y4 P cx op ty ⟨tm, st, nb⟩ v (e :: st) (nb + 1) := fun g a w hS => by
 have hi := hS.inv.up (Nat.le_succ nb)
 obtain ⟨u, g', w', h1, h2, h3, h4, h5⟩ := h (nb + 1) g a w (Nat.lt_succ_self _) hS.inv.free ⟨hS.size, hS.tm, hS.st, hi, hS.defers⟩
 exact ⟨u, g', w', h1, h2.evo, h3.cons (hS.st.new h2 hi hS.inv.free), h4, h5⟩
theorem Gu {B : Nat} {g : G} {w : World} : ∀ {cs : List Value}, vreps B g w (cs.map fun x => .d (.lit x)) cs
 | [] => by simp [vreps]
 | x :: xs => by simp only [List.map_cons, vreps]; exact ⟨x, xs, rfl, (by simp only [vrep, drep]), Gu⟩
theorem Kq {t ty : TypeId} {ag : Bool} {sz k : Nat} {z : List Value} {tm : List (Nat × V)} {st : List E} [hT : BE P t ag sz z] : Qs P cx (.alloc t) ty tm st (.ptr k 0) k (.c k 0 (z.map fun x => .d (.lit x))) := fun nb g a w hk hf hS => by
 obtain ⟨i, zv, h1, h2, h3, h4⟩ := hT.size
 obtain ⟨k1, k2, k3⟩ := Vi hS.inv hf hk zv.cells t (z.map fun x => .d (.lit x)) (by rw [h4]; exact Gu)
 refine ⟨.pointer (some ⟨w.heap.size, 0, none⟩), _, _, ?_, k1, k2, k3, by simp only [vrep]; exact ⟨w.heap.size, by simp [G.addBx], rfl⟩⟩
 simp [execOp, Instr.alloc, zeroValue, typeInfo, h1, h3, newVar, newRow]
theorem Rf {t ty : TypeId} {x : Operand} {v : V} {vs : List V} {tm : List (Nat × V)} {st : List E} {k : Nat} (hx : Af ⟨tm, st, 0⟩ x = some v) (hv : Bt v = some vs) : Qs P cx (.box t x) ty tm st (.ptr k 0) k (.c k 0 vs) := fun nb g a w hk hf hS => by
 have hx' : Af ⟨tm, st, nb⟩ x = some v := by cases x <;> exact hx
 obtain ⟨k1, k2, k3⟩ := Vi hS.inv hf hk (a.eval x).cells t vs (CC hv (hS.eval hx'))
 refine ⟨.pointer (some ⟨w.heap.size, 0, none⟩), _, _, ?_, k1, k2, k3, by simp only [vrep]; exact ⟨w.heap.size, by simp [G.addBx], rfl⟩⟩
 simp [execOp, Instr.box, newVar, newRow]
end

end Go.Proofs.YtbgcjnfhadhjeaaGreat