/- Walks by data and names, part 27: Operations on memory that may be spoilt, and calls. Walks in short: one way on, two ways on, calls, states: each as one lemma, whose tactic stands here once. Contracts with several ends. -/
import Derived.Test.YtkjpcjccddggoaaGreatPk26
import Derived.Test.YtkjpcjccddggoaaGreatPk25
import Derived.Test.YtkjpcjccddggoaaGreatPk24
namespace Go.Proofs.YtkjpcjccddggoaaGreat
open Go.RowKit
section
variable {P : Program} {cx : Cx} {s : St} {Q : VE → St → Prop} {ops rest : List Oper} {tm : List (Nat × V)} {st : List E} {nb : Nat}
theorem q_polen {t ty e : TypeId} {x : Operand} {ex c f : Bool} {l : List (List D)} {sz by_ : Nat} [hE : SlI P t e sz by_] (hx : evalV s x = some (.po ex (.sl c f l))) : OpQ P cx (.call { callee := .builtin .len, args := #[x], argTypes := #[t] }) ty s (I .i64 (l.length : Int)) := fun g a w hS => by
  have h1 := hS.eval hx
  simp only [vrep] at h1
  obtain ⟨y, hy, h1⟩ := h1
  obtain ⟨m, rfl, hm, _⟩ := blurE_sl hy
  simp only [drep] at h1
  obtain ⟨ad, cap, cs, h, _⟩ := h1
  rw [blurDss_len hm] at h
  refine ⟨.int .i64 l.length, ?_, by simp only [vrep, drep]⟩
  simp [execOp, resolve, invoke, builtin, Builtin.len_, h, run_underlying hE.elem.und w, goInt]
theorem q_poidx {t ty e : TypeId} {x y : Operand} {k : IntKind} {i : Int} {ex c f : Bool} {l : List (List D)} {sz by_ : Nat} {cs : List D} [hE : SlI P t e sz by_] (hx : evalV s x = some (.po ex (.sl c f l))) (hy : evalV s y = some (I k i)) (h0 : 0 ≤ i) (hl : l[i.toNat]? = some cs) (hc : cs.length = sz) :
    OpQ P cx (.indexAddr t x y) ty s (.po ex (.pt cs)) := fun g a w hS => by
  have h1 := hS.eval hx
  have h2 := hS.eval hy
  simp only [vrep] at h1
  obtain ⟨y', hy', h1⟩ := h1
  obtain ⟨m, rfl, hm, hme⟩ := blurE_sl hy'
  obtain ⟨cs', hl', hcs⟩ := blurDss_get hm hl
  simp only [vrep, drep] at h1 h2
  obtain ⟨ad, cap, us, h1, e2, e3, e4, e5, ⟨sz', e6⟩, e0, e7, e8⟩ := h1
  have hlt := (List.getElem?_eq_some_iff.1 hl').1
  have hc' : cs'.length = sz := (blurDs_len hcs).trans hc
  obtain rfl : sz' = sz := by rw [← hc']; exact (e6 cs' (List.mem_of_getElem? hl')).symm
  have hpos := hE.elem.pos
  have hd := drepss_get e6 e8 hl'
  have hulen := drepss_len e6 e8
  have hd' : ∃ u, us[i.toNat * sz']? = some u := by
    have : i.toNat * sz' < us.length := by rw [hulen]; exact (Nat.mul_lt_mul_right hpos).2 hlt
    exact ⟨us[i.toNat * sz'], List.getElem?_eq_getElem this⟩
  obtain ⟨u0, hu0⟩ := hd'
  obtain ⟨b, o, rfl, _, _⟩ := e7 _ u0 hu0
  have hadd : (⟨b, o, none⟩ : Addr).add (i.toNat * sz') = ⟨b, o + i.toNat * sz', none⟩ := by unfold Addr.add; split <;> simp_all
  refine ⟨.pointer (some ⟨b, o + i.toNat * sz', none⟩), ?_, ?_⟩
  · have hi : (i < (m.length : Int)) := by omega
    simp [execOp, h1, h2, Instr.indexAt, asIntOf, run_underlying hE.elem.und w, run_sizeOf_e hE.elem, h0, hi, hadd]
  · simp only [vrep]
    refine ⟨.pt cs', blurE_of (by simp only [blurD]; exact ⟨cs', rfl, hcs⟩) (fun he => by have := hme he; subst this; rw [hl] at hl'; cases hl'; rfl), ?_⟩
    simp only [drep]
    refine ⟨b, o + i.toNat * sz', _, rfl, fun j u hj => ?_, hd⟩
    rw [List.getElem?_take] at hj
    split at hj
    · rw [List.getElem?_drop] at hj
      obtain ⟨b', o', e, hp, hcell⟩ := e7 _ u hj
      cases e
      exact ⟨b, _, rfl, ⟨hp.1, trivial⟩, by rw [Nat.add_assoc]; exact hcell⟩
    · cases hj
theorem q_poload {t ty : TypeId} {x : Operand} {sz : Nat} {z : List Value} {ex : Bool} {d : D} {l : List D} [hT : TyI P t false sz z] (hx : evalV s x = some (.po ex (.pt l))) (hl : l[0]? = some d) : OpQ P cx (.load t x) ty s (poV ex d) := fun g a w hS => by
  have h1 := hS.eval hx
  simp only [vrep] at h1
  obtain ⟨y, hy, h1⟩ := h1
  obtain ⟨m, rfl, hm, hme⟩ := blurE_pt hy
  obtain ⟨d', hl', hd⟩ := blurDs_get hm hl
  simp only [drep] at h1
  obtain ⟨b, o, cs, h1, h2, h3⟩ := h1
  obtain ⟨u, k1, k2⟩ := dreps_get h3 hl'
  obtain ⟨b', o', e, _, hc⟩ := h2 0 u k1
  cases e
  refine ⟨u, ?_, poV_rep (blurE_of hd fun he => by have := hme he; subst this; rw [hl] at hl'; cases hl'; rfl) k2⟩
  have := run_loadVar_leaf (P := P) (t := t) (sz := sz) (z := z) (w := w) (a := ⟨b, o, none⟩) (u := u) hc
  simp [execOp, h1, Instr.loadAt, Instr.sureAddr, this]
theorem q_poloads {t ty : TypeId} {x : Operand} {sz : Nat} {z : List Value} {ex : Bool} {l : List D} [hT : TyI P t true sz z] (hx : evalV s x = some (.po ex (.pt l))) (hl : l.length = sz) : OpQ P cx (.load t x) ty s (.agg (poVs ex l)) := fun g a w hS => by
  have h1 := hS.eval hx
  simp only [vrep] at h1
  obtain ⟨y, hy, h1⟩ := h1
  obtain ⟨m, rfl, hm, hme⟩ := blurE_pt hy
  simp only [drep] at h1
  obtain ⟨b, o, cs, h1, h2, h3⟩ := h1
  refine ⟨.agg cs.toArray, ?_, ?_⟩
  · have := run_loadVar_agg (P := P) (t := t) (sz := sz) (z := z) (w := w) (b := b) (o := o) (us := cs) (by rw [dreps_len h3, blurDs_len hm, hl]) (fun j u hj => by
      obtain ⟨b', o', e, _, hc⟩ := h2 j u hj
      cases e; exact hc)
    simp [execOp, h1, Instr.loadAt, Instr.sureAddr, this]
  · simp only [vrep]
    refine ⟨cs, rfl, poVs_rep ?_ h3⟩
    cases ex with
    | true => exact .inr ⟨rfl, hme rfl⟩
    | false => exact .inl ⟨rfl, hm⟩
theorem vs_po {d : Tmp} {op : Op} {ty : TypeId} {pos : String} {af : Array Edge} {gd : Option (Nat × Bool)} {v : V} (k : VL P cx ops rest ⟨(d, v) :: tm, st, nb⟩ Q)
    (h : OpQ P cx op ty ⟨tm, st, nb⟩ v := by first | ((with_reducible apply q_polen); rfl) | ((with_reducible apply q_poidx); rfl; rfl; omega; (first | assumption | rfl); (first | rfl | assumption)) | ((with_reducible apply q_poload) <;> rfl) | ((with_reducible apply q_poloads); rfl; (first | rfl | assumption)))
    (hw : Wd ops tm gd := by first | exact trivial | exact wd_of rfl rfl (by with_reducible rfl)) (hd : Nat.blt d cx.N = true := by rfl) (hn : noDefer op = true := by rfl) : VL P cx ops (⟨some d, op, ty, pos, af, gd⟩ :: rest) ⟨tm, st, nb⟩ Q := vl_q h hw hd hn k
/-- a byte, whatever it is -/
theorem vs_pol8 {d : Tmp} {t ty : TypeId} {pos : String} {af : Array Edge} {gd : Option (Nat × Bool)} {x : Operand} {sz : Nat} {z : List Value} {ex : Bool} {l : List D} {n0 : Int} (k : ∀ n, VL P cx ops rest ⟨(d, I .u8 n) :: tm, st, nb⟩ Q) (hx : evalV ⟨tm, st, nb⟩ x = some (.po ex (.pt (.lit (.int .u8 n0) :: l))) := by rfl) [hT : TyI P t false sz z]
    (hw : Wd ops tm gd := by first | exact trivial | exact wd_of rfl rfl (by with_reducible rfl)) (hd : Nat.blt d cx.N = true := by rfl) : VL P cx ops (⟨some d, .load t x, ty, pos, af, gd⟩ :: rest) ⟨tm, st, nb⟩ Q := fun n g0 w0 g a w hE hS => by
  have h1 := hS.eval hx
  simp only [vrep] at h1
  obtain ⟨y, hy, h1⟩ := h1
  obtain ⟨m, rfl, hm, hme⟩ := blurE_pt hy
  obtain ⟨d', hl', hd'⟩ := blurDs_get hm (i := 0) rfl
  simp only [drep] at h1
  obtain ⟨b, o, cs, h1, h2, h3⟩ := h1
  obtain ⟨u, k1, k2⟩ := dreps_get h3 hl'
  obtain ⟨b', o', e, _, hc⟩ := h2 0 u k1
  cases e
  simp only [blurD] at hd'
  obtain ⟨v', rfl, hd'⟩ := hd'
  simp only [drep] at k2
  subst k2
  obtain ⟨n', rfl⟩ : ∃ n', u = .int .u8 n' := by
    rcases hd' with rfl | ⟨_, hd'⟩
    · exact ⟨_, rfl⟩
    · unfold u8V at hd'; split at hd'
      · exact ⟨_, rfl⟩
      · cases hd'
  have hrun : (execOp a.eval (bare (.load t x) ty)).run P w = .ok (.value (.int .u8 n')) w := by
    have := run_loadVar_leaf (P := P) (t := t) (sz := sz) (z := z) (w := w) (a := ⟨b, o, none⟩) (u := .int .u8 n') hc
    simp [execOp, h1, Instr.loadAt, Instr.sureAddr, this]
  simp only [wplIn]
  rw [if_pos (Wd.wanted (o := ⟨some d, .load t x, ty, pos, af, gd⟩) hS hw)]
  refine ⟨fun _ _ => trivial, ?_⟩
  rw [Oper.semAt_plain (FW cx.rd) _ _ (by intro c e; cases e), execOp_bare, hrun]
  exact k n' n g0 w0 g _ w hE (hS.put (Evo.refl _ _ _) (Nat.le_of_ble_eq_true hd) hS.st hS.inv (by simp only [vrep, drep]))
/-- a byte is written over -/
theorem spoil_set {g : G} {w : World} {b o : Nat} {rcs : Array Value} {ty : TypeId} {u v : Value} (hb : w.heap[b]? = some (.cells rcs ty (0, 0))) (hu : rcs[o]? = some u) (h8 : u8V u = true) (h8' : u8V v = true) (hp : g.pl b) : Spoilt g w (w.setRow b (rcs.toList.take o ++ [v] ++ rcs.toList.drop (o + 1)).toArray) := by
  have hg := grownBy_setRow w b (rcs.toList.take o ++ [v] ++ rcs.toList.drop (o + 1)).toArray
  have hlt := (Array.getElem?_eq_some_iff.1 hu).1
  refine ⟨hg.os, hg.tape, hg.output, hg.size, fun c hc hn => hg.block c hc fun e => by cases e; exact hn hp, fun c hc hlt2 => ?_⟩
  by_cases e : c = b
  · subst e
    rw [setRow_heap w c rcs _ ty (0, 0) hb, hb]
    refine .inr ⟨rcs, _, ty, (0, 0), rfl, rfl, by simp; omega, fun i x hx => ?_⟩
    rw [List.getElem?_toArray]
    by_cases e : i = o
    · subst e
      rw [hu] at hx; cases hx
      exact ⟨v, by rw [List.append_assoc, List.getElem?_append_right (by simp; omega)]; simp [Nat.min_eq_left (Nat.le_of_lt hlt)], .inr ⟨h8, h8'⟩⟩
    · refine ⟨x, ?_, .inl rfl⟩
      have hx' : rcs.toList[i]? = some x := by simpa using hx
      rcases Nat.lt_or_ge i o with h | h
      · rw [List.append_assoc, List.getElem?_append_left (by simp; omega), List.getElem?_take, if_pos h]; exact hx'
      · rw [List.getElem?_append_right (by simp; omega), List.getElem?_drop]
        rw [show o + 1 + (i - (rcs.toList.take o ++ [v]).length) = i by simp; omega]
        exact hx'
  · exact .inl (hg.block c hlt2 fun e' => by cases e'; exact e rfl)
theorem vs_poset {t ty : TypeId} {pos : String} {af : Array Edge} {gd : Option (Nat × Bool)} {x y : Operand} {z : List Value} {ex : Bool} {l : List D} {n0 n1 : Int} (k : VL P cx ops rest ⟨blurT tm, blurS st, nb⟩ Q) (hx : evalV ⟨tm, st, nb⟩ x = some (.po ex (.pt (.lit (.int .u8 n0) :: l))) := by rfl) (hy : evalV ⟨tm, st, nb⟩ y = some (.d (.lit (.int .u8 n1))) := by rfl) [hT : TyI P t false 1 z]
    (hsp : cx.M = some cx.B := by rfl) (hdf : cx.df = [] := by rfl) (hw : Wd ops tm gd := by first | exact trivial | exact wd_of rfl rfl (by with_reducible rfl)) : VL P cx ops (⟨none, .store t x y, ty, pos, af, gd⟩ :: rest) ⟨tm, st, nb⟩ Q := fun n g0 w0 g a w hE hS => by
  have h1 := hS.eval hx
  have hv := hS.eval hy
  simp only [vrep, drep] at h1 hv
  obtain ⟨y', hy', h1⟩ := h1
  obtain ⟨m, rfl, hm, hme⟩ := blurE_pt hy'
  obtain ⟨d', hl', hd'⟩ := blurDs_get hm (i := 0) rfl
  simp only [drep] at h1
  obtain ⟨b, o, cs, h1, h2, h3⟩ := h1
  obtain ⟨u, k1, k2⟩ := dreps_get h3 hl'
  obtain ⟨b', o', e, ⟨⟨hp, hunf⟩, _⟩, hc⟩ := h2 0 u k1
  cases e
  simp only [blurD] at hd'
  obtain ⟨v', rfl, hd'⟩ := hd'
  simp only [drep] at k2
  subst k2
  have h8 : u8V u = true := by
    rcases hd' with rfl | ⟨_, hd'⟩
    · rfl
    · exact hd'
  have hb : ∃ rcs ty', w.heap[b]? = some (.cells rcs ty' (0, 0)) ∧ rcs[o]? = some u := by
    have hc0 := hc
    simp only [World.cell?] at hc
    split at hc
    · rename_i rcs ty' fz hb
      have := hunf _ _ _ hb
      subst this
      refine ⟨rcs, ty', hb, ?_⟩
      rw [cell_of_row w b _ rcs ty' (0, 0) hb] at hc0
      exact hc0
    · simp at hc
  obtain ⟨rcs, ty', hb, hu⟩ := hb
  have hlt := (Array.getElem?_eq_some_iff.1 hu).1
  have hcells : (a.eval y).cells.toList = [.int .u8 n1] := by rw [hv]; rfl
  have hrun := run_storeVar (P := P) (t := t) (w := w) (b := b) (o := o) (rcs := rcs) (v := a.eval y) hb (by rw [hcells]; rfl) (by omega) (by rw [hcells]; intro u hu; simp at hu; subst hu; rfl)
  rw [hcells] at hrun
  have hsk := spoil_set (g := g) hb hu h8 (v := .int .u8 n1) rfl hp
  simp only [wplIn]
  rw [if_pos (Wd.wanted (o := ⟨none, .store t x y, ty, pos, af, gd⟩) hS hw)]
  refine ⟨fun _ _ => trivial, ?_⟩
  rw [Oper.semAt_plain (FW cx.rd) _ _ (by intro c e; cases e), execOp_bare]
  have hex : (execOp a.eval (bare (.store t x y) ty)).run P w = .ok .skip (w.setRow b (rcs.toList.take o ++ [Value.int .u8 n1] ++ rcs.toList.drop (o + 1)).toArray) := by
    simp [execOp, h1, Instr.storeAt, Instr.sureAddr, hrun]
  rw [hex]
  exact k n g0 w0 g _ _ (hsk.ext hsp hE hS.inv) (hsk.sim hdf hS)
/-! ### calls -/
theorem vl_pool {t : Tmp} {x : Operand} {f : FuncId} {xs : Array Operand} {tys : Array TypeId} {ty : TypeId} {pos : String} {af : Array Edge} {gd : Option (Nat × Bool)} {v : V} {vs az : List V} {ds' ds : List D} {d : D}
    (hc : VP P f ds (· = .ret d)) (hx : evalV s x = some v) (hv : evalVs s xs.toList = some vs) (hf : fnV v vs = some (f, az)) (ha : lendDs s.st 64 az = some ds') (hd : DLs ds' ds) (hfl : NewD d) (hw : Wd ops s.tm gd) (ht : Nat.blt t cx.N = true)
    (k : VL P cx ops rest ⟨(t, poV true d) :: s.tm, s.st, s.nb⟩ Q) :
    VL P cx ops (⟨some t, .call { callee := .value x, args := xs, argTypes := tys }, ty, pos, af, gd⟩ :: rest) s Q := fun n g0 w0 g a w hE hS => by
  simp only [wplIn]
  rw [if_pos (Wd.wanted (o := ⟨some t, _, ty, pos, af, gd⟩) hS hw)]
  refine ⟨fun _ _ => trivial, ?_⟩
  rw [Oper.semAt_plain (FW cx.rd) _ _ (by intro c e; cases e)]
  obtain ⟨zs, hrun, hzs⟩ := call_run (P := P) (w := w) (dst := some t) (tys := tys) (ty := ty) (pos := pos) (af := af) (gd := gd) hc.1 hS hx hv hf
  rw [hrun, Oper.uponIn_enter]
  refine ⟨(fun h => by cases h), ?_⟩
  have hargs := hd.le _ w.heap.size _ _ _ (lendDs_rep hS.inv hS.st (fun _ _ => trivial) ha hzs)
  have hcall := hc.2 (fun _ => True) w _ hargs
  have hmem : ∀ (r : Ending → World → Prop), Calls P f zs.toArray w r → CallsIn (FW cx.rd) (n - 1) P f zs.toArray w r := fun r h =>
    ⟨trivial, fun cs _ => by
      obtain ⟨e, w', fr, hr, hcm, hx⟩ := h cs
      refine ⟨e, w', fr, hr, ?_, hx⟩
      have := comesIn_wide.2 hcm
      cases e with
      | returned v => exact StepsIn.mono (fun m _ => fenced_FW P cx.rd m) this
      | panicked ch => exact StepsIn.mono (fun m _ => fenced_FW P cx.rd m) this
      | outgrown => exact this⟩
  refine (hmem _ hcall).mono ?_
  rintro e w' ⟨hb, r', rfl, hr⟩
  let g' : G := ⟨fun b => g.ex b ∨ (w.heap.size ≤ b ∧ b < w'.heap.size), g.bx, g.rb, g.rw, fun b => g.pl b ∨ (w.heap.size ≤ b ∧ b < w'.heap.size), fun b h => h.elim (fun h => .inl (g.plex b h)) .inr⟩
  have hprot : ∀ b, b < w.heap.size → g.prot b → g'.prot b := fun b hlt hp => by
    rintro ((ho | ho) | ho)
    · exact hp (.inl ho)
    · omega
    · exact hp (.inr ho)
  have hEv : Evo cx.B g w g' w' := ⟨hb.os, hb.tape, hb.output, hb.size, id, id, fun b hlt hp => ⟨hprot b hlt hp, hb.block b hlt⟩, fun b h => .inl h, fun b h => hb.block b (hS.inv.exlt h), fun b => ⟨.inl, fun hlt h => h.elim id fun h => by omega⟩⟩
  have hst : SimS cx.B g' w' s.st := ⟨fun {k o x} hc => by
      obtain ⟨b, rcs, ty, u, m1, m2, m3, m4⟩ := hS.st.cell hc
      exact ⟨b, rcs, ty, u, m1, (hb.block b (hS.inv.bxlt m1).1).trans m2, m3, hEv.vrep m4⟩,
    fun hr => hS.st.keepRow hEv (x := none) ⟨hb.os, hb.tape, hb.output, hb.size, fun b hb' _ => hb.block b hb'⟩ rfl rfl (by simp) hr,
    fun hl => by
      obtain ⟨h1, h2⟩ := hS.st.loop hl
      exact ⟨fun lp e => let ⟨b, m1, m2⟩ := h1 lp e; ⟨b, m1, (hb.block b (hS.inv.bxlt m1).1).trans m2⟩, fun ht => hEv.vrep (h2 ht)⟩⟩
  have hi0 := hS.inv
  have hi : Inv cx.B s.nb g' w' := ⟨fun h => ⟨Nat.lt_of_lt_of_le (hi0.bxlt h).1 hb.size, (hi0.bxlt h).2⟩, fun h => ⟨Nat.lt_of_lt_of_le (hi0.rblt h).1 hb.size, (hi0.rblt h).2⟩, hi0.rwlt, hi0.bxinj, hi0.rbinj, hi0.apart,
    fun h => h.elim (fun h => Nat.lt_of_lt_of_le (hi0.exlt h) hb.size) fun h => h.2, fun h he => he.elim (fun he => hi0.exbx h he) fun he => by have := (hi0.bxlt h).1; omega, fun h he => he.elim (fun he => hi0.exrb h he) fun he => by have := (hi0.rblt h).1; omega,
    fun h => h.elim (fun h => hi0.plB h) fun h => Nat.le_trans hi0.base h.1, Nat.le_trans hi0.base hb.size⟩
  obtain ⟨u, rfl, hu⟩ := hr
  have hu' : vrep cx.B g' w' (poV true d) u := poV_rep (B := cx.B) (g := g') (w := w') (e := true) (y := d) rfl (drep_mono hS.inv.base (fun b hlt h => ⟨⟨.inr ⟨h.2.1, hlt⟩, h.2.2⟩, rfl⟩) (NewD.le (self := hfl) _ _ _ _ hu))
  exact k n g0 w0 g' _ w' (hE.trans hEv) (hS.put hEv (Nat.le_of_ble_eq_true ht) hst hi hu')
theorem vs_pool {t : Tmp} {x : Operand} {f : FuncId} {xs : Array Operand} {tys : Array TypeId} {ty : TypeId} {pos : String} {af : Array Edge} {gd : Option (Nat × Bool)} {v : V} {vs az : List V} {ds' ds : List D} {d : D}
    (hc : VP P f ds (· = .ret d)) (k : VL P cx ops rest ⟨(t, poV true d) :: tm, st, nb⟩ Q)
    (hx : evalV ⟨tm, st, nb⟩ x = some v := by rfl) (hv : evalVs ⟨tm, st, nb⟩ xs.toList = some vs := by rfl) (hf : fnV v vs = some (f, az) := by rfl) (ha : lendDs st 64 az = some ds' := by rfl) (hd : DLs ds' ds := by ((repeat' (first | exact dls_nil | with_reducible apply dls_cons | with_reducible exact dl_lit _ | with_reducible exact dl_lf _ | infer_instance | with_reducible apply dl_agg | with_reducible apply dl_ifc | with_reducible apply dl_pt | with_reducible apply dl_fn | with_reducible apply dl_slr | assumption | apply dl_slr)); fail_if_success (focus skip))) (hfl : NewD d := by infer_instance) (hw : Wd ops tm gd := by first | exact trivial | exact wd_of rfl rfl (by with_reducible rfl)) (ht : Nat.blt t cx.N = true := by rfl) :
    VL P cx ops (⟨some t, .call { callee := .value x, args := xs, argTypes := tys }, ty, pos, af, gd⟩ :: rest) ⟨tm, st, nb⟩ Q := vl_pool hc hx hv hf ha hd hfl hw ht k
end
end Go.Proofs.YtkjpcjccddggoaaGreat

namespace Go.Proofs.YtkjpcjccddggoaaGreat
open Go.RowKit
/-- one way on, whatever it is: operations, operations of a drawn region, the rest -/
theorem nzl {g g' : Prop} (k : g') (h : g' → g := by
  intro k
  (with_reducible refine vl_id ?_)
  first
  | ((with_reducible refine vl_gd ?_); exact vs_xg k)
  | (refine vl_k 0 ?_; exact vs_xq k)
  | (refine vl_k 3 ?_; exact vs_xu k)
  | (refine vl_k 1 ?_; first | exact vs_xr k | exact vs_bs0 k)
  | (refine vl_k 2 ?_; exact vs_xv k)
  | (refine vl_k 5 ?_; exact vs_p k)
  | (refine vl_k 6 ?_; exact vs_x k)) : g := h k
theorem nzd {g g' : Prop} (k : g') (h : g' → g := by
  intro k
  (with_reducible refine vd_id ?_)
  first
  | with_reducible exact vd_done k
  | ((with_reducible refine vd_gd ?_); exact vd_skip k)
  | (refine vd_k 0 ?_; exact vd_q k)
  | (refine vd_k 3 ?_; first | exact vd_store k | exact vd_storez k)
  | (refine vd_k 1 ?_; first | exact vd_rp k | exact vd_rp k (h := r_bs0) | exact vd_r k (h := r_bs0) | exact vd_rs k | exact vd_r k)
  | (refine vd_k 2 ?_; first | exact vd_rp k | exact vd_r k | exact vd_appp k | exact vd_appzp k | exact vd_app k | exact vd_appz k)
  | (refine vd_k 6 ?_; exact vd_q k)) : g := h k
theorem nzo {g g' : Prop} (k : g') (h : g' → g := by
  intro k
  first
  | with_reducible exact vw_seq k
  | ((with_reducible refine vw_drid ?_); exact vw_drawx k)
  | ((with_reducible refine vw_cid ?_); first | exact vw_condt k | exact vw_condf k)
  | ((with_reducible refine rt_id ?_); first | exact rt_o k | exact rt_a k)
  | ((with_reducible refine rt_idp ?_); exact rt_pan rfl k)
  | ((with_reducible refine rc_id ?_); exact rc_ret k)
  | ((with_reducible refine nx_tryid ?_); exact nx_try k)
  | ((with_reducible refine nx_resid ?_); exact nx_res k)
  | with_reducible (refine NX.go ?_; constructor; exact k)
  | with_reducible exact nx_blkx rfl k
  | with_reducible exact nx_blky rfl k
  | ((with_reducible refine nx_mkid ?_); exact nx_mk k)
  | ((with_reducible refine nx_asgid ?_); exact nx_asg k)
  | ((with_reducible refine nx_rndid ?_); first | exact nx_rnd (by assumption) k | exact nx_rnde k | exact nx_rndr k)
  | ((with_reducible refine nx_rngid ?_); first | exact nx_rng (by assumption) k | exact nx_rngj k | exact nx_rngp k)) : g := h k
/-- two ways on -/
theorem nc {g g1 g2 : Prop} (k1 : g1) (k2 : g2) (h : g1 → g2 → g := by
  intro k1 k2
  first
  | ((with_reducible refine vl_id ?_); (fail_if_success (refine vs_lit ?_)); first | exact vs_case k1 k2 | exact vs_caseb k1 k2)
  | ((with_reducible refine vw_cid ?_); first | exact vw_cp k1 k2 | exact vw_cb k1 k2)) : g := h k1 k2
theorem nd {g g1 g2 : Prop} (k1 : g1) (k2 : g2) (h : g1 → g2 → g := by
  intro k1 k2
  (with_reducible refine vd_id ?_); (fail_if_success (refine vd_lit ?_)); exact vd_case k1 k2) : g := h k1 k2
/-- what it comes to -/
theorem isRet {P : Program} {f : FuncId} {ds : List D} {d : D} {g : Prop} (_ : VP P f ds (· = .ret d)) (h : g) : g := h
theorem isOwn {P : Program} {f : FuncId} {ds : List D} {e : TypeId} {sz : Nat} {l : List (List D)} {g : Prop} (_ : VP P f ds (· = .own e sz l)) (h : g) : g := h
theorem isPan {P : Program} {f : FuncId} {ds : List D} {d : D} {g : Prop} (_ : VP P f ds (· = .panic d)) (h : g) : g := h
/-- a call -/
theorem cz {g g' : Prop} {P : Program} {f : FuncId} {ds : List D} {post : R → Prop} (c : VP P f ds post) (k : g') (h : VP P f ds post → g' → g := by
  intro c k
  first
  | ((with_reducible refine vl_id ?_); refine vq_l c ?_
     first
     | ((with_reducible refine isRet c ?_); first | exact vs_call c k (h := sc_ret) | exact vs_call c k (h := sc_lent))
     | ((with_reducible refine isOwn c ?_); first | exact vs_call c k (h := sc_own) | exact vs_call c k (h := sc_lento))
     | ((with_reducible refine isPan c ?_); first | exact vs_pan c k | exact vs_lentp c k)
     | exact vs_call c k)
  | ((with_reducible refine vd_id ?_); refine vq_d c ?_
     first
     | ((with_reducible refine isRet c ?_); first | exact vd_ret c k | exact vd_lent c k)
     | ((with_reducible refine isOwn c ?_); first | exact vd_ownp c k | exact vd_own c k | exact vd_lent c k)
     | exact vd_ret c k)) : g := h c k
/-- what is known is that state -/
theorem sub_z {cx : Cx} {tm tm' : List (Nat × V)} {st st' : List E} {nb nb' : Nat} (h1 : TmR nb' [] st tm tm' := by ((repeat' (first | exact trivial | exact rle_nil | refine rle_cons ?_ ?_ | exact rle_any | exact rle_dd | exact rle_ptr rfl | exact rle_row rfl rfl | exact rle_rowk rfl rfl | refine rle_agg ?_ | refine rle_tup ?_ | refine rle_ifc ?_ | refine rle_fn ?_ ?_ | exact rle_po | exact rle_pof | exact rle_ep | exact rle_sv rfl | exact rle_yl rfl | refine ⟨⟨rfl, _, rfl, ?_⟩, ?_⟩ | exact rle_d rfl (by infer_instance) | refine ⟨⟨_, rfl, ?_⟩, ?_⟩ | refine ⟨⟨rfl, .inl ⟨rfl, _, _, rfl, rfl⟩⟩, ?_⟩ | refine ⟨⟨rfl, .inr ⟨rfl, rfl, rfl⟩⟩, ?_⟩ | refine ⟨⟨rfl, _, rfl, ?_⟩, ?_⟩ | refine ⟨?_, ?_⟩)); fail_if_success (focus skip))) (h2 : EntR nb' [] st st' := by ((repeat' (first | exact trivial | exact rle_nil | refine rle_cons ?_ ?_ | exact rle_any | exact rle_dd | exact rle_ptr rfl | exact rle_row rfl rfl | exact rle_rowk rfl rfl | refine rle_agg ?_ | refine rle_tup ?_ | refine rle_ifc ?_ | refine rle_fn ?_ ?_ | exact rle_po | exact rle_pof | exact rle_ep | exact rle_sv rfl | exact rle_yl rfl | refine ⟨⟨rfl, _, rfl, ?_⟩, ?_⟩ | exact rle_d rfl (by infer_instance) | refine ⟨⟨_, rfl, ?_⟩, ?_⟩ | refine ⟨⟨rfl, .inl ⟨rfl, _, _, rfl, rfl⟩⟩, ?_⟩ | refine ⟨⟨rfl, .inr ⟨rfl, rfl, rfl⟩⟩, ?_⟩ | refine ⟨⟨rfl, _, rfl, ?_⟩, ?_⟩ | refine ⟨?_, ?_⟩)); fail_if_success (focus skip))) (hd : DfR nb' [] st cx.df := by ((repeat' (first | exact trivial | exact rle_nil | refine rle_cons ?_ ?_ | exact rle_any | exact rle_dd | exact rle_ptr rfl | exact rle_row rfl rfl | exact rle_rowk rfl rfl | refine rle_agg ?_ | refine rle_tup ?_ | refine rle_ifc ?_ | refine rle_fn ?_ ?_ | exact rle_po | exact rle_pof | exact rle_ep | exact rle_sv rfl | exact rle_yl rfl | refine ⟨⟨rfl, _, rfl, ?_⟩, ?_⟩ | exact rle_d rfl (by infer_instance) | refine ⟨⟨_, rfl, ?_⟩, ?_⟩ | refine ⟨⟨rfl, .inl ⟨rfl, _, _, rfl, rfl⟩⟩, ?_⟩ | refine ⟨⟨rfl, .inr ⟨rfl, rfl, rfl⟩⟩, ?_⟩ | refine ⟨⟨rfl, _, rfl, ?_⟩, ?_⟩ | refine ⟨?_, ?_⟩)); fail_if_success (focus skip))) (hρ : renOk cx.m [] = true := by rfl) (h3 : Nat.ble cx.m nb' = true := by rfl) : Sub cx ⟨tm, st, nb⟩ ⟨tm', st', nb'⟩ := sub_ren [] h1 h2 hd hρ h3
theorem sub_zr {cx : Cx} {tm tm' : List (Nat × V)} {st st' : List E} {nb nb' : Nat} (ρ : Ren) (h1 : TmR nb' ρ st tm tm' := by ((repeat' (first | exact trivial | exact rle_nil | refine rle_cons ?_ ?_ | exact rle_any | exact rle_dd | exact rle_ptr rfl | exact rle_row rfl rfl | exact rle_rowk rfl rfl | refine rle_agg ?_ | refine rle_tup ?_ | refine rle_ifc ?_ | refine rle_fn ?_ ?_ | exact rle_po | exact rle_pof | exact rle_ep | exact rle_sv rfl | exact rle_yl rfl | refine ⟨⟨rfl, _, rfl, ?_⟩, ?_⟩ | exact rle_d rfl (by infer_instance) | refine ⟨⟨_, rfl, ?_⟩, ?_⟩ | refine ⟨⟨rfl, .inl ⟨rfl, _, _, rfl, rfl⟩⟩, ?_⟩ | refine ⟨⟨rfl, .inr ⟨rfl, rfl, rfl⟩⟩, ?_⟩ | refine ⟨⟨rfl, _, rfl, ?_⟩, ?_⟩ | refine ⟨?_, ?_⟩)); fail_if_success (focus skip))) (h2 : EntR nb' ρ st st' := by ((repeat' (first | exact trivial | exact rle_nil | refine rle_cons ?_ ?_ | exact rle_any | exact rle_dd | exact rle_ptr rfl | exact rle_row rfl rfl | exact rle_rowk rfl rfl | refine rle_agg ?_ | refine rle_tup ?_ | refine rle_ifc ?_ | refine rle_fn ?_ ?_ | exact rle_po | exact rle_pof | exact rle_ep | exact rle_sv rfl | exact rle_yl rfl | refine ⟨⟨rfl, _, rfl, ?_⟩, ?_⟩ | exact rle_d rfl (by infer_instance) | refine ⟨⟨_, rfl, ?_⟩, ?_⟩ | refine ⟨⟨rfl, .inl ⟨rfl, _, _, rfl, rfl⟩⟩, ?_⟩ | refine ⟨⟨rfl, .inr ⟨rfl, rfl, rfl⟩⟩, ?_⟩ | refine ⟨⟨rfl, _, rfl, ?_⟩, ?_⟩ | refine ⟨?_, ?_⟩)); fail_if_success (focus skip))) (hd : DfR nb' ρ st cx.df := by ((repeat' (first | exact trivial | exact rle_nil | refine rle_cons ?_ ?_ | exact rle_any | exact rle_dd | exact rle_ptr rfl | exact rle_row rfl rfl | exact rle_rowk rfl rfl | refine rle_agg ?_ | refine rle_tup ?_ | refine rle_ifc ?_ | refine rle_fn ?_ ?_ | exact rle_po | exact rle_pof | exact rle_ep | exact rle_sv rfl | exact rle_yl rfl | refine ⟨⟨rfl, _, rfl, ?_⟩, ?_⟩ | exact rle_d rfl (by infer_instance) | refine ⟨⟨_, rfl, ?_⟩, ?_⟩ | refine ⟨⟨rfl, .inl ⟨rfl, _, _, rfl, rfl⟩⟩, ?_⟩ | refine ⟨⟨rfl, .inr ⟨rfl, rfl, rfl⟩⟩, ?_⟩ | refine ⟨⟨rfl, _, rfl, ?_⟩, ?_⟩ | refine ⟨?_, ?_⟩)); fail_if_success (focus skip))) (hρ : renOk cx.m ρ = true := by first | rfl | decide) (h3 : Nat.ble cx.m nb' = true := by rfl) : Sub cx ⟨tm, st, nb⟩ ⟨tm', st', nb'⟩ := sub_ren ρ h1 h2 hd hρ h3
end Go.Proofs.YtkjpcjccddggoaaGreat

namespace Go.Proofs.YtkjpcjccddggoaaGreat
open Go.RowKit
section
variable {P : Program} {cx : Cx} {Q : VE → St → Prop} {tm : List (Nat × V)} {st : List E} {nb : Nat}
/-- a row is left to all -/
theorem vw_frz {c : Code} {nw : Bool} {ver : Nat} {e : TypeId} {sz : Nat} {l : List (List D)} (k : Nat) (hr : rowAt k st = some (true, nw, ver, e, sz, l)) (h : VW P cx c ⟨tm, .r false nw k ver e sz l :: st, nb⟩ Q) : VW P cx c ⟨tm, st, nb⟩ Q := fun n g0 w0 g a w hE hS => by
  obtain ⟨g', h1, h2, h3⟩ := freeze_row hS.inv hS.st hr
  exact h n g0 w0 g' a w (hE.trans h1) (hS.same h1 h2 h3)
end
end Go.Proofs.YtkjpcjccddggoaaGreat

namespace Go.Proofs.YtkjpcjccddggoaaGreat
open Go.RowKit
section
variable {P : Program} {cx : Cx} {s : St} {Q : VE → St → Prop}
/-- what a round over an element owes -/
abbrev eachV {β : Type} (cx : Cx) (I : Nat → β → St) (n : Nat) (T : Nat → β → Prop) (i : Nat) (y : β) (Q : VE → St → Prop) : VE → St → Prop :=
  loopV cx (fun z : Nat × β => I z.1 z.2) (fun z => z.1 ≤ n ∧ T z.1 z.2) (fun z => n - z.1) (i, y) Q
/-- for each element of a slice (it lies in slot t): I at element i, with y so far -/
theorem vw_each {ι β : Type} (t : Tmp) (l : List ι) (fD : ι → List D) (I : Nat → β → St) (T : Nat → β → Prop) (y0 : β) {c : Code} {cc f : Bool} (h0 : Sub cx s (I 0 y0)) (hT : T 0 y0)
    (step : ∀ i y x, T i y → i < l.length → l[i]? = some x → (l.map fD)[((i : Nat) : Int).toNat]? = some (fD x) → (i : Int) < ((l.map fD).length : Int) → (l.map fD).length = l.length → l.length ≤ 9223372036854775807 → l.drop i = x :: l.drop (i + 1) → VW P cx c (I i y) (eachV cx I l.length T i y Q))
    (last : ∀ y, T l.length y → ¬ ((l.length : Int) < ((l.map fD).length : Int)) → (l.map fD).length = l.length → VW P cx c (I l.length y) (eachV cx I l.length T l.length y Q))
    (hs : ∀ i y, lookT t (I i y).tm = some (.d (.sl cc f (l.map fD))) := by exact fun _ _ => rfl) : VW P cx (.loop c) s Q := by
  refine vw_loop (fun z : Nat × β => I z.1 z.2) (fun z => z.1 ≤ l.length ∧ T z.1 z.2) (fun z => l.length - z.1) (0, y0) h0 ⟨Nat.zero_le _, hT⟩ ?_
  rintro ⟨i, y⟩ ⟨hi, hT⟩
  refine vw_len t (hs i y) fun hlen => ?_
  simp only [List.length_map] at hlen
  simp only at hi hT
  rcases Nat.lt_or_ge i l.length with h | h
  · have hx : l[i]? = some l[i] := List.getElem?_eq_getElem h
    exact step i y l[i] hT h hx (by simp [hx]) (by simpa using h) (List.length_map _) hlen (List.drop_eq_getElem_cons h)
  · obtain rfl : i = l.length := by omega
    exact last y hT (by simp) (List.length_map _)
theorem nx_each {β : Type} {I : Nat → β → St} {n : Nat} {T : Nat → β → Prop} {i : Nat} {y : β} (y' : β) (hi : i < n) (hT : T (i + 1) y') (h : Sub cx s (I (i + 1) y')) : eachV cx I n T i y Q .normal s :=
  ⟨(i + 1, y'), ⟨hi, hT⟩, by simp only; omega, h⟩
end
end Go.Proofs.YtkjpcjccddggoaaGreat
