/- Walks by data and names, part 46: A map of the call's own: its operations. Ways that are joined behind a block. -/
import Derived.Test.YtkjpcjccddggoaaGreatQk45
import Derived.Test.YtkjpcjccddggoaaGreatQk26
namespace Go.Proofs.YtkjpcjccddggoaaGreat
open Go.RowKit
open Go.Maps (Keyed)
open Go.ChangeMaps Go.MapKept
/-- maps from numbers to numbers -/
class MapI (P : Program) (t : TypeId) : Prop where
  info : ∃ k e, P.underlying t = some (.map k e) ∧ P.underlying k = some (.int .i64) ∧ ∀ w, (zeroValue e).run P w = .ok (.int .i64 0) w
def okL (L : List Int) : Prop := ∀ j ∈ L, (Lit.int .i64 j).wf = true
section
variable {P : Program} {t : TypeId} {w : World} {b : Nat} {L : List Int}
theorem keys_of {k : TypeId} (hk : P.underlying k = some (.int .i64)) (hL : okL L) {es : Array MapEntry} (h : es.toList.map (fun x => (x.key, x.val)) = L.map fun j => (Value.int .i64 j, Value.int .i64 1)) : ∀ e ∈ es.toList, ∃ l, keyOf P k e.key = some l := fun e he => by
  have := List.mem_map_of_mem (f := fun x : MapEntry => (x.key, x.val)) he
  rw [h] at this
  obtain ⟨j, hj, e1⟩ := List.mem_map.1 this
  simp only [Prod.mk.injEq] at e1
  rw [← e1.1]
  exact ⟨_, Go.Maps.keyOf_int_mk hk (hL j hj)⟩
theorem MapIs.look [hT : MapI P t] (h : MapIs w b L) (hL : okL L) {j : Int} (hj : (Lit.int .i64 j).wf = true) : (Instr.lookup t (.map (some b)) (.int .i64 j) false).run P w = .ok (.int .i64 (if j ∈ L then 1 else 0)) w := by
  obtain ⟨k, e, ht, hk, hz⟩ := hT.info
  obtain ⟨es, c, hb, hes⟩ := h
  have K := Go.Maps.int_keyed hk
  have hkey := Go.Maps.keyOf_int_mk hk hj
  rcases K.find w hkey es.toList (keys_of hk hL hes) with ⟨h1, h2⟩ | ⟨i, e0, h1, h2, h3⟩
  · have hn : j ∉ L := fun hm => by
      have : (Value.int .i64 j, Value.int .i64 1) ∈ es.toList.map (fun x => (x.key, x.val)) := by rw [hes]; exact List.mem_map_of_mem (f := fun j => (Value.int .i64 j, Value.int .i64 1)) hm
      obtain ⟨x, hx, e1⟩ := List.mem_map.1 this
      simp only [Prod.mk.injEq] at e1
      exact h2 x hx e1.1
    rw [if_neg hn]
    simp [Instr.lookup, run_underlying ht, MapKept.run_getObj_map hb, K.check w _ hkey, h1, hz, Result.andThen]
  · have hm : (e0.key, e0.val) ∈ es.toList.map (fun x => (x.key, x.val)) := List.mem_map_of_mem (f := fun x : MapEntry => (x.key, x.val)) (List.mem_of_getElem? h2)
    rw [hes] at hm
    obtain ⟨j', hj', e1⟩ := List.mem_map.1 hm
    simp only [Prod.mk.injEq] at e1
    rw [h3] at e1
    have : j' = j := by have := e1.1; cases this; rfl
    subst this
    rw [if_pos hj', e1.2]
    simp [Instr.lookup, run_underlying ht, MapKept.run_getObj_map hb, K.check w _ hkey, h1, Result.andThen]
theorem MapIs.len [hT : MapI P t] (h : MapIs w b L) (ty : TypeId) : (Builtin.len_ #[t] ty #[.map (some b)]).run P w = .ok (.int .i64 (L.length : Int)) w := by
  obtain ⟨k, e, ht, _, _⟩ := hT.info
  obtain ⟨es, c, hb, hes⟩ := h
  have hl : es.size = L.length := by have := congrArg List.length hes; simpa using this
  rw [← hl]
  simp [Builtin.len_, run_underlying ht, MapKept.run_getObj_map hb, goInt, Result.andThen]
theorem MapIs.put [hT : MapI P t] (h : MapIs w b L) (hL : okL L) {j : Int} (hj : (Lit.int .i64 j).wf = true) (hn : j ∉ L) : ∃ w', (Instr.mapUpdate t (.map (some b)) (.int .i64 j) (.int .i64 1)).run P w = .ok () w' ∧ MapIs w' b (L ++ [j]) ∧ w.grownBy w' (some b) := by
  obtain ⟨k, e, ht, hk, hz⟩ := hT.info
  obtain ⟨es, c, hb, hes⟩ := h
  have K := Go.Maps.int_keyed hk
  have hkey := Go.Maps.keyOf_int_mk hk hj
  rcases K.find w hkey es.toList (keys_of hk hL hes) with ⟨h1, h2⟩ | ⟨i, e0, h1, h2, h3⟩
  · refine ⟨setBlock w b (.map (es.push ⟨.int .i64 j, .int .i64 1, c⟩) (c + 1)), ?_, ⟨_, _, heap_setBlock_same hb _, ?_⟩, ⟨rfl, rfl, rfl, by simp [setBlock], fun i _ hi => heap_setBlock_other hb _ (fun e => hi (by rw [e]))⟩⟩
    · simp [Instr.mapUpdate, run_underlying ht, MapKept.run_getObj_map hb, K.check w false hkey, h1, MapKept.run_setObj_map _ hb, Result.andThen, setBlock]
    · rw [Array.toList_push, List.map_append, hes, List.map_append]; rfl
  · exfalso
    have hm : (e0.key, e0.val) ∈ es.toList.map (fun x => (x.key, x.val)) := List.mem_map_of_mem (f := fun x : MapEntry => (x.key, x.val)) (List.mem_of_getElem? h2)
    rw [hes] at hm
    obtain ⟨j', hj', e1⟩ := List.mem_map.1 hm
    simp only [Prod.mk.injEq] at e1
    rw [h3] at e1
    have : j' = j := by have := e1.1; cases this; rfl
    subst this
    exact hn hj'
end
section
variable {P : Program} {cx : Cx} {b : Nat} {L : List Int} {Q : VE → St → List Int → Prop} {tm : List (Nat × V)} {st : List E} {nb : Nat} {ops rest : List Oper}
abbrev mapVb (b : Nat) : V := .d (.lit (.map (some b)))
theorem vlm_look (v : Int) {d : Tmp} {t ty : TypeId} {x y : Operand} {j : Int} {pos : String} {af : Array Edge} {gd : Option (Nat × Bool)} [hT : MapI P t] (k : VLm P cx b ops rest ⟨(d, I .i64 v) :: tm, st, nb⟩ L Q)
    (hL : okL L) (hv : (if j ∈ L then (1 : Int) else 0) = v) (hj : (Lit.int .i64 j).wf = true) (hx : evalV ⟨tm, st, nb⟩ x = some (mapVb b) := by rfl) (hy : evalV ⟨tm, st, nb⟩ y = some (I .i64 j) := by rfl)
    (hw : Wd ops tm gd := by first | exact trivial | exact wd_of rfl rfl (by with_reducible rfl)) (hd : Nat.blt d cx.N = true := by rfl) : VLm P cx b ops (⟨some d, .lookup t x y false, ty, pos, af, gd⟩ :: rest) ⟨tm, st, nb⟩ L Q := fun n g0 w0 g a w hE hb hS hR => by
  have h1 := hS.eval hx
  have h2 := hS.eval hy
  simp only [vrep, drep] at h1 h2
  have hrun := hR.is.look (P := P) (t := t) hL hj
  rw [hv] at hrun
  simp only [wplIn]
  rw [if_pos (Wd.wanted (o := ⟨some d, .lookup t x y false, ty, pos, af, gd⟩) hS hw)]
  refine ⟨fun _ _ => trivial, ?_⟩
  rw [Oper.semAt_plain (FW cx.rd) _ _ (by intro c e; cases e), execOp_bare]
  have hex : (execOp a.eval (bare (.lookup t x y false) ty)).run P w = .ok (.value (.int .i64 v)) w := by
    simp [execOp, h1, h2, hrun]
  rw [hex]
  exact k n g0 w0 g _ w hE hb (hS.put (Evo.refl _ _ _) (Nat.le_of_ble_eq_true hd) hS.st hS.inv (by simp only [vrep, drep])) hR
theorem vlm_len {d : Tmp} {t ty : TypeId} {x : Operand} {pos : String} {af : Array Edge} {gd : Option (Nat × Bool)} [hT : MapI P t] (k : VLm P cx b ops rest ⟨(d, I .i64 (L.length : Int)) :: tm, st, nb⟩ L Q)
    (hx : evalV ⟨tm, st, nb⟩ x = some (mapVb b) := by rfl) (hw : Wd ops tm gd := by first | exact trivial | exact wd_of rfl rfl (by with_reducible rfl)) (hd : Nat.blt d cx.N = true := by rfl) : VLm P cx b ops (⟨some d, .call { callee := .builtin .len, args := #[x], argTypes := #[t] }, ty, pos, af, gd⟩ :: rest) ⟨tm, st, nb⟩ L Q := fun n g0 w0 g a w hE hb hS hR => by
  have h1 := hS.eval hx
  simp only [vrep, drep] at h1
  have hrun := hR.is.len (P := P) (t := t) ty
  simp only [wplIn]
  rw [if_pos (Wd.wanted (o := ⟨some d, _, ty, pos, af, gd⟩) hS hw)]
  refine ⟨fun _ _ => trivial, ?_⟩
  rw [Oper.semAt_plain (FW cx.rd) _ _ (by intro c e; cases e), execOp_bare]
  have hex : (execOp a.eval (bare (.call { callee := .builtin .len, args := #[x], argTypes := #[t] }) ty)).run P w = .ok (.value (.int .i64 (L.length : Int))) w := by
    simp [execOp, resolve, invoke, builtin, h1, hrun]
  rw [hex]
  exact k n g0 w0 g _ w hE hb (hS.put (Evo.refl _ _ _) (Nat.le_of_ble_eq_true hd) hS.st hS.inv (by simp only [vrep, drep])) hR
theorem vlm_put {t ty : TypeId} {m x y : Operand} {j : Int} {pos : String} {af : Array Edge} [hT : MapI P t] (k : VLm P cx b ops rest ⟨tm, st, nb⟩ (L ++ [j]) Q)
    (hL : okL L) (hj : (Lit.int .i64 j).wf = true) (hn : j ∉ L) (hm : evalV ⟨tm, st, nb⟩ m = some (mapVb b) := by rfl) (hx : evalV ⟨tm, st, nb⟩ x = some (I .i64 j) := by rfl) (hy : evalV ⟨tm, st, nb⟩ y = some (I .i64 1) := by rfl) (hdf : cx.df = [] := by rfl) :
    VLm P cx b ops (⟨none, .mapUpdate t m x y, ty, pos, af, none⟩ :: rest) ⟨tm, st, nb⟩ L Q := fun n g0 w0 g a w hE hb hS hR => by
  have h1 := hS.eval hm
  have h2 := hS.eval hx
  have h3 := hS.eval hy
  simp only [vrep, drep] at h1 h2 h3
  obtain ⟨w', hrun, his, hgr⟩ := hR.is.put (P := P) (t := t) hL hj hn
  have hT : Trn g b w w' := ⟨hgr, hR.ex, hR.np⟩
  simp only [wplIn]
  rw [if_pos (Wd.wanted (o := ⟨none, .mapUpdate t m x y, ty, pos, af, none⟩) hS trivial)]
  refine ⟨fun _ _ => trivial, ?_⟩
  rw [Oper.semAt_plain (FW cx.rd) _ _ (by intro c e; cases e), execOp_bare]
  have hex : (execOp a.eval (bare (.mapUpdate t m x y) ty)).run P w = .ok .skip w' := by
    simp [execOp, h1, h2, h3, hrun]
  rw [hex]
  exact k n g0 w0 g _ _ (hT.ext hE hb hS.inv) hb (hT.sim hdf hS) ⟨his, hR.ex, hR.np⟩
/-- a map is made: from here on it is known what it holds -/
theorem vw_map {id : Nat} {d : Tmp} {t ty : TypeId} {pos : String} {af : Array Edge} {l : List Oper} {y : Code} {Q : VE → St → Prop} (k : ∀ b, VLm P cx b (⟨some d, .makeMap t none, ty, pos, af, none⟩ :: l) l ⟨(d, mapVb b) :: tm, st, nb⟩ [] (thenM P cx b y fun e s _ => Q e s))
    (hd : Nat.blt d cx.N = true := by rfl) : VW P cx (.seq (.region id (⟨some d, .makeMap t none, ty, pos, af, none⟩ :: l).toArray false) y) ⟨tm, st, nb⟩ Q := fun n g0 w0 g a w hE hS => by
  let b := w.heap.size
  let w' := w.alloc (.map #[] 0)
  let g' : G := ⟨fun x => g.ex x ∨ x = b, g.bx, g.rb, g.rw, g.pl, fun x h => .inl (g.plex x h)⟩
  have hBl : Below w.heap.size w w' := ⟨rfl, rfl, rfl, by simp [w'], fun k hk => Below.heap_alloc w _ k hk⟩
  have hprot : ∀ x, x < w.heap.size → g.prot x → g'.prot x := fun x hlt hp => by
    rintro ((ho | ho) | ho)
    · exact hp (.inl ho)
    · simp only [b] at ho; omega
    · exact hp (.inr ho)
  have hEv : Evo cx.B g w g' w' := ⟨hBl.os, hBl.tape, hBl.output, hBl.size, fun h => h, fun h => h, fun x hlt hp => ⟨hprot x hlt hp, hBl.block x hlt⟩, fun x h => .inl h, fun x h => hBl.block x (hS.inv.exlt h), fun x => ⟨fun h => h, fun _ h => h⟩⟩
  have hst : SimS cx.B g' w' st := ⟨fun {k o x} hc => by
      obtain ⟨c, rcs, ty, u, m1, m2, m3, m4⟩ := hS.st.cell hc
      exact ⟨c, rcs, ty, u, m1, (hBl.block c (hS.inv.bxlt m1).1).trans m2, m3, hEv.vrep m4⟩,
    fun hr => hS.st.keepRow hEv (x := none) ⟨hBl.os, hBl.tape, hBl.output, hBl.size, fun b hb' _ => hBl.block b hb'⟩ rfl rfl (by simp) hr,
    fun hl => by
      obtain ⟨h1, h2⟩ := hS.st.loop hl
      exact ⟨fun lp e => let ⟨c, m1, m2⟩ := h1 lp e; ⟨c, m1, (hBl.block c (hS.inv.bxlt m1).1).trans m2⟩, fun ht => hEv.vrep (h2 ht)⟩⟩
  have hi0 := hS.inv
  have hi : Inv cx.B nb g' w' := ⟨fun h => ⟨Nat.lt_of_lt_of_le (hi0.bxlt h).1 hBl.size, (hi0.bxlt h).2⟩, fun h => ⟨Nat.lt_of_lt_of_le (hi0.rblt h).1 hBl.size, (hi0.rblt h).2⟩, hi0.rwlt, hi0.bxinj, hi0.rbinj, hi0.apart,
    fun h => h.elim (fun h => Nat.lt_of_lt_of_le (hi0.exlt h) hBl.size) fun h => by simp [w', b] at h ⊢; omega, fun h he => he.elim (fun he => hi0.exbx h he) fun he => by have := (hi0.bxlt h).1; simp only [b] at he; omega, fun h he => he.elim (fun he => hi0.exrb h he) fun he => by have := (hi0.rblt h).1; simp only [b] at he; omega,
    hi0.plB, Nat.le_trans hi0.base hBl.size⟩
  have hnp : ¬ g'.pl b := fun h => by have := hi0.exlt (g.plex b h); simp only [b] at this; omega
  have hmap : MapIs w' b [] := ⟨#[], 0, (MapKept.heap_alloc w _).1, rfl⟩
  have hreg : (Code.region id (⟨some d, .makeMap t none, ty, pos, af, none⟩ :: l).toArray false).wpIn (FW cx.rd) n P (vpostm cx b g0 w0 (thenM P cx b y fun e s _ => Q e s)) a w := by
    refine wpIn_region_l ?_
    simp only [wplIn]
    rw [if_pos (Wd.wanted (o := ⟨some d, .makeMap t none, ty, pos, af, none⟩) hS trivial)]
    refine ⟨fun _ _ => trivial, ?_⟩
    rw [Oper.semAt_plain (FW cx.rd) _ _ (by intro c e; cases e), execOp_bare]
    have hex : (execOp a.eval (bare (.makeMap t none) ty)).run P w = .ok (.value (.map (some b))) w' := by
      simp [execOp, run_makeMap, b, w']
    rw [hex]
    exact k b n g0 w0 g' (a.put (some d) (.map (some b))) w' (hE.trans hEv) hE.size (hS.put hEv (Nat.le_of_ble_eq_true hd) hst hi (by simp only [vrep, drep])) ⟨hmap, .inr rfl, hnp⟩
  refine wpIn_seq (wpIn_mono hreg ?_)
  rintro e a' w2 ⟨g2, s', e', L', k1, k2, k3, k5, k4⟩
  have fin : ∀ {c : Code} {s'' : St} {L'' : List Int} {g3 : G} {a3 : Act} {w3 : World}, VWm P cx b c s'' L'' (fun e s _ => Q e s) → Ext cx.sp cx.m g0 w0 g3 w3 → Sim cx g3 a3 w3 s'' → MapR b L'' g3 w3 → c.wpIn (FW cx.rd) n P (vpost cx g0 w0 Q) a3 w3 := fun h q1 q2 q3 => wpIn_mono (h n g0 w0 _ _ _ q1 hE.size q2 q3) (by
    rintro e a w ⟨g', s', e', L', m1, m2, m3, _, m4⟩
    exact ⟨g', s', e', m1, m2, m3, m4⟩)
  cases e' with
  | normal => simp only [erel] at k3; subst k3; exact fin k4 k1 k2 k5
  | exit id => simp only [erel] at k3; subst k3; exact ⟨g2, s', .exit id, k1, k2, rfl, k4⟩
  | goto id => simp only [erel] at k3; subst k3; exact ⟨g2, s', .goto id, k1, k2, rfl, k4⟩
  | ret => simp only [erel] at k3; subst k3; exact ⟨g2, s', .ret, k1, k2, rfl, k4⟩
  | panic v => obtain ⟨u, rfl, k⟩ := k3; exact ⟨g2, s', .panic v, k1, k2, ⟨u, rfl, k⟩, k4⟩
end
end Go.Proofs.YtkjpcjccddggoaaGreat

namespace Go.Proofs.YtkjpcjccddggoaaGreat
open Go.RowKit
/-- pieces of a function's code -/
def bodyC (f : Func) : Code := f.body.getD .skip
def sndC : Nat → Code → Code
  | 0, c => c
  | n + 1, .seq _ y => sndC n y
  | _, c => c
def fstC : Code → Code
  | .seq x _ => x
  | c => c
section
variable {P : Program} {cx : Cx} {s : St} {Q : VE → St → Prop}
end
end Go.Proofs.YtkjpcjccddggoaaGreat
