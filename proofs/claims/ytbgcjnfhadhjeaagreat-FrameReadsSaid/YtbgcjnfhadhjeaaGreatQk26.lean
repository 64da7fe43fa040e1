/- Walks by data and names, part 26: Contracts over slices that read so (Df), as contracts over data (VP). octet.behind, Put: what they answer has no room behind it. A range over a function, by autoparams. -/
import Derived.Laws.CopyOwn
import Derived.Laws.OwnMore
import Derived.Laws.MakeOwn
import Derived.Test.YtbgcjnfhadhjeaaGreatQk6
import Derived.Test.YtbgcjnfhadhjeaaGreatQk25
import Derived.Test.YtbgcjnfhadhjeaaGreatQk2
import Derived.Test.YtbgcjnfhadhjeaaGreatQk23
namespace Go.Proofs.YtbgcjnfhadhjeaaGreat
set_option maxRecDepth 20000
open Go.RowKit
section
variable {B : Nat} {U : Nat → Prop} {w : World}
theorem LG : ∀ {vs cs : List Value}, dreps B U w (vs.map .lit) cs → cs = vs
 | [], _, h => by simpa only [List.map_nil, dreps] using h
 | v :: vs, _, h => by
  simp only [List.map_cons, dreps, drep] at h
  obtain ⟨y, ys, rfl, rfl, k⟩ := h
  rw [LG k]
theorem J3 {α : Type} (g : α → List Value) : ∀ {L : List α} {cs : List Value}, drepss B U w (L.map fun x => (g x).map .lit) cs → cs = L.flatMap g
 | [], _, h => by simpa only [List.map_nil, drepss, List.flatMap_nil] using h
 | x :: L, _, h => by
  simp only [List.map_cons, drepss] at h
  obtain ⟨c1, c2, rfl, k1, k2⟩ := h
  rw [LG k1, J3 g k2, List.flatMap_cons]
theorem Ij : ∀ (vs : List Value), dreps B U w (vs.map .lit) vs
 | [] => by simp only [List.map_nil, dreps]
 | v :: vs => by simp only [List.map_cons, dreps, drep]; exact ⟨v, vs, rfl, rfl, Ij vs⟩
theorem Hy {α : Type} (g : α → List Value) : ∀ (L : List α), drepss B U w (L.map fun x => (g x).map .lit) (L.flatMap g)
 | [] => by simp only [List.map_nil, drepss, List.flatMap_nil]
 | x :: L => by simp only [List.map_cons, drepss, List.flatMap_cons]; exact ⟨_, _, rfl, Ij _, Hy g L⟩
theorem RA {α : Type} (g : α → List Value) {c f : Bool} {L : List α} {u : Value} (h : drep B U w (.sl c f (L.map fun x => (g x).map .lit)) u) : Df w u L.length (L.flatMap g) := by
 simp only [drep] at h
 obtain ⟨a, cap, cs, e1, e2, e3, _, e5, _, _, e7, e8⟩ := h
 rw [List.length_map] at e1 e2
 rw [J3 g e8] at e7
 exact ⟨a, cap, e1, e2, e3, e5, fun j u hj => by
  obtain ⟨b, o, h1, _, h3⟩ := e7 j u hj
  exact ⟨b, o, h1, h3⟩⟩
end
theorem Mu {P : Program} {f : FuncId} {ds : List D} {r : R} (hrun : ∀ args w, (callFunc f args).run P w = .ok (.enter f args) w)
  (h : ∀ (U : Nat → Prop) (w : World) (us : List Value), dreps w.heap.size U w ds us → Calls P f us.toArray w fun e w' => Below w.heap.size w w' ∧ PL w.heap.size (fun b => U b ∨ w.heap.size ≤ b) w' r e) : VP P f ds (· = r) :=
 ⟨hrun, fun U w us hu => (h U w us hu).mono fun _ _ ⟨h1, h2⟩ => ⟨h1, r, rfl, h2⟩⟩

theorem Wn {ops : Array Oper} {Q : Exit → Act → World → Prop} {rest : List Oper} {a : Act} {w : World} {dst : Option Tmp} {d s : Operand} {ty : TypeId} {pos : String} {af : Array Edge} (B : Nat) (w0 : World) {g n c : Nat} {v : Value} {l : List UInt8} {cur : List Value}
  (hd : a.eval d = .slice (some ⟨g, 0, none⟩) n c) (hs : a.eval s = v) (hb : FO w v l) (hn : n = l.length) (hg : w.heap[g]? = some (.cells cur.toArray 5 (0, 0))) (hc : l.length ≤ cur.length) (hB : Below B w0 w) (hBg : B ≤ g)
  (h : ∀ w', Hid (w'.heap[g]? = some (.cells (l.map vb ++ cur.drop l.length).toArray 5 (0, 0))) → Below B w0 w' → wpList Tryz.prog ops Q rest (a.put dst (.int .i64 l.length)) w') :
  wpList Tryz.prog ops Q (⟨dst, .call { callee := .builtin .copy, args := #[d, s], argTypes := #[23, 23] }, ty, pos, af, none⟩ :: rest) a w := by
 obtain ⟨sa, sc, rfl, h1, h2, h3, h4⟩ := hb
 refine wpList_copy_splice rfl d s _ _ rfl 5 Tryz.underlying23 (by kernel_rfl) _ _ _ _ _ _ hd hs g 0 cur 5 hg (l.map vb) (by simp [hn]) ?_ (by simpa using hc) (JB l) B w0 hB hBg ?_
 ·intro h0
  refine ⟨rfl, ?_⟩
  cases sa with
  | none => have := h3 rfl; simp at h0; omega
  | some ad =>
   refine ⟨ad, rfl, fun j u hu => ?_⟩
   obtain ⟨b, o, e, hcell⟩ := h4 j u hu
   cases e
   have e2 : (⟨b, o, none⟩ : Addr).add j = ⟨b, o + j, none⟩ := by
    unfold Addr.add
    split
    ·simp
    ·rfl
   rw [e2]
   exact hcell
 ·intro w' hw' hb'
  have := h w'
  simp only [List.length_map]
  refine this ?_ hb'
  refine Lib.hid ?_
  have := hw'.out
  simpa [splice] using this
theorem Xw {dst : Option Tmp} {x y : Operand} {ty : TypeId} {pos : String} {af : Array Edge} {g : Option (Nat × Bool)} (ev : Operand → Value) (w : World) (n c : Nat) (hx : ev x = .int .i64 n) (hy : ev y = .int .i64 c) (hnc : n ≤ c) (hc : c ≤ 200000000) :
  (execOp ev ⟨dst, .makeSlice 23 x y, ty, pos, af, g⟩).run Tryz.prog w = .ok (.value (.slice (some ⟨w.heap.size, 0, none⟩) n c)) (w.alloc (.cells (List.replicate c (vb 0)).toArray 5)) := by
 obtain ⟨i, hi, hz, hs, hby⟩ : ∃ i, Tryz.prog.info? 5 = some i ∧ i.zero = some (.int .u8 0) ∧ i.size = 1 ∧ i.bytes = 1 := info_parts (by kernel_rfl : (Tryz.prog.info? 5).map (fun i => (i.zero, i.size, i.bytes)) = some (some (.int .u8 0), 1, 1))
 have h := run_make (P := Tryz.prog) w 23 5 i (.int .u8 0) Tryz.underlying23 hi hz .i64 .i64 n c (by omega) (by omega) (by rw [hby]; omega) (by omega)
 have e : madeCells (Value.int .u8 0).cells (c * 1) = (List.replicate c (vb 0)).toArray := by
  rw [Nat.mul_one]
  refine Array.toList_inj.1 ?_
  rw [List.toList_toArray]
  exact toList_madeCells_one _ _
 simp only [Int.toNat_natCast, hs, e] at h
 simp only [execOp, hx, hy, Sem.run_bind, h, Result.andThen_ok, Sem.run_pure]
theorem Wm {ops : Array Oper} {Q : Exit → Act → World → Prop} {rest : List Oper} {a : Act} {w : World} {dst : Option Tmp} {x y : Operand} {ty : TypeId} {pos : String} {af : Array Edge} {g : Option (Nat × Bool)} (n c : Nat)
  (hw : Region.wanted ⟨dst, .makeSlice 23 x y, ty, pos, af, g⟩ (yielded ops a.tmps) = true) (hx : a.eval x = .int .i64 n) (hy : a.eval y = .int .i64 c) (hnc : n ≤ c) (hc : c ≤ 200000000)
  (h : ∀ W1 p, p = w.heap.size → Hid (Ie W1 p (List.replicate c (vb 0)).toArray 5) → Below w.heap.size w W1 → wpList Tryz.prog ops Q rest (a.put dst (.slice (some ⟨p, 0, none⟩) n c)) W1) :
  wpList Tryz.prog ops Q (⟨dst, .makeSlice 23 x y, ty, pos, af, g⟩ :: rest) a w :=
 SR hw (Xw _ w n c hx hy hnc hc) (h _ _ rfl (Lib.hid (Ie.new _ _ _)) (Below.alloc (Below.refl _ _) (Nat.le_refl _) _))
theorem RT {ops : Array Oper} {Q : Exit → Act → World → Prop} {rest : List Oper} {a : Act} {w : World} {dst : Option Tmp} {d s : Operand} {ty : TypeId} {pos : String} {af : Array Edge} {gg : Option (Nat × Bool)} (B : Nat) (w0 : World) {g n c : Nat} {v : Value} {m : List UInt8} {cur : List Value}
  (hw : Region.wanted ⟨dst, .call { callee := .builtin .append, args := #[d, s], argTypes := #[23, 23] }, ty, pos, af, gg⟩ (yielded ops a.tmps) = true)
  (hd : a.eval d = .slice (some ⟨g, 0, none⟩) n c) (hs : a.eval s = v) (hb : FO w v m) (hg : w.heap[g]? = some (.cells cur.toArray 5 (0, 0))) (hc : n + m.length = c) (hcl : cur.length = c) (hB : Below B w0 w) (hBg : B ≤ g)
  (h : ∀ w', Hid (w'.heap[g]? = some (.cells (cur.take n ++ m.map vb).toArray 5 (0, 0))) → Below B w0 w' → wpList Tryz.prog ops Q rest (a.put dst (.slice (some ⟨g, 0, none⟩) c c)) w') :
  wpList Tryz.prog ops Q (⟨dst, .call { callee := .builtin .append, args := #[d, s], argTypes := #[23, 23] }, ty, pos, af, gg⟩ :: rest) a w := by
 obtain ⟨sa, sc, rfl, h1, h2, h3, h4⟩ := hb
 obtain ⟨i, hi, hz, hsz, hby⟩ : ∃ i, Tryz.prog.info? 5 = some i ∧ i.zero = some (.int .u8 0) ∧ i.size = 1 ∧ i.bytes = 1 := info_parts (by kernel_rfl : (Tryz.prog.info? 5).map (fun i => (i.zero, i.size, i.bytes)) = some (some (.int .u8 0), 1, 1))
 cases sa with
 | none =>
  obtain rfl : sc = 0 := h3 rfl
  obtain rfl : m = [] := List.eq_nil_of_length_eq_zero (by omega)
  have hnc : n = c := by simpa using hc
  subst hnc
  have hrun : (Builtin.append_ #[23, 23] ty #[.slice (some ⟨g, 0, none⟩) n n, .slice none 0 0]).run Tryz.prog w = .ok (.slice (some ⟨g, 0, none⟩) n n) w := by
   simp [Builtin.append_, run_underlying Tryz.underlying23, sizeOf, typeInfo, hi, Builtin.lenOf, Builtin.firstCells, loadCells, storeCells]
  refine SR hw ?_ (h w (Lib.hid ?_) hB)
  ·simp [execOp, resolve, invoke, builtin, hd, hs, hrun, Result.andThen]
  ·rw [List.take_of_length_le (by omega), List.map_nil, List.append_nil]; exact hg
 | some ad =>
  have hrd : ∀ (j : Nat) u, (m.map vb)[j]? = some u → w.cell? (ad.add j) = some u := fun j u hu => by
   obtain ⟨b, o, e, hcell⟩ := h4 j u hu
   cases e
   have e2 : (⟨b, o, none⟩ : Addr).add j = ⟨b, o + j, none⟩ := by
    unfold Addr.add
    split
    ·simp
    ·rfl
   rw [e2]
   exact hcell
  have hrun := run_append_room (P := Tryz.prog) w 23 ty 5 i Tryz.underlying23 hi g n c cur.toArray hg ad m.length sc (m.map vb) (by rw [List.length_map, hsz, Nat.mul_one]) hrd (JB m) (by omega) (by simp [hsz]; omega)
  simp only [hsz, Nat.mul_one, List.length_map, hc] at hrun
  obtain ⟨A, hA⟩ : ∃ A : Array Value, A = (cur.toArray.toList.take n ++ m.map vb ++ cur.toArray.toList.drop c).toArray := ⟨_, rfl⟩
  rw [← hA] at hrun
  refine SR hw ?_ (h (w.setRow g A) (Lib.hid ?_) (below_setRow hB hBg A))
  ·simp [execOp, resolve, invoke, builtin, hd, hs, hrun, Result.andThen]
  ·rw [setRow_heap w g _ _ 5 _ hg, hA]
   simp [List.drop_of_length_le (show cur.length ≤ c by omega)]
set_option maxRecDepth 100000 in
set_option maxHeartbeats 400000 in
theorem SK (v1 v2 : Value) (l m : List UInt8) (w : World) (h1 : FO w v1 l) (h2 : FO w v2 m) (hlen : l.length + m.length ≤ 200000000) :
  Calls Tryz.prog 176 #[v1, v2] w fun e w' => e = .returned (.slice (some ⟨w.heap.size, 0, none⟩) (l.length + m.length) (l.length + m.length)) ∧ w'.heap[w.heap.size]? = some (.cells ((l ++ m).map vb).toArray 5 (0, 0)) ∧ Below w.heap.size w w' := by
 have h1' := h1
 have h2' := h2
 obtain ⟨a1, c1, rfl, _⟩ := h1'
 obtain ⟨a2, c2, rfl, _⟩ := h2'
 have H1 := Lib.hid h1
 have H2 := Lib.hid h2
 obtain ⟨s, hs⟩ : ∃ s, l.length + m.length = s := ⟨_, rfl⟩
 have hadd : ((l.length : Int) + (m.length : Int)) = (s : Int) := by omega
 have HS := Lib.hid hs
 rw [hs]
 clear h1 h2 hs
 go_enter Tryz.func176, Tryz.ntmps176
 go_wp2_with (first
  | (at_make; refine Wm l.length s rfl rfl rfl (by have := HS.out; omega) (by have := HS.out; omega) ?_; intro W1 p hp hb1 hB1; subst hp)
  | (refine Wn w.heap.size w rfl rfl (H1.out.below hB1) rfl hb1.out (by have := HS.out; simp; omega) hB1 (Nat.le_refl _) ?_; intro W2 hg2 hB2)
  | (at_builtin; refine RT w.heap.size w rfl rfl rfl (H2.out.below hB2) hg2.out HS.out (by have := HS.out; simp; omega) hB2 (Nat.le_refl _) ?_; intro W3 hg3 hB3))
 go_ret
 refine ⟨rfl, ?_, hB3⟩
 have := hg3.out
 simpa using this
theorem Qm : ∀ b : List UInt8, b.flatMap (fun x => [vb x]) = b.map vb
 | [] => rfl
 | x :: b => by rw [List.flatMap_cons, Qm b]; rfl
theorem LU (a b : List UInt8) (h : a.length + b.length ≤ 200000000) : VP Tryz.prog 176 [BD a, BD b] (· = .ret (.sl true true (AG (a ++ b)))) := by
 refine Mu (Bu Tryz.func176 (by kernel_rfl) rfl) fun U w us hu => ?_
 simp only [dreps] at hu
 obtain ⟨u, _, rfl, k1, v, _, rfl, k2, rfl⟩ := hu
 have by_of {z : Value} {l : List UInt8} (h : drep w.heap.size U w (BD l) z) : FO w z l := by
  have := RA (fun x : UInt8 => [vb x]) h
  rwa [Qm] at this
 refine (SK u v a b w (by_of k1) (by_of k2) h).mono ?_
 rintro e w' ⟨rfl, hg, hb⟩
 refine ⟨hb, _, rfl, ?_⟩
 have hl : (AG (a ++ b)).length = a.length + b.length := by simp
 simp only [drep]
 refine ⟨_, _, (a ++ b).map vb, by rw [hl], by rw [hl]; exact Nat.le_refl _, by unfold maxLen; omega, fun _ => hl.symm, (fun h => by cases h), ⟨1, fun x hx => ?_⟩, JB _, fun j u hu => ⟨w.heap.size, 0, rfl, ⟨.inr (Nat.le_refl _), fun _ => ⟨Nat.le_refl _, fun cs t fz hc => ?_⟩⟩, ?_⟩, ?_⟩
 ·obtain ⟨y, _, rfl⟩ := List.mem_map.1 hx; rfl
 ·rw [hg] at hc; cases hc; rfl
 ·rw [Nat.zero_add, cell_of_row w' _ j _ _ _ hg]; simpa using hu
 ·have := Hy (B := w.heap.size) (U := fun b => U b ∨ w.heap.size ≤ b) (w := w') (fun x : UInt8 => [vb x]) (a ++ b)
  rwa [Qm] at this
set_option maxRecDepth 10000
set_option maxHeartbeats 4000000
theorem US (b : List UInt8) (w n : Nat) (hw : 1 ≤ w ∧ w ≤ 8) (hn : n < 256 ^ w) (hb : b.length ≤ 100000000) : VP Tryz.prog 172 [BD b, An w, AK n] (· = .ret (.tup [.sl true true (AG (b ++ AF w n)), An 0])) := by
 have c1 := Qi w n hw hn
 have c2 := LU b (AF w n) (by rw [AI]; omega)
 refine Al fun B => ?_
 repeat' (first | refine Ai ?_ | (refine As ?_; first | refine cz (c1) ?_ | refine cz (c2) ?_ | refine Ae 211 fun _ => ?_ | refine BI (hc := AN (fd := 246) Tryz.func210 rfl Tryz.ntmps210 Tryz.results210 fun _ => ?_)) | refine Ah ?_ | refine nc ?_ ?_ | (with_reducible intro _ <;> (try (exfalso; omega))) | refine Aa ?_ | (refine nd ?_ ?_ <;> intro hg <;> first | exact xo hg | rw [hg]) | refine AU Tryz.func246 rfl Tryz.ntmps246 Tryz.results246 ?_)
 all_goals first | rfl | trace_state

set_option maxRecDepth 20000
set_option maxRecDepth 10000
theorem G6 {P : Program} {cx : Cx} {tm : List (Nat × V)} {st : List E} {nb : Nat} {Q : VE → St → Prop} {gop : Operand} {ps : Array Tmp} {assign body : Code} {v : V} {f : FuncId} {az : List V} {tm0 : List (Nat × V)}
  (hc : ∀ (R : Loop) (T : Array Value), Fu cx.N ps assign body R T → SP P f cx.B cx.m az (.y nb (some R) T ((cx.N, .yl nb) :: tm0) :: st) (nb + 1) (FR P cx nb T Q))
  (hrd : cx.rd = none := by rfl) (hM : cx.M.isSome = true := by rfl) (hdf : cx.df = [] := by rfl) (hx : Af ⟨tm, st, nb⟩ gop = some v := by rfl) (hf : GL v [.yl nb] = some (f, az) := by rfl) (htm0 : Hp cx.N tm = some tm0 := by rfl) (hmn : Nat.ble cx.m nb = true := by rfl) :
  VW P cx (.rangeFunc gop ps assign body) ⟨tm, st, nb⟩ Q := Oa hrd hM hdf hx hf htm0 hmn hc

set_option maxRecDepth 20000
structure Ba where
 t : Nat
 s : Int
 q : Nat
deriving DecidableEq
abbrev GJ (i : Ba) : List D := [AK i.t, An i.s, AK i.q]
def Cg (n : Int) : Bool := decide (1 ≤ n) && decide (n ≤ 8)
def J1 (i : Ba) : Bool := decide (1 ≤ i.t) && decide (i.t ≤ 4611686018427387904) && Cg i.s && decide (1 ≤ i.q) && decide (i.q ≤ 4611686018427387904)
def Ib (a b : Ba) : Bool := if a.t ≠ b.t then decide (a.t < b.t) else if a.s ≠ b.s then decide (a.s < b.s) else decide (a.q < b.q)
theorem VG {i : Ba} (h : J1 i = true) : (1 ≤ i.t ∧ i.t ≤ 4611686018427387904) ∧ (1 ≤ i.s ∧ i.s ≤ 8) ∧ 1 ≤ i.q ∧ i.q ≤ 4611686018427387904 := by
 simp only [J1, Cg, Bool.and_eq_true, decide_eq_true_eq] at h
 omega
def Hu (i : Ba) : List UInt8 := AF 8 i.t ++ AF 1 i.s.toNat ++ AF 8 i.q
theorem Ht (i : Ba) : (Hu i).length = 17 := by simp [Hu, AI]
abbrev Cq (c : BO) : List D := [.lit (vb c.r), .lit (vb c.g), .lit (vb c.b), .lit (vb c.a)]
abbrev c4 (c : BO) : List UInt8 := [c.r, c.g, c.b, c.a]
def BO.zero : BO := ⟨0, 0, 0, 0⟩
def Ba.zero : Ba := ⟨0, 0, 0⟩
structure A5 where
 id : Ba
 k : Int
 x : Int
 y : Int
 x2 : Int
 y2 : Int
 z : Int
 c : BO
 w : Int
 h : Int
 px : List BO
 tg : Ba
deriving DecidableEq
abbrev C6 (f : Bool) (o : A5) : List D := [AK o.id.t, An o.id.s, AK o.id.q, An o.k, An o.x, An o.y, An o.x2, An o.y2, An o.z, .lit (vb o.c.r), .lit (vb o.c.g), .lit (vb o.c.b), .lit (vb o.c.a),
 An o.w, An o.h, .sl false f (o.px.map Cq), AK o.tg.t, An o.tg.s, AK o.tg.q]
abbrev oD (o : A5) : List D := C6 false o
abbrev oM (o : A5) : List D := C6 true o
def A5.zero : A5 := ⟨.zero, 0, 0, 0, 0, 0, 0, .zero, 0, 0, [], .zero⟩
def BL (o : A5) : A5 :=
 let u1 := decide (1 ≤ o.k) && decide (o.k ≤ 6)
 let u2 := decide (1 ≤ o.k) && decide (o.k ≤ 4)
 let uz := decide (o.k = 1) || decide (o.k = 2) || decide (o.k = 5)
 let uc := decide (1 ≤ o.k) && decide (o.k ≤ 5)
 let us := decide (o.k = 6)
 let ut := decide (o.k = 7) || decide (o.k = 8)
 ⟨o.id, o.k, if u1 then o.x else 0, if u1 then o.y else 0, if u2 then o.x2 else 0, if u2 then o.y2 else 0, if uz then o.z else 0, if uc then o.c else .zero,
  if us then o.w else 0, if us then o.h else 0, if us then o.px else [], if ut then o.tg else .zero⟩
theorem Rn {o : A5} (h : o.k = 1 ∨ o.k = 2) : BL o = ⟨o.id, o.k, o.x, o.y, o.x2, o.y2, o.z, o.c, 0, 0, [], .zero⟩ := by rcases h with h | h <;> simp [BL, h]
theorem Rm {o : A5} (h : o.k = 3 ∨ o.k = 4) : BL o = ⟨o.id, o.k, o.x, o.y, o.x2, o.y2, 0, o.c, 0, 0, [], .zero⟩ := by rcases h with h | h <;> simp [BL, h]
theorem Rl {o : A5} (h : o.k = 5) : BL o = ⟨o.id, o.k, o.x, o.y, 0, 0, o.z, o.c, 0, 0, [], .zero⟩ := by simp [BL, h]
theorem Rk {o : A5} (h : o.k = 6) : BL o = ⟨o.id, o.k, o.x, o.y, 0, 0, 0, .zero, o.w, o.h, o.px, .zero⟩ := by simp [BL, h]
theorem Rj {o : A5} (h : o.k = 7 ∨ o.k = 8) : BL o = ⟨o.id, o.k, 0, 0, 0, 0, 0, .zero, 0, 0, [], o.tg⟩ := by rcases h with h | h <;> simp [BL, h]
theorem Xu {o : A5} (h : o.k < 1 ∨ 8 < o.k) : BL o = ⟨o.id, o.k, 0, 0, 0, 0, 0, .zero, 0, 0, [], .zero⟩ := by
 have h1 : (decide (1 ≤ o.k) && decide (o.k ≤ 6)) = false := by simp; omega
 have h2 : (decide (1 ≤ o.k) && decide (o.k ≤ 4)) = false := by simp; omega
 have h3 : (decide (o.k = 1) || decide (o.k = 2) || decide (o.k = 5)) = false := by simp; omega
 have h4 : (decide (1 ≤ o.k) && decide (o.k ≤ 5)) = false := by simp; omega
 have h5 : decide (o.k = 6) = false := by simp; omega
 have h6 : (decide (o.k = 7) || decide (o.k = 8)) = false := by simp; omega
 simp [BL, h1, h2, h3, h4, h5, h6]
theorem YM (k : Int) : (k = 1 ∨ k = 2) ∨ (k = 3 ∨ k = 4) ∨ k = 5 ∨ k = 6 ∨ (k = 7 ∨ k = 8) ∨ (k < 1 ∨ 8 < k) := by omega
def LV (n : Int) : Bool := decide (-64 ≤ n) && decide (n ≤ 127)
def BQ (n : Int) : Bool := decide (1 ≤ n) && decide (n ≤ 8)
def QT (o : A5) : Bool := BQ o.w && BQ o.h && decide ((o.px.length : Int) = o.w * o.h)
def Dr (o : A5) : Bool := J1 o.id && decide (1 ≤ o.k) && decide (o.k ≤ 8) && decide (BL o = o) && LV o.x && LV o.y && LV o.x2 && LV o.y2 &&
 decide (0 ≤ o.z) && decide (o.z ≤ if o.k = 5 then 1020 else 15) && (decide (o.k ≠ 6) || QT o) && (decide (o.k ≤ 6) || (J1 o.tg && Ib o.tg o.id))
abbrev Md (n : Int) : List UInt8 := AF 1 (n + 64).toNat
def Dy (o : A5) : List UInt8 := Md o.x ++ Md o.y
def Gw (o : A5) : List UInt8 := Md o.x2 ++ Md o.y2
def GY (o : A5) : List UInt8 := AF 2 o.z.toNat
def GC (l : List BO) : List UInt8 := l.flatMap c4
def Cz (o : A5) : List UInt8 :=
 if o.k = 1 ∨ o.k = 2 then Dy o ++ Gw o ++ GY o ++ c4 o.c
 else if o.k = 3 ∨ o.k = 4 then Dy o ++ Gw o ++ c4 o.c
 else if o.k = 5 then Dy o ++ GY o ++ c4 o.c
 else if o.k = 6 then Dy o ++ AF 1 o.w.toNat ++ AF 1 o.h.toNat ++ GC o.px
 else Hu o.tg
def Fk (o : A5) : List UInt8 := AF 1 o.k.toNat ++ Hu o.id ++ Cz o
def D8 (l : List A5) : List UInt8 := AF 1 l.length ++ l.flatMap Fk
def D6 (b : List UInt8) : Option (Ba × List UInt8) := if 17 ≤ b.length then some (⟨AV (b.take 8), AV ((b.drop 8).take 1), AV ((b.drop 9).take 8)⟩, b.drop 17) else none
def Ck : List UInt8 → Option ((Int × Int) × List UInt8)
 | x :: y :: t => some (((x.toNat : Int) + -64, (y.toNat : Int) + -64), t)
 | _ => none
def Dh : List UInt8 → Option (Nat × List UInt8)
 | x :: y :: t => some (256 * x.toNat + y.toNat, t)
 | _ => none
def Bs : List UInt8 → Option (BO × List UInt8)
 | r :: g :: b :: a :: t => some (⟨r, g, b, a⟩, t)
 | _ => none
def CS : List UInt8 → Except Int (Nat × List UInt8)
 | [] => .error 110
 | n :: t => if 1 ≤ n.toNat ∧ n.toNat ≤ 8 then .ok (n.toNat, t) else .error 290
def EX : Nat → List UInt8 → Option (List BO × List UInt8)
 | 0, b => some ([], b)
 | n + 1, b => match Bs b with
  | none => none
  | some (c, t) => (EX n t).map fun z => (c :: z.1, z.2)
def Er (b : List UInt8) : Except Int ((Nat × Nat × List BO) × List UInt8) := match CS b with
 | .error e => .error e
 | .ok (w, b) => match CS b with
  | .error e => .error e
  | .ok (h, b) => match EX (w * h) b with
   | none => .error 110
   | some (l, b) => .ok ((w, h, l), b)
def AR (o : A5) (b : List UInt8) : Except Int (A5 × List UInt8) :=
 if o.k ≤ 6 then match Ck b with
  | none => .error 110
  | some ((x, y), b) =>
   if o.k ≤ 4 then match Ck b with
    | none => .error 110
    | some ((x2, y2), b) =>
     if o.k ≤ 2 then match Dh b with
      | none => .error 110
      | some (z, b) => match Bs b with
       | none => .error 110
       | some (c, b) => .ok ({ o with x := x, y := y, x2 := x2, y2 := y2, z := z, c := c }, b)
     else match Bs b with
      | none => .error 110
      | some (c, b) => .ok ({ o with x := x, y := y, x2 := x2, y2 := y2, c := c }, b)
   else if o.k = 5 then match Dh b with
    | none => .error 110
    | some (z, b) => match Bs b with
     | none => .error 110
     | some (c, b) => .ok ({ o with x := x, y := y, z := z, c := c }, b)
   else match Er b with
    | .error e => .error e
    | .ok ((w, h, l), b) => .ok ({ o with x := x, y := y, w := w, h := h, px := l }, b)
 else match D6 b with
  | none => .error 110
  | some (i, b) => .ok ({ o with tg := i }, b)
def Da : List UInt8 → Except Int (A5 × List UInt8)
 | [] => .error 110
 | k :: b => if 1 ≤ k.toNat ∧ k.toNat ≤ 8 then match D6 b with
   | none => .error 110
   | some (i, b) => match AR { A5.zero with id := i, k := k.toNat } b with
    | .error e => .error e
    | .ok (o, b) => if Dr o then .ok (o, b) else .error 290
  else .error 290
def C8 (b : List UInt8) : A5 × Int × Int := match Da b with
 | .error e => (.zero, 0, e)
 | .ok (o, t) => (o, (b.length : Int) - (t.length : Int), 0)
def Dp : Nat → List UInt8 → Except Int (List A5 × List UInt8)
 | 0, b => .ok ([], b)
 | n + 1, b => match Da b with
  | .error e => .error e
  | .ok (o, b) => match Dp n b with
   | .error e => .error e
   | .ok (l, b) => .ok (o :: l, b)
def EZ : List UInt8 → Except Int (List A5 × List UInt8)
 | [] => .error 110
 | n :: b => if n.toNat ≤ 64 then Dp n.toNat b else .error 290
def Br (b : List UInt8) : List A5 × Int × Int := match EZ b with
 | .error e => ([], 0, e)
 | .ok (l, t) => (l, (b.length : Int) - (t.length : Int), 0)

end Go.Proofs.YtbgcjnfhadhjeaaGreat