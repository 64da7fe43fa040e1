/- Walks by data and names, part 29: octet.behind, Put: what they answer has no room behind it. A range over a function, by autoparams. Layer 19, plain: ids, colours, operations; their bytes. -/
import Derived.Laws.CopyOwn
import Derived.Laws.OwnMore
import Derived.Laws.MakeOwn
import Derived.Test.YtnjaohdadaifhaaGreatPk28
import Derived.Test.YtnjaohdadaifhaaGreatPk2
import Derived.Test.YtnjaohdadaifhaaGreatPk24
import Derived.Test.YtnjaohdadaifhaaGreatPk27
namespace Go.Proofs.YtnjaohdadaifhaaGreat
set_option maxRecDepth 20000
open Go.RowKit
theorem wx_copy {ops : Array Oper} {Q : Exit → Act → World → Prop} {rest : List Oper} {a : Act} {w : World} {dst : Option Tmp} {d s : Operand} {ty : TypeId} {pos : String} {af : Array Edge} (B : Nat) (w0 : World) {g n c : Nat} {v : Value} {l : List UInt8} {cur : List Value}
    (hd : a.eval d = .slice (some ⟨g, 0, none⟩) n c) (hs : a.eval s = v) (hb : Bytes w v l) (hn : n = l.length) (hg : w.heap[g]? = some (.cells cur.toArray 5 (0, 0))) (hc : l.length ≤ cur.length) (hB : Below B w0 w) (hBg : B ≤ g)
    (h : ∀ w', Hid (w'.heap[g]? = some (.cells (l.map vb ++ cur.drop l.length).toArray 5 (0, 0))) → Below B w0 w' → wpList Tryz.prog ops Q rest (a.put dst (.int .i64 l.length)) w') :
    wpList Tryz.prog ops Q (⟨dst, .call { callee := .builtin .copy, args := #[d, s], argTypes := #[23, 23] }, ty, pos, af, none⟩ :: rest) a w := by
  obtain ⟨sa, sc, rfl, h1, h2, h3, h4⟩ := hb
  refine wpList_copy_splice rfl d s _ _ rfl 5 Tryz.underlying23 (by kernel_rfl) _ _ _ _ _ _ hd hs g 0 cur 5 hg (l.map vb) (by simp [hn]) ?_ (by simpa using hc) (one_bytes l) B w0 hB hBg ?_
  · intro h0
    refine ⟨rfl, ?_⟩
    cases sa with
    | none => have := h3 rfl; simp at h0; omega
    | some ad =>
      refine ⟨ad, rfl, fun j u hu => ?_⟩
      obtain ⟨b, o, e, hcell⟩ := h4 j u hu
      cases e
      have e2 : (⟨b, o, none⟩ : Addr).add j = ⟨b, o + j, none⟩ := by
        unfold Addr.add
        split
        · simp
        · rfl
      rw [e2]
      exact hcell
  · intro w' hw' hb'
    have := h w'
    simp only [List.length_map]
    refine this ?_ hb'
    refine Lib.hid ?_
    have := hw'.out
    simpa [splice] using this
theorem ox_make {dst : Option Tmp} {x y : Operand} {ty : TypeId} {pos : String} {af : Array Edge} {g : Option (Nat × Bool)} (ev : Operand → Value) (w : World) (n c : Nat) (hx : ev x = .int .i64 n) (hy : ev y = .int .i64 c) (hnc : n ≤ c) (hc : c ≤ 200000000) :
    (execOp ev ⟨dst, .makeSlice 23 x y, ty, pos, af, g⟩).run Tryz.prog w = .ok (.value (.slice (some ⟨w.heap.size, 0, none⟩) n c)) (w.alloc (.cells (List.replicate c (vb 0)).toArray 5)) := by
  obtain ⟨i, hi, hz, hs, hby⟩ : ∃ i, Tryz.prog.info? 5 = some i ∧ i.zero = some (.int .u8 0) ∧ i.size = 1 ∧ i.bytes = 1 := info_parts (by kernel_rfl : (Tryz.prog.info? 5).map (fun i => (i.zero, i.size, i.bytes)) = some (some (.int .u8 0), 1, 1))
  have h := run_make (P := Tryz.prog) w 23 5 i (.int .u8 0) Tryz.underlying23 hi hz .i64 .i64 n c (by omega) (by omega) (by rw [hby]; omega) (by omega)
  have e : madeCells (Value.int .u8 0).cells (c * 1) = (List.replicate c (vb 0)).toArray := by
    rw [Nat.mul_one]
    refine Array.toList_inj.1 ?_
    rw [List.toList_toArray]
    exact toList_madeCells_one _ _
  simp only [Int.toNat_natCast, hs, e] at h
  simp only [execOp, hx, hy, Sem.run_bind, h, Result.andThen_ok, Sem.run_pure]
theorem wx_make {ops : Array Oper} {Q : Exit → Act → World → Prop} {rest : List Oper} {a : Act} {w : World} {dst : Option Tmp} {x y : Operand} {ty : TypeId} {pos : String} {af : Array Edge} {g : Option (Nat × Bool)} (n c : Nat)
    (hw : Region.wanted ⟨dst, .makeSlice 23 x y, ty, pos, af, g⟩ (yielded ops a.tmps) = true) (hx : a.eval x = .int .i64 n) (hy : a.eval y = .int .i64 c) (hnc : n ≤ c) (hc : c ≤ 200000000)
    (h : ∀ W1 p, p = w.heap.size → Hid (Blk W1 p (List.replicate c (vb 0)).toArray 5) → Below w.heap.size w W1 → wpList Tryz.prog ops Q rest (a.put dst (.slice (some ⟨p, 0, none⟩) n c)) W1) :
    wpList Tryz.prog ops Q (⟨dst, .makeSlice 23 x y, ty, pos, af, g⟩ :: rest) a w :=
  wl_of hw (ox_make _ w n c hx hy hnc hc) (h _ _ rfl (Lib.hid (Blk.new _ _ _)) (Below.alloc (Below.refl _ _) (Nat.le_refl _) _))
theorem wx_append {ops : Array Oper} {Q : Exit → Act → World → Prop} {rest : List Oper} {a : Act} {w : World} {dst : Option Tmp} {d s : Operand} {ty : TypeId} {pos : String} {af : Array Edge} {gg : Option (Nat × Bool)} (B : Nat) (w0 : World) {g n c : Nat} {v : Value} {m : List UInt8} {cur : List Value}
    (hw : Region.wanted ⟨dst, .call { callee := .builtin .append, args := #[d, s], argTypes := #[23, 23] }, ty, pos, af, gg⟩ (yielded ops a.tmps) = true)
    (hd : a.eval d = .slice (some ⟨g, 0, none⟩) n c) (hs : a.eval s = v) (hb : Bytes w v m) (hg : w.heap[g]? = some (.cells cur.toArray 5 (0, 0))) (hc : n + m.length = c) (hcl : cur.length = c) (hB : Below B w0 w) (hBg : B ≤ g)
    (h : ∀ w', Hid (w'.heap[g]? = some (.cells (cur.take n ++ m.map vb).toArray 5 (0, 0))) → Below B w0 w' → wpList Tryz.prog ops Q rest (a.put dst (.slice (some ⟨g, 0, none⟩) c c)) w') :
    wpList Tryz.prog ops Q (⟨dst, .call { callee := .builtin .append, args := #[d, s], argTypes := #[23, 23] }, ty, pos, af, gg⟩ :: rest) a w := by
  obtain ⟨sa, sc, rfl, h1, h2, h3, h4⟩ := hb
  obtain ⟨i, hi, hz, hsz, hby⟩ : ∃ i, Tryz.prog.info? 5 = some i ∧ i.zero = some (.int .u8 0) ∧ i.size = 1 ∧ i.bytes = 1 := info_parts (by kernel_rfl : (Tryz.prog.info? 5).map (fun i => (i.zero, i.size, i.bytes)) = some (some (.int .u8 0), 1, 1))
  cases sa with
  | none =>
    obtain rfl : sc = 0 := h3 rfl
    obtain rfl : m = [] := List.eq_nil_of_length_eq_zero (by omega)
    have hnc : n = c := by simpa using hc
    subst hnc
    have hrun : (Builtin.append_ #[23, 23] ty #[.slice (some ⟨g, 0, none⟩) n n, .slice none 0 0]).run Tryz.prog w = .ok (.slice (some ⟨g, 0, none⟩) n n) w := by
      simp [Builtin.append_, run_underlying Tryz.underlying23, sizeOf, typeInfo, hi, Builtin.lenOf, Builtin.firstCells, loadCells, storeCells]
    refine wl_of hw ?_ (h w (Lib.hid ?_) hB)
    · simp [execOp, resolve, invoke, builtin, hd, hs, hrun, Result.andThen]
    · rw [List.take_of_length_le (by omega), List.map_nil, List.append_nil]; exact hg
  | some ad =>
    have hrd : ∀ (j : Nat) u, (m.map vb)[j]? = some u → w.cell? (ad.add j) = some u := fun j u hu => by
      obtain ⟨b, o, e, hcell⟩ := h4 j u hu
      cases e
      have e2 : (⟨b, o, none⟩ : Addr).add j = ⟨b, o + j, none⟩ := by
        unfold Addr.add
        split
        · simp
        · rfl
      rw [e2]
      exact hcell
    have hrun := run_append_room (P := Tryz.prog) w 23 ty 5 i Tryz.underlying23 hi g n c cur.toArray hg ad m.length sc (m.map vb) (by rw [List.length_map, hsz, Nat.mul_one]) hrd (one_bytes m) (by omega) (by simp [hsz]; omega)
    simp only [hsz, Nat.mul_one, List.length_map, hc] at hrun
    obtain ⟨A, hA⟩ : ∃ A : Array Value, A = (cur.toArray.toList.take n ++ m.map vb ++ cur.toArray.toList.drop c).toArray := ⟨_, rfl⟩
    rw [← hA] at hrun
    refine wl_of hw ?_ (h (w.setRow g A) (Lib.hid ?_) (below_setRow hB hBg A))
    · simp [execOp, resolve, invoke, builtin, hd, hs, hrun, Result.andThen]
    · rw [setRow_heap w g _ _ 5 _ hg, hA]
      simp [List.drop_of_length_le (show cur.length ≤ c by omega)]
set_option maxRecDepth 100000 in
set_option maxHeartbeats 400000 in
theorem behind_xc (v1 v2 : Value) (l m : List UInt8) (w : World) (h1 : Bytes w v1 l) (h2 : Bytes w v2 m) (hlen : l.length + m.length ≤ 200000000) :
    Calls Tryz.prog 100 #[v1, v2] w fun e w' => e = .returned (.slice (some ⟨w.heap.size, 0, none⟩) (l.length + m.length) (l.length + m.length)) ∧ w'.heap[w.heap.size]? = some (.cells ((l ++ m).map vb).toArray 5 (0, 0)) ∧ Below w.heap.size w w' := by
  have h1' := h1
  have h2' := h2
  obtain ⟨a1, c1, rfl, _⟩ := h1'
  obtain ⟨a2, c2, rfl, _⟩ := h2'
  have H1 := Lib.hid h1
  have H2 := Lib.hid h2
  obtain ⟨s, hs⟩ : ∃ s, l.length + m.length = s := ⟨_, rfl⟩
  have hadd : ((l.length : Int) + (m.length : Int)) = (s : Int) := by omega
  have HS := Lib.hid hs
  rw [hs]
  clear h1 h2 hs
  go_enter Tryz.func100, Tryz.ntmps100
  go_wp2_with (first
    | (at_make; refine wx_make l.length s rfl rfl rfl (by have := HS.out; omega) (by have := HS.out; omega) ?_; intro W1 p hp hb1 hB1; subst hp)
    | (refine wx_copy w.heap.size w rfl rfl (H1.out.below hB1) rfl hb1.out (by have := HS.out; simp; omega) hB1 (Nat.le_refl _) ?_; intro W2 hg2 hB2)
    | (at_builtin; refine wx_append w.heap.size w rfl rfl rfl (H2.out.below hB2) hg2.out HS.out (by have := HS.out; simp; omega) hB2 (Nat.le_refl _) ?_; intro W3 hg3 hB3))
  go_ret
  refine ⟨rfl, ?_, hB3⟩
  have := hg3.out
  simpa using this
theorem fm_vbx : ∀ b : List UInt8, b.flatMap (fun x => [vb x]) = b.map vb
  | [] => rfl
  | x :: b => by rw [List.flatMap_cons, fm_vbx b]; rfl
theorem behind_x (a b : List UInt8) (h : a.length + b.length ≤ 200000000) : VP Tryz.prog 100 [bsD a, bsD b] (· = .ret (.sl true true (byD (a ++ b)))) := by
  refine vp_bridge (callFunc_run Tryz.func100 (by kernel_rfl) rfl) fun U w us hu => ?_
  simp only [dreps] at hu
  obtain ⟨u, _, rfl, k1, v, _, rfl, k2, rfl⟩ := hu
  have by_of {z : Value} {l : List UInt8} (h : drep w.heap.size U w (bsD l) z) : Bytes w z l := by
    have := isSl_of (fun x : UInt8 => [vb x]) h
    rwa [fm_vbx] at this
  refine (behind_xc u v a b w (by_of k1) (by_of k2) h).mono ?_
  rintro e w' ⟨rfl, hg, hb⟩
  refine ⟨hb, _, rfl, ?_⟩
  have hl : (byD (a ++ b)).length = a.length + b.length := by simp
  simp only [drep]
  refine ⟨_, _, (a ++ b).map vb, by rw [hl], by rw [hl]; exact Nat.le_refl _, by unfold maxLen; omega, fun _ => hl.symm, (fun h => by cases h), ⟨1, fun x hx => ?_⟩, one_bytes _, fun j u hu => ⟨w.heap.size, 0, rfl, ⟨.inr (Nat.le_refl _), fun _ => ⟨Nat.le_refl _, fun cs t fz hc => ?_⟩⟩, ?_⟩, ?_⟩
  · obtain ⟨y, _, rfl⟩ := List.mem_map.1 hx; rfl
  · rw [hg] at hc; cases hc; rfl
  · rw [Nat.zero_add, cell_of_row w' _ j _ _ _ hg]; simpa using hu
  · have := drepss_lits_mk (B := w.heap.size) (U := fun b => U b ∨ w.heap.size ≤ b) (w := w') (fun x : UInt8 => [vb x]) (a ++ b)
    rwa [fm_vbx] at this
set_option maxRecDepth 10000
set_option maxHeartbeats 4000000
theorem put_x (b : List UInt8) (w n : Nat) (hw : 1 ≤ w ∧ w ≤ 8) (hn : n < 256 ^ w) (hb : b.length ≤ 100000000) : VP Tryz.prog 73 [bsD b, i64D w, u64D n] (· = .ret (.tup [.sl true true (byD (b ++ layN w n)), i64D 0])) := by
  have c1 := laid_v w n hw hn
  have c2 := behind_x b (layN w n) (by rw [layN_len]; omega)
  refine vp_of Tryz.func73 rfl Tryz.ntmps73 rfl Tryz.results73 fun B => ?_
  repeat' (first | refine nz1 ?_ | (refine vid ?_; first | refine cz (c1) ?_ | refine cz (c2) ?_ | refine vs_vc (hc := vc_of Tryz.func99 rfl Tryz.ntmps99 Tryz.results99 fun _ => ?_) | refine vs_vc (hc := vc_tries (fd := 119) Tryz.func98 rfl Tryz.ntmps98 Tryz.results98 fun _ => ?_)) | refine nzo ?_ | refine nc ?_ ?_ | (with_reducible intro _ <;> (try (exfalso; omega))) | refine nnil ?_ | (refine nd ?_ ?_ <;> intro hg <;> first | exact xo hg | rw [hg]) | refine vdf_of Tryz.func119 rfl Tryz.ntmps119 Tryz.results119 ?_)
  all_goals first | rfl | trace_state
end Go.Proofs.YtnjaohdadaifhaaGreat

namespace Go.Proofs.YtnjaohdadaifhaaGreat
set_option maxRecDepth 20000
open Go.RowKit
set_option maxRecDepth 10000
set_option maxHeartbeats 4000000
theorem vw_rng {P : Program} {cx : Cx} {tm : List (Nat × V)} {st : List E} {nb : Nat} {Q : VE → St → Prop} {gop : Operand} {ps : Array Tmp} {assign body : Code} {v : V} {f : FuncId} {az : List V} {tm0 : List (Nat × V)}
    (hc : ∀ (R : Loop) (T : Array Value), LoopOk cx.N ps assign body R T → VMB P f cx.B cx.m az (.y nb (some R) T ((cx.N, .yl nb) :: tm0) :: st) (nb + 1) (rangeK P cx nb T Q))
    (hrd : cx.rd = none := by rfl) (hM : cx.M.isSome = true := by rfl) (hdf : cx.df = [] := by rfl) (hx : evalV ⟨tm, st, nb⟩ gop = some v := by rfl) (hf : fnV v [.yl nb] = some (f, az) := by rfl) (htm0 : lowT cx.N tm = some tm0 := by rfl) (hmn : Nat.ble cx.m nb = true := by rfl) :
    VW P cx (.rangeFunc gop ps assign body) ⟨tm, st, nb⟩ Q := vw_range hrd hM hdf hx hf htm0 hmn hc
end Go.Proofs.YtnjaohdadaifhaaGreat

namespace Go.Proofs.YtnjaohdadaifhaaGreat
set_option maxRecDepth 20000
open Go.RowKit
structure Idd where
  t : Nat
  s : Int
  q : Nat
deriving DecidableEq
abbrev idD (i : Idd) : List D := [u64D i.t, i64D i.s, u64D i.q]
def siteB (n : Int) : Bool := decide (1 ≤ n) && decide (n ≤ 8)
def idB (i : Idd) : Bool := decide (1 ≤ i.t) && decide (i.t ≤ 4611686018427387904) && siteB i.s && decide (1 ≤ i.q) && decide (i.q ≤ 4611686018427387904)
def idLt (a b : Idd) : Bool := if a.t ≠ b.t then decide (a.t < b.t) else if a.s ≠ b.s then decide (a.s < b.s) else decide (a.q < b.q)
theorem idB_in {i : Idd} (h : idB i = true) : (1 ≤ i.t ∧ i.t ≤ 4611686018427387904) ∧ (1 ≤ i.s ∧ i.s ≤ 8) ∧ 1 ≤ i.q ∧ i.q ≤ 4611686018427387904 := by
  simp only [idB, siteB, Bool.and_eq_true, decide_eq_true_eq] at h
  omega
def idBy (i : Idd) : List UInt8 := layN 8 i.t ++ layN 1 i.s.toNat ++ layN 8 i.q
theorem idBy_len (i : Idd) : (idBy i).length = 17 := by simp [idBy, layN_len]
abbrev colD (c : Col) : List D := [.lit (vb c.r), .lit (vb c.g), .lit (vb c.b), .lit (vb c.a)]
abbrev c4 (c : Col) : List UInt8 := [c.r, c.g, c.b, c.a]
def Col.zero : Col := ⟨0, 0, 0, 0⟩
def Idd.zero : Idd := ⟨0, 0, 0⟩
structure Opp where
  id : Idd
  k : Int
  x : Int
  y : Int
  x2 : Int
  y2 : Int
  z : Int
  c : Col
  w : Int
  h : Int
  px : List Col
  tg : Idd
deriving DecidableEq
abbrev oDf (f : Bool) (o : Opp) : List D := [u64D o.id.t, i64D o.id.s, u64D o.id.q, i64D o.k, i64D o.x, i64D o.y, i64D o.x2, i64D o.y2, i64D o.z, .lit (vb o.c.r), .lit (vb o.c.g), .lit (vb o.c.b), .lit (vb o.c.a),
  i64D o.w, i64D o.h, .sl false f (o.px.map colD), u64D o.tg.t, i64D o.tg.s, u64D o.tg.q]
abbrev oD (o : Opp) : List D := oDf false o
abbrev oM (o : Opp) : List D := oDf true o
def Opp.zero : Opp := ⟨.zero, 0, 0, 0, 0, 0, 0, .zero, 0, 0, [], .zero⟩
def plainO (o : Opp) : Opp :=
  let u1 := decide (1 ≤ o.k) && decide (o.k ≤ 6)
  let u2 := decide (1 ≤ o.k) && decide (o.k ≤ 4)
  let uz := decide (o.k = 1) || decide (o.k = 2) || decide (o.k = 5)
  let uc := decide (1 ≤ o.k) && decide (o.k ≤ 5)
  let us := decide (o.k = 6)
  let ut := decide (o.k = 7) || decide (o.k = 8)
  ⟨o.id, o.k, if u1 then o.x else 0, if u1 then o.y else 0, if u2 then o.x2 else 0, if u2 then o.y2 else 0, if uz then o.z else 0, if uc then o.c else .zero,
    if us then o.w else 0, if us then o.h else 0, if us then o.px else [], if ut then o.tg else .zero⟩
theorem plain_a {o : Opp} (h : o.k = 1 ∨ o.k = 2) : plainO o = ⟨o.id, o.k, o.x, o.y, o.x2, o.y2, o.z, o.c, 0, 0, [], .zero⟩ := by rcases h with h | h <;> simp [plainO, h]
theorem plain_b {o : Opp} (h : o.k = 3 ∨ o.k = 4) : plainO o = ⟨o.id, o.k, o.x, o.y, o.x2, o.y2, 0, o.c, 0, 0, [], .zero⟩ := by rcases h with h | h <;> simp [plainO, h]
theorem plain_c {o : Opp} (h : o.k = 5) : plainO o = ⟨o.id, o.k, o.x, o.y, 0, 0, o.z, o.c, 0, 0, [], .zero⟩ := by simp [plainO, h]
theorem plain_d {o : Opp} (h : o.k = 6) : plainO o = ⟨o.id, o.k, o.x, o.y, 0, 0, 0, .zero, o.w, o.h, o.px, .zero⟩ := by simp [plainO, h]
theorem plain_e {o : Opp} (h : o.k = 7 ∨ o.k = 8) : plainO o = ⟨o.id, o.k, 0, 0, 0, 0, 0, .zero, 0, 0, [], o.tg⟩ := by rcases h with h | h <;> simp [plainO, h]
theorem plain_f {o : Opp} (h : o.k < 1 ∨ 8 < o.k) : plainO o = ⟨o.id, o.k, 0, 0, 0, 0, 0, .zero, 0, 0, [], .zero⟩ := by
  have h1 : (decide (1 ≤ o.k) && decide (o.k ≤ 6)) = false := by simp; omega
  have h2 : (decide (1 ≤ o.k) && decide (o.k ≤ 4)) = false := by simp; omega
  have h3 : (decide (o.k = 1) || decide (o.k = 2) || decide (o.k = 5)) = false := by simp; omega
  have h4 : (decide (1 ≤ o.k) && decide (o.k ≤ 5)) = false := by simp; omega
  have h5 : decide (o.k = 6) = false := by simp; omega
  have h6 : (decide (o.k = 7) || decide (o.k = 8)) = false := by simp; omega
  simp [plainO, h1, h2, h3, h4, h5, h6]
theorem k_six (k : Int) : (k = 1 ∨ k = 2) ∨ (k = 3 ∨ k = 4) ∨ k = 5 ∨ k = 6 ∨ (k = 7 ∨ k = 8) ∨ (k < 1 ∨ 8 < k) := by omega
def atB (n : Int) : Bool := decide (-64 ≤ n) && decide (n ≤ 127)
def sideB (n : Int) : Bool := decide (1 ≤ n) && decide (n ≤ 8)
def stB (o : Opp) : Bool := sideB o.w && sideB o.h && decide ((o.px.length : Int) = o.w * o.h)
def opB (o : Opp) : Bool := idB o.id && decide (1 ≤ o.k) && decide (o.k ≤ 8) && decide (plainO o = o) && atB o.x && atB o.y && atB o.x2 && atB o.y2 &&
  decide (0 ≤ o.z) && decide (o.z ≤ if o.k = 5 then 1020 else 15) && (decide (o.k ≠ 6) || stB o) && (decide (o.k ≤ 6) || (idB o.tg && idLt o.tg o.id))
abbrev at1 (n : Int) : List UInt8 := layN 1 (n + 64).toNat
def frBy (o : Opp) : List UInt8 := at1 o.x ++ at1 o.y
def toBy (o : Opp) : List UInt8 := at1 o.x2 ++ at1 o.y2
def szBy (o : Opp) : List UInt8 := layN 2 o.z.toNat
def pxBy (l : List Col) : List UInt8 := l.flatMap c4
def tailBy (o : Opp) : List UInt8 :=
  if o.k = 1 ∨ o.k = 2 then frBy o ++ toBy o ++ szBy o ++ c4 o.c
  else if o.k = 3 ∨ o.k = 4 then frBy o ++ toBy o ++ c4 o.c
  else if o.k = 5 then frBy o ++ szBy o ++ c4 o.c
  else if o.k = 6 then frBy o ++ layN 1 o.w.toNat ++ layN 1 o.h.toNat ++ pxBy o.px
  else idBy o.tg
def opBy (o : Opp) : List UInt8 := layN 1 o.k.toNat ++ idBy o.id ++ tailBy o
def opsBy (l : List Opp) : List UInt8 := layN 1 l.length ++ l.flatMap opBy
def rdId (b : List UInt8) : Option (Idd × List UInt8) := if 17 ≤ b.length then some (⟨numN (b.take 8), numN ((b.drop 8).take 1), numN ((b.drop 9).take 8)⟩, b.drop 17) else none
def rdAt : List UInt8 → Option ((Int × Int) × List UInt8)
  | x :: y :: t => some (((x.toNat : Int) + -64, (y.toNat : Int) + -64), t)
  | _ => none
def rdSz : List UInt8 → Option (Nat × List UInt8)
  | x :: y :: t => some (256 * x.toNat + y.toNat, t)
  | _ => none
def rdCol : List UInt8 → Option (Col × List UInt8)
  | r :: g :: b :: a :: t => some (⟨r, g, b, a⟩, t)
  | _ => none
def rdSide : List UInt8 → Except Int (Nat × List UInt8)
  | [] => .error 110
  | n :: t => if 1 ≤ n.toNat ∧ n.toNat ≤ 8 then .ok (n.toNat, t) else .error 290
def rdPx : Nat → List UInt8 → Option (List Col × List UInt8)
  | 0, b => some ([], b)
  | n + 1, b => match rdCol b with
    | none => none
    | some (c, t) => (rdPx n t).map fun z => (c :: z.1, z.2)
def rdSt (b : List UInt8) : Except Int ((Nat × Nat × List Col) × List UInt8) := match rdSide b with
  | .error e => .error e
  | .ok (w, b) => match rdSide b with
    | .error e => .error e
    | .ok (h, b) => match rdPx (w * h) b with
      | none => .error 110
      | some (l, b) => .ok ((w, h, l), b)
def rdTail (o : Opp) (b : List UInt8) : Except Int (Opp × List UInt8) :=
  if o.k ≤ 6 then match rdAt b with
    | none => .error 110
    | some ((x, y), b) =>
      if o.k ≤ 4 then match rdAt b with
        | none => .error 110
        | some ((x2, y2), b) =>
          if o.k ≤ 2 then match rdSz b with
            | none => .error 110
            | some (z, b) => match rdCol b with
              | none => .error 110
              | some (c, b) => .ok ({ o with x := x, y := y, x2 := x2, y2 := y2, z := z, c := c }, b)
          else match rdCol b with
            | none => .error 110
            | some (c, b) => .ok ({ o with x := x, y := y, x2 := x2, y2 := y2, c := c }, b)
      else if o.k = 5 then match rdSz b with
        | none => .error 110
        | some (z, b) => match rdCol b with
          | none => .error 110
          | some (c, b) => .ok ({ o with x := x, y := y, z := z, c := c }, b)
      else match rdSt b with
        | .error e => .error e
        | .ok ((w, h, l), b) => .ok ({ o with x := x, y := y, w := w, h := h, px := l }, b)
  else match rdId b with
    | none => .error 110
    | some (i, b) => .ok ({ o with tg := i }, b)
def rdOp : List UInt8 → Except Int (Opp × List UInt8)
  | [] => .error 110
  | k :: b => if 1 ≤ k.toNat ∧ k.toNat ≤ 8 then match rdId b with
      | none => .error 110
      | some (i, b) => match rdTail { Opp.zero with id := i, k := k.toNat } b with
        | .error e => .error e
        | .ok (o, b) => if opB o then .ok (o, b) else .error 290
    else .error 290
def takeOp (b : List UInt8) : Opp × Int × Int := match rdOp b with
  | .error e => (.zero, 0, e)
  | .ok (o, t) => (o, (b.length : Int) - (t.length : Int), 0)
def rdOps : Nat → List UInt8 → Except Int (List Opp × List UInt8)
  | 0, b => .ok ([], b)
  | n + 1, b => match rdOp b with
    | .error e => .error e
    | .ok (o, b) => match rdOps n b with
      | .error e => .error e
      | .ok (l, b) => .ok (o :: l, b)
def rdRow : List UInt8 → Except Int (List Opp × List UInt8)
  | [] => .error 110
  | n :: b => if n.toNat ≤ 64 then rdOps n.toNat b else .error 290
def takeOps (b : List UInt8) : List Opp × Int × Int := match rdRow b with
  | .error e => ([], 0, e)
  | .ok (l, t) => (l, (b.length : Int) - (t.length : Int), 0)
end Go.Proofs.YtnjaohdadaifhaaGreat
