/- octet.behind, gessoref01.Behind. -/
import Derived.Test.YtpooakhmpfbmgaaOctLaid
import Derived.Laws.CopyOwn
import Derived.Laws.OwnMore
import Derived.Laws.MakeOwn
namespace Go.Proofs.Ytpooakhmpfbmgaa
open Go.RowKit

theorem wl_copy_bytes {ops : Array Oper} {Q : Exit → Act → World → Prop} {rest : List Oper} {a : Act} {w : World} {dst : Option Tmp} {d s : Operand} {ty : TypeId} {pos : String} {af : Array Edge} (B : Nat) (w0 : World) {g n c : Nat} {v : Value} {l : List UInt8} {cur : List Value}
    (hd : a.eval d = .slice (some ⟨g, 0, none⟩) n c) (hs : a.eval s = v) (hb : Bytes w v l) (hn : n = l.length) (hg : w.heap[g]? = some (.cells cur.toArray 5 (0, 0))) (hc : l.length ≤ cur.length) (hB : Below B w0 w) (hBg : B ≤ g)
    (h : ∀ w', Hid (w'.heap[g]? = some (.cells (l.map vb ++ cur.drop l.length).toArray 5 (0, 0))) → Below B w0 w' → wpList Try.prog ops Q rest (a.put dst (.int .i64 l.length)) w') :
    wpList Try.prog ops Q (⟨dst, .call { callee := .builtin .copy, args := #[d, s], argTypes := #[22, 22] }, ty, pos, af, none⟩ :: rest) a w := by
  obtain ⟨sa, sc, rfl, h1, h2, h3, h4⟩ := hb
  refine wpList_copy_splice rfl d s _ _ rfl 5 Try.underlying22 (by kernel_rfl) _ _ _ _ _ _ hd hs g 0 cur 5 hg (l.map vb) (by simp [hn]) ?_ (by simpa using hc) (one_bytes l) B w0 hB hBg ?_
  · intro h0
    refine ⟨rfl, ?_⟩
    cases sa with
    | none => have := h3 rfl; simp at h0; omega
    | some ad =>
      refine ⟨ad, rfl, fun j u hu => ?_⟩
      obtain ⟨b, o, e, hcell⟩ := h4 j u hu
      cases e
      have e2 : (⟨b, o, none⟩ : Addr).add j = ⟨b, o + j, none⟩ := by
        unfold Addr.add
        split
        · simp
        · rfl
      rw [e2]
      exact hcell
  · intro w' hw' hb'
    have := h w'
    simp only [List.length_map]
    refine this ?_ hb'
    refine Lib.hid ?_
    have := hw'.out
    simpa [splice] using this

theorem op_make_bytes {dst : Option Tmp} {x y : Operand} {ty : TypeId} {pos : String} {af : Array Edge} {g : Option (Nat × Bool)} (ev : Operand → Value) (w : World) (n c : Nat) (hx : ev x = .int .i64 n) (hy : ev y = .int .i64 c) (hnc : n ≤ c) (hc : c ≤ 100000000) :
    (execOp ev ⟨dst, .makeSlice 22 x y, ty, pos, af, g⟩).run Try.prog w = .ok (.value (.slice (some ⟨w.heap.size, 0, none⟩) n c)) (w.alloc (.cells (List.replicate c (vb 0)).toArray 5)) := by
  obtain ⟨i, hi, hz, hs, hby⟩ : ∃ i, Try.prog.info? 5 = some i ∧ i.zero = some (.int .u8 0) ∧ i.size = 1 ∧ i.bytes = 1 := info_parts (by kernel_rfl : (Try.prog.info? 5).map (fun i => (i.zero, i.size, i.bytes)) = some (some (.int .u8 0), 1, 1))
  have h := run_make (P := Try.prog) w 22 5 i (.int .u8 0) Try.underlying22 hi hz .i64 .i64 n c (by omega) (by omega) (by rw [hby]; omega) (by omega)
  have e : madeCells (Value.int .u8 0).cells (c * 1) = (List.replicate c (vb 0)).toArray := by
    rw [Nat.mul_one]
    refine Array.toList_inj.1 ?_
    rw [List.toList_toArray]
    exact toList_madeCells_one _ _
  simp only [Int.toNat_natCast, hs, e] at h
  simp only [execOp, hx, hy, Sem.run_bind, h, Result.andThen_ok, Sem.run_pure]

theorem wl_make_bytes {ops : Array Oper} {Q : Exit → Act → World → Prop} {rest : List Oper} {a : Act} {w : World} {dst : Option Tmp} {x y : Operand} {ty : TypeId} {pos : String} {af : Array Edge} {g : Option (Nat × Bool)} (n c : Nat)
    (hw : Region.wanted ⟨dst, .makeSlice 22 x y, ty, pos, af, g⟩ (yielded ops a.tmps) = true) (hx : a.eval x = .int .i64 n) (hy : a.eval y = .int .i64 c) (hnc : n ≤ c) (hc : c ≤ 100000000)
    (h : ∀ W1 p, p = w.heap.size → Hid (Blk W1 p (List.replicate c (vb 0)).toArray 5) → Below w.heap.size w W1 → wpList Try.prog ops Q rest (a.put dst (.slice (some ⟨p, 0, none⟩) n c)) W1) :
    wpList Try.prog ops Q (⟨dst, .makeSlice 22 x y, ty, pos, af, g⟩ :: rest) a w :=
  wl_of hw (op_make_bytes _ w n c hx hy hnc hc) (h _ _ rfl (Lib.hid (Blk.new _ _ _)) (Below.new _ _))

theorem made_own {w : World} {p s base : Nat} {l m : List UInt8} (h : w.heap[p]? = some (.cells (l.map vb ++ (List.replicate s (vb 0)).drop l.length).toArray 5 (0, 0))) (hs : l.length + m.length = s) (hp : base ≤ p) (hl : l.length + m.length ≤ 1000000) : OwnB base w (.slice (some ⟨p, 0, none⟩) l.length s) l := by
  refine ⟨by simp, .inr ⟨p, s, _, rfl, hp, h, by omega, by unfold maxLen; omega, ?_, ?_⟩⟩
  · simp; omega
  · simp

set_option maxRecDepth 100000 in
set_option maxHeartbeats 400000 in
theorem behind_any (v1 v2 : Value) (l m : List UInt8) (w : World) (h1 : Bytes w v1 l) (h2 : Bytes w v2 m) (hlen : l.length + m.length ≤ 1000000) :
    Calls Try.prog 46 #[v1, v2] w fun e w' => ∃ v, e = .returned v ∧ OwnB w.heap.size w' v (l ++ m) ∧ Below w.heap.size w w' := by
  have h1' := h1
  have h2' := h2
  obtain ⟨a1, c1, rfl, _⟩ := h1'
  obtain ⟨a2, c2, rfl, _⟩ := h2'
  have H1 := Lib.hid h1
  have H2 := Lib.hid h2
  obtain ⟨s, hs⟩ : ∃ s, l.length + m.length = s := ⟨_, rfl⟩
  have hadd : ((l.length : Int) + (m.length : Int)) = (s : Int) := by omega
  have HS := Lib.hid hs
  clear h1 h2 hs
  go_enter Try.func46, Try.ntmps46
  go_wp2_with (first
    | (at_make; refine wl_make_bytes l.length s rfl rfl rfl (by have := HS.out; omega) (by have := HS.out; omega) ?_; intro W1 p hp hb1 hB1; subst hp)
    | (refine wl_copy_bytes w.heap.size w rfl rfl (H1.out.below hB1) rfl hb1.out (by have := HS.out; simp; omega) hB1 (Nat.le_refl _) ?_; intro W2 hg2 hB2)
    | (at_builtin; refine wl_append_bytes w.heap.size rfl rfl rfl (made_own hg2.out HS.out (Nat.le_refl _) hlen) (H2.out.below hB2) hlen hB2.size ?_; intro v3 W3 ho3 hB3))
  go_ret
  exact ⟨_, rfl, ho3, hB2.trans hB3⟩

set_option maxRecDepth 100000 in
set_option maxHeartbeats 400000 in
theorem rbehind_any (v1 v2 : Value) (l m : List UInt8) (w : World) (h1 : Bytes w v1 l) (h2 : Bytes w v2 m) (hlen : l.length + m.length ≤ 1000000) :
    Calls Try.prog 14 #[v1, v2] w fun e w' => ∃ v, e = .returned v ∧ OwnB w.heap.size w' v (l ++ m) ∧ Below w.heap.size w w' := by
  have h1' := h1
  have h2' := h2
  obtain ⟨a1, c1, rfl, hc1, hm1, _⟩ := h1'
  obtain ⟨a2, c2, rfl, hc2, hm2, _⟩ := h2'
  have hB0 := Below.new w (.cells #[] 5)
  have H1 := Lib.hid (h1.below hB0)
  have H2 := Lib.hid h2
  have h0 : OwnB w.heap.size (w.alloc (.cells #[] 5)) (.slice (some ⟨w.heap.size, 0, none⟩) 0 0) [] := World.ownsRow_lit (base := w.heap.size) (e := 5) (size := 1) w #[] 0 (Nat.le_refl _) (by unfold maxLen; omega) rfl
  have H0 := Lib.hid h0
  clear h1 h2 h0
  go_enter Try.func14, Try.ntmps14
  go_wp2_with (at_builtin; first
    | (refine wl_append_bytes w.heap.size rfl rfl rfl H0.out H1.out (by simp; omega) hB0.size ?_; intro v5 W5 ho5 hB5)
    | (refine wl_append_bytes w.heap.size rfl rfl rfl ho5 (H2.out.below (hB0.trans hB5)) (by simp; omega) (Nat.le_trans hB0.size hB5.size) ?_; intro v6 W6 ho6 hB6))
  go_ret
  exact ⟨_, rfl, by simpa using ho6, hB0.trans (hB5.trans hB6)⟩

end Go.Proofs.Ytpooakhmpfbmgaa
