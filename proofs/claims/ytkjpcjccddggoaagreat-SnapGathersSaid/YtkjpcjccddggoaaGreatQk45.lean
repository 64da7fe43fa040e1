/- Walks by data and names, part 45: Layer 21: what SnapGathers asks: piles of some of the pieces (plain), and snap.Cut of any bytes. A map of the call's own, beside the log: triples that know what it holds. -/
import Derived.Maps.Own
import Derived.Maps.OwnSet
import Derived.Test.YtkjpcjccddggoaaGreatQk44
import Derived.Test.YtkjpcjccddggoaaGreatQk43
import Derived.Test.YtkjpcjccddggoaaGreatQk26
namespace Go.Proofs.YtkjpcjccddggoaaGreat
open Go.RowKit
set_option maxRecDepth 10000
set_option maxHeartbeats 4000000
def setS (z : List Nat) : Nat → Bool := fun j => decide (j ∈ z)
theorem setS_add (z : List Nat) (k : Nat) : addS (setS z) k = setS (z ++ [k]) := by
  funext j
  simp [addS, setS]
theorem pile_0 (n : Int) (W : List UInt8) : pileS n W (setS []) = .zero := by
  unfold pileS
  rw [if_neg]
  rw [any_get]; rintro ⟨j, _, h⟩; simp [setS] at h
theorem cnt_S {z : List Nat} {m : Nat} (hn : z.Nodup) (hz : ∀ j ∈ z, j < m) : ((List.range m).filter (setS z)).length = z.length := by
  have h : ((List.range m).filter (setS z)).Perm z := (List.perm_ext_iff_of_nodup (List.nodup_range.filter _) hn).2 fun j => by
    simp only [List.mem_filter, List.mem_range, setS, decide_eq_true_eq]
    exact ⟨fun h => h.2, fun h => ⟨hz j h, h⟩⟩
  exact h.length_eq
theorem lt_S {z : List Nat} {m : Nat} (hn : z.Nodup) (hz : ∀ j ∈ z, j < m) : ((∀ j, j < m → setS z j = true) → ¬ z.length < m) ∧ ((∃ j, j < m ∧ setS z j = false) → z.length < m) := by
  have hc := cnt_S hn hz
  refine ⟨fun h => ?_, fun ⟨j, hj, h⟩ => ?_⟩
  · have : (List.range m).filter (setS z) = List.range m := List.filter_eq_self.2 fun j hj => h j (List.mem_range.1 hj)
    rw [this, List.length_range] at hc
    omega
  · have := (List.length_filter_lt_length_iff_exists (p := setS z)).2 ⟨j, List.mem_range.2 hj, by rw [h]; simp⟩
    rw [hc, List.length_range] at this
    exact this
theorem gather_S {n : Int} {W : List UInt8} {z : List Nat} (hn : numB n = true) (hm : manyN W ≤ 64) (h0 : 0 < W.length) (hd : z.Nodup) (hz : ∀ j ∈ z, j < manyN W) : ∃ P, putsE (pileS n W (setS z)) (pcsOf n W) = (P, (z.length : Int), 0) ∧ wholeE P = (W, true) ∧ P.parts.flatten = W := by
  have h := putsS_all (n := n) (W := W) hn hm (manyN W) 0 (setS z) 0 (by omega)
  have el : (List.range' 0 (manyN W)).map (pcAt n W) = pcsOf n W := by rw [pcsOf, List.range_eq_range']
  rw [el, ← List.range_eq_range', cnt_S hd hz] at h
  generalize hP : pileS n W (fun j => setS z j || decide (0 ≤ j ∧ j < 0 + manyN W)) = P at h
  have hw : wholeE P = (W, true) := by
    subst hP
    rcases ends_S (n := n) (W := W) (S := fun j => setS z j || decide (0 ≤ j ∧ j < 0 + manyN W)) hn hm h0 with ⟨_, _, h⟩ | ⟨j, hj, hS, _⟩
    · exact h
    · simp only [Bool.or_eq_false_iff, decide_eq_false_iff_not] at hS; omega
  refine ⟨P, ?_, hw, ?_⟩
  · have : piB (pileS n W (setS z)) = true := piB_S hn hm
    unfold putsE
    rw [if_neg (by rw [this]; simp), h]
    simp
  · unfold wholeE at hw
    split at hw
    · cases hw
    · exact (Prod.ext_iff.1 hw).1
theorem cut_big (s : Int) (b : List UInt8) (hb : b.length ≤ 140737488351232) : VP Tryz.prog 9 [u64D s, bsD b] (· = .ret (.tup [.sl false true ((cutE s b).1.map pcN), i64D (cutE s b).2])) := by
  by_cases h : b.length ≤ 100000
  · exact cut_v s b h
  have hbl := byD_len b
  have cn := number_v s
  have cm := many_v (byD b).length (by omega) (by omega)
  rw [manyI_N] at cm
  have h2 : ¬ manyN b ≤ 64 := by unfold manyN; omega
  refine VP.le ?_
  cases h1 : numB s with
  | false =>
    have hc : cutE s b = ([], 2) := by simp [cutE, h1]
    rw [hc]
    rw [h1] at cn
    refine vp_of Tryz.func9 rfl Tryz.ntmps9 rfl Tryz.results9 fun B => ?_
    repeat' (first | fail | fail | refine nzl ?_ | refine nzd ?_ | ((first | with_reducible refine vl_id ?_ | with_reducible refine vd_id ?_); first | refine cz (cn) ?_ | refine cz (cm) ?_ | (refine vq_l (need_ok 2) ?_; first | refine vs_call (need_ok 2) ?_ | refine vs_pan (need_no 2) ?_ | (refine vs_cifp (need_if _ 2) ?_ ?_ <;> intro _ <;> (try (exfalso; omega))) | (refine vs_cif (need_if _ 2) ?_ ?_ <;> intro _)) | (refine vq_l (need_ok 3) ?_; first | refine vs_call (need_ok 3) ?_ | refine vs_pan (need_no 3) ?_ | (refine vs_cifp (need_if _ 3) ?_ ?_ <;> intro _ <;> (try (exfalso; omega))) | (refine vs_cif (need_if _ 3) ?_ ?_ <;> intro _)) | refine vs_vc (hc := vc_of Tryz.func40 rfl Tryz.ntmps40 Tryz.results40 fun _ => ?_) | refine vs_vc (hc := vc_of Tryz.func41 rfl Tryz.ntmps41 Tryz.results41 fun _ => ?_) | refine vs_vc (hc := vc_tries (fd := 89) Tryz.func39 rfl Tryz.ntmps39 Tryz.results39 fun _ => ?_)) | refine nzo ?_ | refine nc ?_ ?_ | (with_reducible intro _ <;> (try (exfalso; omega))) | refine vs_eqnil ?_ | refine vs_nenil ?_ | (refine nd ?_ ?_ <;> intro hg <;> (first | (exfalso; (try simp only [decide_eq_true_eq, decide_eq_false_iff_not] at hg); omega) | rw [hg])) | refine vdf_of Tryz.func89 rfl Tryz.ntmps89 Tryz.results89 ?_)
    all_goals first | (simp only [List.map_nil, leR]; infer_instance) | (exfalso; simp_all; omega)
  | true =>
    have hc : cutE s b = ([], 3) := by
      unfold cutE
      rw [if_neg (by rw [h1, decide_eq_true (show 0 < b.length by omega)]; simp), if_pos (by rw [decide_eq_false h2])]
    rw [hc]
    rw [h1] at cn
    refine vp_of Tryz.func9 rfl Tryz.ntmps9 rfl Tryz.results9 fun B => ?_
    repeat' (first | fail | fail | refine nzl ?_ | refine nzd ?_ | ((first | with_reducible refine vl_id ?_ | with_reducible refine vd_id ?_); first | refine cz (cn) ?_ | refine cz (cm) ?_ | (refine vq_l (need_ok 2) ?_; first | refine vs_call (need_ok 2) ?_ | refine vs_pan (need_no 2) ?_ | (refine vs_cifp (need_if _ 2) ?_ ?_ <;> intro _ <;> (try (exfalso; omega))) | (refine vs_cif (need_if _ 2) ?_ ?_ <;> intro _)) | (refine vq_l (need_ok 3) ?_; first | refine vs_call (need_ok 3) ?_ | refine vs_pan (need_no 3) ?_ | (refine vs_cifp (need_if _ 3) ?_ ?_ <;> intro _ <;> (try (exfalso; omega))) | (refine vs_cif (need_if _ 3) ?_ ?_ <;> intro _)) | refine vs_vc (hc := vc_of Tryz.func40 rfl Tryz.ntmps40 Tryz.results40 fun _ => ?_) | refine vs_vc (hc := vc_of Tryz.func41 rfl Tryz.ntmps41 Tryz.results41 fun _ => ?_) | refine vs_vc (hc := vc_tries (fd := 89) Tryz.func39 rfl Tryz.ntmps39 Tryz.results39 fun _ => ?_)) | refine nzo ?_ | refine nc ?_ ?_ | (with_reducible intro _ <;> (try (exfalso; omega))) | refine vs_eqnil ?_ | refine vs_nenil ?_ | (refine nd ?_ ?_ <;> intro hg <;> (first | (exfalso; (try simp only [decide_eq_true_eq, decide_eq_false_iff_not] at hg); omega) | rw [hg])) | refine vdf_of Tryz.func89 rfl Tryz.ntmps89 Tryz.results89 ?_)
    all_goals first | (simp only [List.map_nil, leR]; infer_instance) | (exfalso; simp_all; omega)
end Go.Proofs.YtkjpcjccddggoaaGreat

namespace Go.Proofs.YtkjpcjccddggoaaGreat
open Go.RowKit
open Go.Maps (Keyed)
/-! ### the map -/
/-- block b is a map that holds a 1 at each of these keys, in the order in which they came -/
def MapIs (w : World) (b : Nat) (L : List Int) : Prop := ∃ es clock, w.heap[b]? = some (.map es clock) ∧ es.toList.map (fun x => (x.key, x.val)) = L.map fun j => (Value.int .i64 j, Value.int .i64 1)
theorem MapIs.lt {w : World} {b : Nat} {L : List Int} (h : MapIs w b L) : b < w.heap.size := by
  obtain ⟨_, _, h, _⟩ := h
  exact (Array.getElem?_eq_some_iff.1 h).1
structure MapR (b : Nat) (L : List Int) (g : G) (w : World) : Prop where
  is : MapIs w b L
  ex : g.ex b
  np : ¬ g.pl b
theorem MapR.ext {b : Nat} {L : List Int} {g g' : G} {w w' : World} {sp : Prop} {m : Nat} (h : MapR b L g w) (hE : Ext sp m g w g' w') : MapR b L g' w' := by
  obtain ⟨es, c, h1, h2⟩ := h.is
  exact ⟨⟨es, c, (hE.exblk b h.ex fun hn => h.np hn.2).trans h1, h2⟩, hE.ex b h.ex, fun hp => h.np ((hE.pl b).2 h.is.lt hp)⟩
theorem Ext.comp {sp : Prop} {m nb B : Nat} {g0 g1 g2 : G} {w0 w1 w2 : World} (h : Ext sp m g0 w0 g1 w1) (k : Ext sp m g1 w1 g2 w2) (hi : Inv B nb g1 w1) : Ext sp m g0 w0 g2 w2 := by
  refine ⟨k.os.trans h.os, k.tape.trans h.tape, k.output.trans h.output, Nat.le_trans h.size k.size, fun hk e => k.bx hk (h.bx hk e), fun hk e => k.rw hk (h.rw hk e), fun b hb hp => ?_, fun b hb => k.ex b (h.ex b hb), fun b hb hn => ?_, h.pl.trans k.pl h.size, fun b hb hlt => ?_⟩
  · obtain ⟨h1, h2⟩ := h.blk b hb hp
    obtain ⟨k1, k2⟩ := k.blk b (Nat.lt_of_lt_of_le hb h.size) h1
    exact ⟨k1, k2.trans h2⟩
  · have hlt : b < w0.heap.size := by
      have h1 := hi.exlt (h.ex b hb)
      have h2 := h.exblk b hb hn
      rw [Array.getElem?_eq_getElem h1] at h2
      exact (Array.getElem?_eq_some_iff.1 h2.symm).1
    exact (k.exblk b (h.ex b hb) fun hq => hn ⟨hq.1, (h.pl b).2 hlt hq.2⟩).trans (h.exblk b hb hn)
  · exact blurB_trans (h.blur b hb hlt) (k.blur b ((h.pl b).1 hb) (Nat.lt_of_lt_of_le hlt h.size))
/-! ### what turns that block alone -/
structure Trn (g : G) (b : Nat) (w w' : World) : Prop where
  gr : w.grownBy w' (some b)
  ex : g.ex b
  np : ¬ g.pl b
section
variable {B b : Nat} {g : G} {w w' : World}
theorem Trn.prot (h : Trn g b w w') {x : Nat} (hp : g.prot x) : x ≠ b := fun e => hp (.inl (e ▸ h.ex))
theorem Trn.blk (h : Trn g b w w') (x : Nat) (hx : x < w.heap.size) (hne : x ≠ b) : w'.heap[x]? = w.heap[x]? := h.gr.block x hx (by simpa using hne)
theorem Trn.un (h : Trn g b w w') {x : Nat} (hx : x < w.heap.size) (hp : g.pl x) (hu : Unf w x) : Unf w' x := by
  have hne : x ≠ b := fun e => h.np (e ▸ hp)
  unfold Unf at hu ⊢
  rw [h.blk x hx hne]; exact hu
mutual
theorem Trn.vrep (h : Trn g b w w') : ∀ {v : V} {u : Value}, vrep B g w v u → vrep B g w' v u
  | .d x, _, k => by simp only [Go.Proofs.YtkjpcjccddggoaaGreat.vrep] at k ⊢; exact drep_mono (Nat.le_refl _) (fun x hx hp => ⟨hp, h.blk x hx (h.prot hp)⟩) k
  | .agg l, _, k => by simp only [Go.Proofs.YtkjpcjccddggoaaGreat.vrep] at k ⊢; obtain ⟨cs, e, k⟩ := k; exact ⟨cs, e, Trn.vreps h k⟩
  | .tup l, _, k => by simp only [Go.Proofs.YtkjpcjccddggoaaGreat.vrep] at k ⊢; obtain ⟨cs, e, k⟩ := k; exact ⟨cs, e, Trn.vreps h k⟩
  | .ptr _ _, _, k => by simp only [Go.Proofs.YtkjpcjccddggoaaGreat.vrep] at k ⊢; exact k
  | .ep l, _, k => by
    simp only [Go.Proofs.YtkjpcjccddggoaaGreat.vrep] at k ⊢
    obtain ⟨c, o, cs, e, k1, k2⟩ := k
    exact ⟨c, o, cs, e, k1.mono fun x hx hp => ⟨hp, h.blk x hx (h.prot hp)⟩, dreps_mono (Nat.le_refl _) (fun x hx hp => ⟨hp, h.blk x hx (h.prot hp)⟩) k2⟩
  | .row _ _, _, k => by simp only [Go.Proofs.YtkjpcjccddggoaaGreat.vrep] at k ⊢; exact k
  | .rp _ _ _ _ _, _, k => by simp only [Go.Proofs.YtkjpcjccddggoaaGreat.vrep] at k ⊢; exact k
  | .fn _ _ _, _, k => by simp only [Go.Proofs.YtkjpcjccddggoaaGreat.vrep] at k ⊢; obtain ⟨xs, ys, e, k1, k2⟩ := k; exact ⟨xs, ys, e, Trn.vreps h k1, Trn.vreps h k2⟩
  | .ifc t x, _, k => by simp only [Go.Proofs.YtkjpcjccddggoaaGreat.vrep] at k ⊢; obtain ⟨y, e, k⟩ := k; exact ⟨y, e, Trn.vrep h k⟩
  | .sv _ _ _ _ _, _, k => by simp only [Go.Proofs.YtkjpcjccddggoaaGreat.vrep] at k ⊢; exact k
  | .yl _, _, k => by simp only [Go.Proofs.YtkjpcjccddggoaaGreat.vrep] at k ⊢; exact k
  | .rv _ _ _, _, k => by simp only [Go.Proofs.YtkjpcjccddggoaaGreat.vrep] at k ⊢; exact k
  | .po e x, u, k => by
    simp only [Go.Proofs.YtkjpcjccddggoaaGreat.vrep] at k ⊢
    obtain ⟨y, e, k⟩ := k
    exact ⟨y, e, drep_mono (Nat.le_refl _) (fun x hx hp => ⟨⟨hp.1, h.un hx hp.1 hp.2⟩, h.blk x hx fun e => h.np (e ▸ hp.1)⟩) k⟩
theorem Trn.vreps (h : Trn g b w w') : ∀ {v : List V} {u : List Value}, vreps B g w v u → vreps B g w' v u
  | [], _, k => by simp only [Go.Proofs.YtkjpcjccddggoaaGreat.vreps] at k ⊢; exact k
  | x :: xs, _, k => by simp only [Go.Proofs.YtkjpcjccddggoaaGreat.vreps] at k ⊢; obtain ⟨y, ys, e, k1, k2⟩ := k; exact ⟨y, ys, e, Trn.vrep h k1, Trn.vreps h k2⟩
end
theorem Trn.simS {nb : Nat} (h : Trn g b w w') (hi : Inv B nb g w) {st : List E} (hs : SimS B g w st) : SimS B g w' st := by
  refine ⟨fun {k off v} hc => ?_, fun {k o nw ver e sz l} hr => ?_, fun {k r T tm} hl => ?_⟩
  · obtain ⟨c, rcs, ty, u, h1, h2, h3, h4⟩ := hs.cell hc
    exact ⟨c, rcs, ty, u, h1, (h.blk c (hi.bxlt h1).1 fun e => hi.exbx h1 (e ▸ h.ex)).trans h2, h3, h.vrep h4⟩
  · obtain ⟨v, xs, r1, r2, r3, r4, r5⟩ := hs.row hr
    have hm : ∀ x, x < w.heap.size → g.prot x → g.prot x ∧ w'.heap[x]? = w.heap[x]? := fun x hx hp => ⟨hp, h.blk x hx (h.prot hp)⟩
    refine ⟨v, xs, r1, drepss_mono (Nat.le_refl _) hm r2, r3, r4, ?_⟩
    rcases r5 with ⟨e1, e2, e3⟩ | ⟨e1, e2, e3⟩
    · refine .inl ⟨e1, ⟨e2.1, ?_⟩, e3⟩
      rcases e2.2 with h5 | ⟨gb, cap, cur, hv, hb, hh, rest⟩
      · exact .inl h5
      · have hgb : g.rb k = some gb := by rw [e3, hv]; rfl
        exact .inr ⟨gb, cap, cur, hv, hb, (h.blk gb (hi.rblt hgb).1 fun e => hi.exrb hgb (e ▸ h.ex)).trans hh, rest⟩
    · exact .inr ⟨e1, e2, drep_mono (Nat.le_refl _) hm e3⟩
  · obtain ⟨h1, h2⟩ := hs.loop hl
    exact ⟨fun lp e => let ⟨c, m1, m2⟩ := h1 lp e; ⟨c, m1, (h.blk c (hi.bxlt m1).1 fun e => hi.exbx m1 (e ▸ h.ex)).trans m2⟩, fun {t v} ht => h.vrep (h2 ht)⟩
theorem Trn.sim {cx : Cx} {a : Act} {s : St} (h : Trn g b w w') (hdf : cx.df = []) (hS : Sim cx g a w s) : Sim cx g a w' s := by
  refine ⟨hS.size, fun ht => h.vrep (hS.tm ht), h.simS hS.inv hS.st, hS.inv.evo h.gr.size, ?_⟩
  obtain ⟨hm, bs, r, e, hn, hb, hr⟩ := hS.defers
  rw [hdf] at hr
  refine ⟨fun m hm' => Nat.le_trans (hm m hm') h.gr.size, bs, r, e, hn, fun x hx => ?_, by rw [hdf]; exact hr⟩
  obtain ⟨h1, h2, h3⟩ := hb x hx
  exact ⟨h1, h2, (h.blk x (Array.getElem?_eq_some_iff.1 h3).1 (h.prot h1)).trans h3⟩
theorem Trn.ext {sp : Prop} {m nb : Nat} {g0 : G} {w0 : World} (h : Trn g b w w') (hE : Ext sp m g0 w0 g w) (hb : w0.heap.size ≤ b) (hi : Inv B nb g w) : Ext sp m g0 w0 g w' := by
  refine ⟨h.gr.os.trans hE.os, h.gr.tape.trans hE.tape, h.gr.output.trans hE.output, Nat.le_trans hE.size h.gr.size, hE.bx, hE.rw, fun x hx hp => ?_, hE.ex, fun x hx hn => ?_, hE.pl, fun x hx hlt => ?_⟩
  · obtain ⟨h1, h2⟩ := hE.blk x hx hp
    exact ⟨h1, (h.blk x (Nat.lt_of_lt_of_le hx hE.size) (by omega)).trans h2⟩
  · have hlt : x < w0.heap.size := by
      have h1 := hi.exlt (hE.ex x hx)
      have h2 := hE.exblk x hx hn
      rw [Array.getElem?_eq_getElem h1] at h2
      exact (Array.getElem?_eq_some_iff.1 h2.symm).1
    exact (h.blk x (Nat.lt_of_lt_of_le hlt hE.size) (by omega)).trans (hE.exblk x hx hn)
  · rw [h.blk x (Nat.lt_of_lt_of_le hlt hE.size) (by omega)]; exact hE.blur x hx hlt
end
/-! ### triples -/
def vpostm (cx : Cx) (b : Nat) (g0 : G) (w0 : World) (Q : VE → St → List Int → Prop) (e : Exit) (a' : Act) (w' : World) : Prop :=
  ∃ g' s' e' L', Ext cx.sp cx.m g0 w0 g' w' ∧ Sim cx g' a' w' s' ∧ erel cx.B g' w' e' e ∧ MapR b L' g' w' ∧ Q e' s' L'
def VWm (P : Program) (cx : Cx) (b : Nat) (c : Code) (s : St) (L : List Int) (Q : VE → St → List Int → Prop) : Prop :=
  ∀ n g0 w0 g a w, Ext cx.sp cx.m g0 w0 g w → w0.heap.size ≤ b → Sim cx g a w s → MapR b L g w → c.wpIn (FW cx.rd) n P (vpostm cx b g0 w0 Q) a w
def VLm (P : Program) (cx : Cx) (b : Nat) (ops rest : List Oper) (s : St) (L : List Int) (Q : VE → St → List Int → Prop) : Prop :=
  ∀ n g0 w0 g a w, Ext cx.sp cx.m g0 w0 g w → w0.heap.size ≤ b → Sim cx g a w s → MapR b L g w → wplIn (FW cx.rd) n P ops.toArray (vpostm cx b g0 w0 Q) rest a w
def VAm (P : Program) (cx : Cx) (b : Nat) (l : List Oper) (k : Nat) (listed : Array Bool) (s : St) (L : List Int) (Q : VE → St → List Int → Prop) : Prop :=
  ∀ n g0 w0 g a w, Ext cx.sp cx.m g0 w0 g w → w0.heap.size ≤ b → Sim cx g a w s → MapR b L g w → wpAnyIn (FW cx.rd) n P .any l.toArray (vpostm cx b g0 w0 Q) k listed a w
def thenM (P : Program) (cx : Cx) (b : Nat) (c : Code) (Q : VE → St → List Int → Prop) : VE → St → List Int → Prop
  | .normal, s, L => VWm P cx b c s L Q
  | e, s, L => Q e s L
def restM (P : Program) (cx : Cx) (b : Nat) (ops rest : List Oper) (Q : VE → St → List Int → Prop) : VE → St → List Int → Prop
  | .normal, s, L => VLm P cx b ops rest s L Q
  | e, s, L => Q e s L
def anyM (P : Program) (cx : Cx) (b : Nat) (l : List Oper) (k : Nat) (listed : Array Bool) (Q : VE → St → List Int → Prop) : VE → St → List Int → Prop
  | .normal, s, L => VAm P cx b l k listed s L Q
  | e, s, L => Q e s L
def blockM (id : Nat) (Q : VE → St → List Int → Prop) : VE → St → List Int → Prop
  | .exit i, s, L => match Nat.beq i id with
    | true => Q .normal s L
    | false => Q (.exit i) s L
  | e, s, L => Q e s L
def loopM {α : Type} (cx : Cx) (I : α → St) (J : α → List Int) (T : α → Prop) (μ : α → Nat) (x : α) (Q : VE → St → List Int → Prop) : VE → St → List Int → Prop
  | .normal, s, L => ∃ y, T y ∧ μ y < μ x ∧ Sub cx s (I y) ∧ L = J y
  | e, s, L => Q e s L
section
variable {P : Program} {cx : Cx} {b : Nat} {s : St} {L : List Int} {Q : VE → St → List Int → Prop}
theorem erel_n {B : Nat} {g : G} {w : World} {e : VE} (h : erel B g w e .normal) : e = .normal := by
  cases e <;> simp only [erel] at h <;> first | rfl | (cases h; fail_if_success (focus skip)) | (obtain ⟨u, h, _⟩ := h; cases h)
theorem vwm_of {c : Code} (h : VW P cx c s fun e s' => Q e s' L) : VWm P cx b c s L Q := fun n g0 w0 g a w hE _ hS hR => wpIn_mono (h n g w g a w (Ext.refl _ _ _ _) hS) (by
  rintro e a' w' ⟨g', s', e', k1, k2, k3, k4⟩
  exact ⟨g', s', e', L, hE.comp k1 hS.inv, k2, k3, hR.ext k1, k4⟩)
theorem vwm_sub {c : Code} {s' : St} (h : Sub cx s s') (k : VWm P cx b c s' L Q) : VWm P cx b c s L Q := fun n g0 w0 g a w hE hb hS hR => by
  obtain ⟨g', h1, h2⟩ := h g w g a w (Ext.refl _ _ _ _) hS
  exact k n g0 w0 g' a w (hE.comp h1 hS.inv) hb h2 (hR.ext h1)
theorem vwm_seq {x y : Code} (h : VWm P cx b x s L (thenM P cx b y Q)) : VWm P cx b (.seq x y) s L Q := fun n g0 w0 g a w hE hb hS hR => by
  refine wpIn_seq (wpIn_mono (h n g0 w0 g a w hE hb hS hR) ?_)
  rintro e a' w' ⟨g', s', e', L', k1, k2, k3, k5, k4⟩
  cases e' with
  | normal => simp only [erel] at k3; subst k3; exact k4 n g0 w0 g' a' w' k1 hb k2 k5
  | exit id => simp only [erel] at k3; subst k3; exact ⟨g', s', .exit id, L', k1, k2, rfl, k5, k4⟩
  | goto id => simp only [erel] at k3; subst k3; exact ⟨g', s', .goto id, L', k1, k2, rfl, k5, k4⟩
  | ret => simp only [erel] at k3; subst k3; exact ⟨g', s', .ret, L', k1, k2, rfl, k5, k4⟩
  | panic v => obtain ⟨u, rfl, k⟩ := k3; exact ⟨g', s', .panic v, L', k1, k2, ⟨u, rfl, k⟩, k5, k4⟩
theorem vwm_block {id : Nat} {x : Code} (h : VWm P cx b x s L (blockM id Q)) : VWm P cx b (.block id x) s L Q := fun n g0 w0 g a w hE hb hS hR => by
  refine wpIn_block (wpIn_mono (h n g0 w0 g a w hE hb hS hR) ?_)
  rintro e a' w' ⟨g', s', e', L', k1, k2, k3, k5, k4⟩
  cases e' with
  | normal => simp only [erel] at k3; subst k3; exact ⟨g', s', .normal, L', k1, k2, rfl, k5, k4⟩
  | exit i =>
    simp only [erel] at k3; subst k3
    simp only [blockM] at k4
    simp only [Exit.inBlock]
    by_cases h : i = id
    · subst h
      rw [if_pos rfl]
      rw [show Nat.beq i i = true from Nat.beq_refl i] at k4
      exact ⟨g', s', .normal, L', k1, k2, rfl, k5, k4⟩
    · rw [if_neg h]
      rw [show Nat.beq i id = false from by
        cases hb : Nat.beq i id
        · rfl
        · exact (h (Nat.eq_of_beq_eq_true hb)).elim] at k4
      exact ⟨g', s', .exit i, L', k1, k2, rfl, k5, k4⟩
  | goto id => simp only [erel] at k3; subst k3; exact ⟨g', s', .goto id, L', k1, k2, rfl, k5, k4⟩
  | ret => simp only [erel] at k3; subst k3; exact ⟨g', s', .ret, L', k1, k2, rfl, k5, k4⟩
  | panic v => obtain ⟨u, rfl, k⟩ := k3; exact ⟨g', s', .panic v, L', k1, k2, ⟨u, rfl, k⟩, k5, k4⟩
theorem vwm_loop {α : Type} (I : α → St) (J : α → List Int) (T : α → Prop) (μ : α → Nat) {c : Code} (x0 : α) (h0 : Sub cx s (I x0)) (hL : L = J x0) (hT : T x0) (step : ∀ x, T x → VWm P cx b c (I x) (J x) (loopM cx I J T μ x Q)) : VWm P cx b (.loop c) s L Q := fun n g0 w0 g a w hE hb hS hR => by
  classical
  let ok : Nat → Act → World → Prop := fun j a w => ∃ x g, T x ∧ μ x = j ∧ Ext cx.sp cx.m g0 w0 g w ∧ Sim cx g a w (I x) ∧ MapR b (J x) g w
  have hleast : ∀ a w, (∃ j, ok j a w) → ∃ m, ok m a w ∧ ∀ k, ok k a w → m ≤ k := fun a w ⟨j, hj⟩ => least j hj
  let m : Act → World → Nat := fun a w => if h : ∃ j, ok j a w then Classical.choose (hleast a w h) else 0
  have hms : ∀ a w, (∃ j, ok j a w) → ok (m a w) a w ∧ ∀ k, ok k a w → m a w ≤ k := fun a w h => by
    have : m a w = Classical.choose (hleast a w h) := dif_pos h
    rw [this]; exact Classical.choose_spec (hleast a w h)
  refine wpIn_loop (fun a w => ∃ j, ok j a w) m ?_ ?_
  · obtain ⟨g', h1, h2⟩ := h0 g w g a w (Ext.refl _ _ _ _) hS
    exact ⟨_, x0, g', hT, rfl, hE.comp h1 hS.inv, h2, hL ▸ hR.ext h1⟩
  · intro a w h
    obtain ⟨⟨x, g1, hx, hj, hE1, hS1, hR1⟩, _⟩ := hms a w h
    refine wpIn_mono (step x hx n g0 w0 g1 a w hE1 hb hS1 hR1) ?_
    rintro e a' w' ⟨g', s', e', L', k1, k2, k3, k5, k4⟩
    cases e' with
    | normal =>
      simp only [erel] at k3; subst k3
      obtain ⟨y, hy, hlt, hs, rfl⟩ := k4
      obtain ⟨g2, q1, q2⟩ := hs g' w' g' a' w' (Ext.refl _ _ _ _) k2
      have q3 := k5.ext q1
      have q4 := k1.comp q1 k2.inv
      have h' : ∃ j, ok j a' w' := ⟨_, y, g2, hy, rfl, q4, q2, q3⟩
      refine ⟨h', ?_⟩
      have := (hms a' w' h').2 _ ⟨y, g2, hy, rfl, q4, q2, q3⟩
      omega
    | exit id => simp only [erel] at k3; subst k3; exact ⟨g', s', .exit id, L', k1, k2, rfl, k5, k4⟩
    | goto id => simp only [erel] at k3; subst k3; exact ⟨g', s', .goto id, L', k1, k2, rfl, k5, k4⟩
    | ret => simp only [erel] at k3; subst k3; exact ⟨g', s', .ret, L', k1, k2, rfl, k5, k4⟩
    | panic v => obtain ⟨u, rfl, k⟩ := k3; exact ⟨g', s', .panic v, L', k1, k2, ⟨u, rfl, k⟩, k5, k4⟩
theorem vwm_region {id : Nat} {l : List Oper} (h : VLm P cx b l l s L Q) : VWm P cx b (.region id l.toArray false) s L Q := fun n g0 w0 g a w hE hb hS hR => wpIn_region_l (h n g0 w0 g a w hE hb hS hR)
theorem vlm_nil {ops : List Oper} (h : Q .normal s L) : VLm P cx b ops [] s L Q := fun _ _ _ g _ _ hE _ hS hR => ⟨g, s, .normal, L, hE, hS, rfl, hR, h⟩
/-- operations that do not ask the map -/
theorem vlm_op {ops rest : List Oper} {o : Oper} (h : VL P cx ops [o] s fun e s' => restM P cx b ops rest Q e s' L) : VLm P cx b ops (o :: rest) s L Q := fun n g0 w0 g a w hE hb hS hR => by
  have hv := h n g w g a w (Ext.refl _ _ _ _) hS
  have key : ∀ a' w', vpost cx g w (fun e s' => restM P cx b ops rest Q e s' L) .normal a' w' → wplIn (FW cx.rd) n P ops.toArray (vpostm cx b g0 w0 Q) rest a' w' := fun a' w' hp => by
    obtain ⟨g', s', e', h1, h2, h3, h4⟩ := hp
    obtain rfl := erel_n h3
    exact h4 n g0 w0 g' a' w' (hE.comp h1 hS.inv) hb h2 (hR.ext h1)
  have keyq : ∀ e a' w', e ≠ .normal → vpost cx g w (fun e s' => restM P cx b ops rest Q e s' L) e a' w' → vpostm cx b g0 w0 Q e a' w' := fun e a' w' hne hp => by
    obtain ⟨g', s', e', h1, h2, h3, h4⟩ := hp
    refine ⟨g', s', e', L, hE.comp h1 hS.inv, h2, h3, hR.ext h1, ?_⟩
    cases e' <;> first | exact h4 | (simp only [erel] at h3; exact (hne h3).elim)
  simp only [wplIn] at hv ⊢
  split
  · rename_i hw
    rw [if_pos hw] at hv
    exact opwp_both key keyq hv
  · rename_i hw
    rw [if_neg hw] at hv
    exact ⟨hv.1, key _ _ hv.2⟩
theorem vam_sub {l : List Oper} {k : Nat} {listed : Array Bool} {s' : St} (h : Sub cx s s') (k' : VAm P cx b l k listed s' L Q) : VAm P cx b l k listed s L Q := fun n g0 w0 g a w hE hb hS hR => by
  obtain ⟨g', h1, h2⟩ := h g w g a w (Ext.refl _ _ _ _) hS
  exact k' n g0 w0 g' a w (hE.comp h1 hS.inv) hb h2 (hR.ext h1)
theorem vam_cast {l : List Oper} {k : Nat} {listed : Array Bool} (listed' : Array Bool) (hl : listed' = listed) (h : VAm P cx b l k listed' s L Q) : VAm P cx b l k listed s L Q := hl ▸ h
theorem vam_use {l : List Oper} {k : Nat} {listed : Array Bool} (s1 : St) (listed1 : Array Bool) (k1 : Nat) (h1 : VAm P cx b l k1 listed1 s1 L Q) (h : VAm P cx b l k1 listed1 s1 L Q → VAm P cx b l k listed s L Q) : VAm P cx b l k listed s L Q := h h1
theorem vwm_any {id : Nat} {l : List Oper} (hm : P.follows .mixedOrders = true) (h : VAm P cx b l l.length (Array.replicate l.length false) s L Q) : VWm P cx b (.region id l.toArray true) s L Q := fun n g0 w0 g a w hE hb hS hR => by
  have hN : NewO cx.B g w g w.drew none := ⟨⟨rfl, rfl, rfl, Nat.le_refl _, fun h => h, fun h => h, fun _ _ h => ⟨h, rfl⟩, fun _ h => h, fun _ _ => rfl, .refl⟩, fun _ _ => rfl, fun _ _ => ⟨rfl, rfl, rfl⟩⟩
  refine wpIn_region_any hm ?_
  have := h n g0 w0 g a w.drew (hE.trans hN.evo) hb ⟨hS.size, fun ht => hN.evo.vrep (hS.tm ht), hS.st.newO hN hS.inv (fun _ h => by cases h), hS.inv.evo (w' := w.drew) (Nat.le_refl _), hS.defers.evo hN.evo⟩ ⟨hR.is, hR.ex, hR.np⟩
  simpa using this
theorem vam_seq {l : List Oper} (m : Nat) {k : Nat} {listed : Array Bool} {rest : List Oper} (hr : l.drop m = rest) (hk : rest.length = k) (hB : Region.seqB .any l.toArray k m listed = true) (h : VLm P cx b l rest s L Q) : VAm P cx b l k listed s L Q := fun n g0 w0 g a w hE hb hS hR => by
  subst hk
  exact wpAnyIn_of_seq rest m listed a w (fun j => by rw [← hr]; simp) hB (h n g0 w0 g a w hE hb hS hR)
theorem vam_step {l : List Oper} {k : Nat} {listed : Array Bool} {is : List Nat} (hr : Region.ready .any l.toArray listed = is) (hne : is ≠ []) (h : ∀ i ∈ is, ∃ o, l[i]? = some o ∧ VL P cx l [o] s fun e s' => anyM P cx b l k (listed.setIfInBounds i true) Q e s' L) : VAm P cx b l (k + 1) listed s L Q := fun n g0 w0 g a w hE hb hS hR => by
  refine ⟨fun e => (hne (hr.symm.trans e)).elim, fun i hi => ?_⟩
  rw [hr] at hi
  obtain ⟨o, ho, hv⟩ := h i hi
  have hv := hv n g w g a w (Ext.refl _ _ _ _) hS
  have key : ∀ a' w', vpost cx g w (fun e s' => anyM P cx b l k (listed.setIfInBounds i true) Q e s' L) .normal a' w' → wpAnyIn (FW cx.rd) n P .any l.toArray (vpostm cx b g0 w0 Q) k (listed.setIfInBounds i true) a' w' := fun a' w' hp => by
    obtain ⟨g', s', e', h1, h2, h3, h4⟩ := hp
    obtain rfl := erel_n h3
    exact h4 n g0 w0 g' a' w' (hE.comp h1 hS.inv) hb h2 (hR.ext h1)
  have keyq : ∀ e a' w', e ≠ .normal → vpost cx g w (fun e s' => anyM P cx b l k (listed.setIfInBounds i true) Q e s' L) e a' w' → vpostm cx b g0 w0 Q e a' w' := fun e a' w' hne hp => by
    obtain ⟨g', s', e', h1, h2, h3, h4⟩ := hp
    refine ⟨g', s', e', L, hE.comp h1 hS.inv, h2, h3, hR.ext h1, ?_⟩
    cases e' <;> first | exact h4 | (simp only [erel] at h3; exact (hne h3).elim)
  unfold wpOpIn
  rw [List.getElem?_toArray, ho]
  simp only [wplIn] at hv ⊢
  split
  · rename_i hw
    rw [if_pos hw] at hv
    exact opwp_both key keyq hv
  · rename_i hw
    rw [if_neg hw] at hv
    exact ⟨hv.1, key _ _ hv.2⟩
end
end Go.Proofs.YtkjpcjccddggoaaGreat
