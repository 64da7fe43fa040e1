/- Walks by data and names, part 42: Layer 21, by V: a piece is put. Layer 21, by V: Put. Layer 21, by V: Puts. -/
import Derived.Test.YtkjpcjccddggoaaGreatQk41
namespace Go.Proofs.YtkjpcjccddggoaaGreat
open Go.RowKit
set_option maxRecDepth 10000
set_option maxHeartbeats 4000000
/-- an own row says less -/
theorem vw_rowle {P : Program} {cx : Cx} {tm : List (Nat × V)} {st : List E} {nb : Nat} {Q : VE → St → Prop} {c : Code} {k : Nat} {nw : Bool} {ver : Nat} {e : TypeId} {sz : Nat} {l : List (List D)} (l' : List (List D)) (hr : rowAt k st = some (true, nw, ver, e, sz, l))
    (hle : ∀ B U w us, drepss B U w l us → drepss B U w l' us) (hlen : l'.length = l.length) (hsz : ∀ x ∈ l', x.length = sz) (h : VW P cx c ⟨tm, .r true nw k ver e sz l' :: st, nb⟩ Q) : VW P cx c ⟨tm, st, nb⟩ Q := fun n g0 w0 g a w hE hS => by
  obtain ⟨v, xs, r1, r2, r3, r4, r5⟩ := hS.st.row hr
  rcases r5 with ⟨_, r5, r6⟩ | ⟨h, _⟩
  · obtain ⟨m1, m2, m3, _⟩ := turn_row hS.inv hS.st hr r1 r6 (gb_refl w _) (u := v) (drepss_mono (Nat.le_refl _) (fun b _ hp => ⟨⟨hp, fun he => hp (.inr (.inr ⟨k, r6.trans he.symm⟩))⟩, rfl⟩) (hle _ _ _ _ r2)) ⟨hsz, r3.2.1⟩ (by rw [hlen]; exact r5) (fun b hb => .inl hb) (.inl ⟨rfl, rfl⟩)
    exact h n g0 w0 _ a w (hE.trans m1) (hS.same m1 m2 m3)
  · cases h
theorem nils_le : ∀ (n : Nat) B U w us, drepss B U w (List.replicate n nilE) us → drepss B U w ((List.replicate n ([] : List UInt8)).map fM) us
  | 0, B, U, w, us, h => h
  | n + 1, B, U, w, us, h => by
    simp only [List.replicate_succ, List.map_cons, drepss] at h ⊢
    obtain ⟨c1, c2, e, k1, k2⟩ := h
    refine ⟨c1, c2, e, ?_, nils_le n B U w c2 k2⟩
    simp only [dreps] at k1 ⊢
    obtain ⟨y, ys, e1, h1, h2⟩ := k1
    exact ⟨y, ys, e1, dle_nil false true B U w y h1, h2⟩
def Pi.fresh (x : Pc) : Pi := ⟨x.snap, x.many, List.replicate x.many.toNat []⟩
def Pi.set (q : Pi) (x : Pc) : Pi := { q with parts := q.parts.set x.idx.toNat x.b }
abbrev piS (p : Pi) : List E := [.c 0 0 [.d (u64D p.snap), .d (i64D p.many), .row 1 0], .r true true 1 0 23 1 (p.parts.map fM)]
theorem putA_v (p : Pi) (x : Pc) (hx : pcB x = true) (hs : p.snap < x.snap) : VM1 Tryz.prog 47 1 [.ptr 0 0, .d (.agg (pcD x))] (piS p) 2 (.ret (.tup [])) (piS ((Pi.fresh x).set x)) 2 := by
  have hxx : 1 ≤ x.many ∧ x.many ≤ 64 ∧ 0 ≤ x.idx ∧ x.idx < x.many ∧ x.b.length ≤ 256 := by
    simp [pcB, partB] at hx; omega
  have cp := piece_v x
  rw [hx] at cp
  simp only [if_true] at cp
  have cc := clone_v x.b (by omega)
  have ce := come_v []
  refine vm1_of Tryz.func47 rfl Tryz.ntmps47 Tryz.results47 fun B M => ?_
  simp only [pcD, piS] at cp ⊢
  refine vw_seq ?_
  repeat' (first | fail | fail | refine nzl ?_ | refine nzd ?_ | ((first | with_reducible refine vl_id ?_ | with_reducible refine vd_id ?_); first | fail) | ((fail_if_success (with_reducible refine vw_seq ?_)); refine nzo ?_) | refine nc ?_ ?_ | (with_reducible intro _ <;> (try (exfalso; omega))) | refine vs_eqnil ?_ | refine vs_nenil ?_ | (refine nd ?_ ?_ <;> intro hg <;> (first | (exfalso; (try simp only [decide_eq_true_eq, decide_eq_false_iff_not] at hg); omega) | rw [hg])) | fail)
  refine vw_seq ?_
  repeat' (first | fail | fail | refine nzl ?_ | refine nzd ?_ | ((first | with_reducible refine vl_id ?_ | with_reducible refine vd_id ?_); first | refine cz (cp) ?_ | (refine vq_l (need_ok 311) ?_; first | refine vs_call (need_ok 311) ?_ | refine vs_pan (need_no 311) ?_ | (refine vs_cifp (need_if _ 311) ?_ ?_ <;> intro _ <;> (try (exfalso; omega))) | (refine vs_cif (need_if _ 311) ?_ ?_ <;> intro _))) | ((fail_if_success (with_reducible refine vw_seq ?_)); refine nzo ?_) | refine nc ?_ ?_ | (with_reducible intro _ <;> (try (exfalso; omega))) | refine vs_eqnil ?_ | refine vs_nenil ?_ | (refine nd ?_ ?_ <;> intro hg <;> (first | (exfalso; (try simp only [decide_eq_true_eq, decide_eq_false_iff_not] at hg); omega) | rw [hg])) | fail)
  refine vw_seq ?_
  repeat' (first | fail | fail | refine nzl ?_ | refine nzd ?_ | ((first | with_reducible refine vl_id ?_ | with_reducible refine vd_id ?_); first | (refine vq_l (need_ok 241) ?_; first | refine vs_call (need_ok 241) ?_ | refine vs_pan (need_no 241) ?_ | (refine vs_cifp (need_if _ 241) ?_ ?_ <;> intro _ <;> (try (exfalso; omega))) | (refine vs_cif (need_if _ 241) ?_ ?_ <;> intro _))) | ((fail_if_success (with_reducible refine vw_seq ?_)); refine nzo ?_) | refine nc ?_ ?_ | (with_reducible intro _ <;> (try (exfalso; omega))) | refine vs_eqnil ?_ | refine vs_nenil ?_ | (refine nd ?_ ?_ <;> intro hg <;> (first | (exfalso; (try simp only [decide_eq_true_eq, decide_eq_false_iff_not] at hg); omega) | rw [hg])) | fail)
  refine vw_seq ?_
  refine vw_seq ?_
  repeat' (first | fail | fail | refine nzl ?_ | refine nzd ?_ | ((first | with_reducible refine vl_id ?_ | with_reducible refine vd_id ?_); first | fail) | ((fail_if_success (with_reducible refine vw_seq ?_)); refine nzo ?_) | refine nc ?_ ?_ | (with_reducible intro _ <;> (try (exfalso; omega))) | refine vs_eqnil ?_ | refine vs_nenil ?_ | (refine nd ?_ ?_ <;> intro hg <;> (first | (exfalso; (try simp only [decide_eq_true_eq, decide_eq_false_iff_not] at hg); omega) | rw [hg])) | fail)
  have hL : ((List.replicate x.many.toNat ([] : List UInt8)).map fM).length = x.many.toNat := by simp
  refine vw_rowle (k := 3) ((List.replicate x.many.toNat ([] : List UInt8)).map fM) rfl (nils_le _) (by simp) (by intro y hy; simp at hy; rw [hy.2]; rfl) ?_
  have hg : ((List.replicate x.many.toNat ([] : List UInt8)).map fM)[x.idx.toNat]? = some (fM []) := by rw [List.getElem?_map, List.getElem?_replicate, if_pos (by omega)]; rfl
  have hset : ((Pi.fresh x).set x).parts.map fM = ((List.replicate x.many.toNat ([] : List UInt8)).map fM).set x.idx.toNat (fM x.b) := by simp [Pi.fresh, Pi.set, List.map_set]
  rw [hset]
  generalize (List.replicate x.many.toNat ([] : List UInt8)).map fM = L at *
  rw [show comeB [] = false from rfl] at ce
  repeat' (first | fail | fail | refine nzl ?_ | refine nzd ?_ | ((first | with_reducible refine vl_id ?_ | with_reducible refine vd_id ?_); first | (refine vq_l (need_ok 311) ?_; first | refine vs_call (need_ok 311) ?_ | refine vs_pan (need_no 311) ?_ | (refine vs_cifp (need_if _ 311) ?_ ?_ <;> intro _ <;> (try (exfalso; omega))) | (refine vs_cif (need_if _ 311) ?_ ?_ <;> intro _)) | (refine vq_l (need_ok 5) ?_; first | refine vs_call (need_ok 5) ?_ | refine vs_pan (need_no 5) ?_ | (refine vs_cifp (need_if _ 5) ?_ ?_ <;> intro _ <;> (try (exfalso; omega))) | (refine vs_cif (need_if _ 5) ?_ ?_ <;> intro _)) | refine cz (ce) ?_ | refine cz (cc) ?_) | refine nzo ?_ | refine nc ?_ ?_ | (with_reducible intro _ <;> (try (exfalso; omega))) | refine vs_eqnil ?_ | refine vs_nenil ?_ | (refine nd ?_ ?_ <;> intro hg <;> (first | (exfalso; (try simp only [decide_eq_true_eq, decide_eq_false_iff_not] at hg); omega) | rw [hg])) | fail)
  all_goals first | exact nx_sub [(1, _, _)] | trace_state
theorem putB_v (p : Pi) (x : Pc) (hx : pcB x = true) (hs : p.snap = x.snap) (hm : x.many = p.many) (hl : (p.parts.length : Int) = p.many) (he : p.parts[x.idx.toNat]? = some []) : VM1 Tryz.prog 47 1 [.ptr 0 0, .d (.agg (pcD x))] (piS p) 2 (.ret (.tup [])) (piS (p.set x)) 2 := by
  have hxx : 1 ≤ x.many ∧ x.many ≤ 64 ∧ 0 ≤ x.idx ∧ x.idx < x.many ∧ x.b.length ≤ 256 := by
    simp [pcB, partB] at hx; omega
  have cp := piece_v x
  rw [hx] at cp
  simp only [if_true] at cp
  have cc := clone_v x.b (by omega)
  have ce := come_v []
  rw [show comeB [] = false from rfl] at ce
  have hL : (p.parts.map fM).length = p.parts.length := List.length_map _
  have hg : (p.parts.map fM)[x.idx.toNat]? = some (fM []) := by simp [he]
  have hset : (p.set x).parts.map fM = (p.parts.map fM).set x.idx.toNat (fM x.b) := by simp [Pi.set, List.map_set]
  refine vm1_of Tryz.func47 rfl Tryz.ntmps47 Tryz.results47 fun B M => ?_
  simp only [pcD, piS] at cp ⊢
  rw [hset]
  generalize p.parts.map fM = L at *
  repeat' (first | fail | fail | refine nzl ?_ | refine nzd ?_ | ((first | with_reducible refine vl_id ?_ | with_reducible refine vd_id ?_); first | refine cz (cp) ?_ | (refine vq_l (need_ok 311) ?_; first | refine vs_call (need_ok 311) ?_ | refine vs_pan (need_no 311) ?_ | (refine vs_cifp (need_if _ 311) ?_ ?_ <;> intro _ <;> (try (exfalso; omega))) | (refine vs_cif (need_if _ 311) ?_ ?_ <;> intro _)) | (refine vq_l (need_ok 241) ?_; first | refine vs_call (need_ok 241) ?_ | refine vs_pan (need_no 241) ?_ | (refine vs_cifp (need_if _ 241) ?_ ?_ <;> intro _ <;> (try (exfalso; omega))) | (refine vs_cif (need_if _ 241) ?_ ?_ <;> intro _)) | (refine vq_l (need_ok 5) ?_; first | refine vs_call (need_ok 5) ?_ | refine vs_pan (need_no 5) ?_ | (refine vs_cifp (need_if _ 5) ?_ ?_ <;> intro _ <;> (try (exfalso; omega))) | (refine vs_cif (need_if _ 5) ?_ ?_ <;> intro _)) | refine cz (ce) ?_ | refine cz (cc) ?_) | refine nzo ?_ | refine nc ?_ ?_ | (with_reducible intro _ <;> (try (exfalso; omega))) | refine vs_eqnil ?_ | refine vs_nenil ?_ | (refine nd ?_ ?_ <;> intro hg <;> (first | (exfalso; (try simp only [decide_eq_true_eq, decide_eq_false_iff_not] at hg); omega) | rw [hg])) | fail)
  all_goals first | exact nx_sub [(1, _, _)] | trace_state
/-- why it is not put -/
def putErr (p : Pi) (x : Pc) : Int := if pcB x = false then 311 else if x.snap < p.snap then 241 else if x.snap = p.snap ∧ x.many ≠ p.many then 311 else 5
theorem putN_v (p : Pi) (x : Pc) (hl : (p.parts.length : Int) = p.many) (h : pcB x = false ∨ x.snap < p.snap ∨ (x.snap = p.snap ∧ (x.many ≠ p.many ∨ ∃ b, p.parts[x.idx.toNat]? = some b ∧ b.length ≠ 0))) :
    VM1 Tryz.prog 47 1 [.ptr 0 0, .d (.agg (pcD x))] (piS p) 2 (.panic (.d (errD (putErr p x)))) (piS p) 2 := by
  have cp := piece_v x
  have hL : (p.parts.map fM).length = p.parts.length := List.length_map _
  unfold putErr
  by_cases hx : pcB x = false
  · rw [hx] at cp
    simp only [Bool.false_eq_true, if_false] at cp
    rw [if_pos hx]
    refine vm1_of Tryz.func47 rfl Tryz.ntmps47 Tryz.results47 fun B M => ?_
    simp only [pcD, piS] at cp ⊢
    generalize p.parts.map fM = L at *
    repeat' (first | fail | fail | refine nzl ?_ | refine nzd ?_ | ((first | with_reducible refine vl_id ?_ | with_reducible refine vd_id ?_); first | refine cz (cp) ?_ | (refine vq_l (need_ok 311) ?_; first | refine vs_call (need_ok 311) ?_ | refine vs_pan (need_no 311) ?_ | (refine vs_cifp (need_if _ 311) ?_ ?_ <;> intro _ <;> (try (exfalso; omega))) | (refine vs_cif (need_if _ 311) ?_ ?_ <;> intro _))) | refine nzo ?_ | refine nc ?_ ?_ | (with_reducible intro _ <;> (try (exfalso; omega))) | refine vs_eqnil ?_ | refine vs_nenil ?_ | (refine nd ?_ ?_ <;> intro hg <;> (first | (exfalso; (try simp only [decide_eq_true_eq, decide_eq_false_iff_not] at hg); omega) | rw [hg])) | fail)
    all_goals first | exact nx_subp [(1, _, _)] | trace_state
  have hx : pcB x = true := by simpa using hx
  have hxx : 1 ≤ x.many ∧ x.many ≤ 64 ∧ 0 ≤ x.idx ∧ x.idx < x.many ∧ x.b.length ≤ 256 := by
    have := hx; simp [pcB, partB] at this; omega
  rw [hx] at cp
  simp only [if_true] at cp
  rw [if_neg (by simp [hx])]
  by_cases h1 : x.snap < p.snap
  · rw [if_pos h1]
    refine vm1_of Tryz.func47 rfl Tryz.ntmps47 Tryz.results47 fun B M => ?_
    simp only [pcD, piS] at cp ⊢
    generalize p.parts.map fM = L at *
    repeat' (first | fail | fail | refine nzl ?_ | refine nzd ?_ | ((first | with_reducible refine vl_id ?_ | with_reducible refine vd_id ?_); first | refine cz (cp) ?_ | (refine vq_l (need_ok 311) ?_; first | refine vs_call (need_ok 311) ?_ | refine vs_pan (need_no 311) ?_ | (refine vs_cifp (need_if _ 311) ?_ ?_ <;> intro _ <;> (try (exfalso; omega))) | (refine vs_cif (need_if _ 311) ?_ ?_ <;> intro _)) | (refine vq_l (need_ok 241) ?_; first | refine vs_call (need_ok 241) ?_ | refine vs_pan (need_no 241) ?_ | (refine vs_cifp (need_if _ 241) ?_ ?_ <;> intro _ <;> (try (exfalso; omega))) | (refine vs_cif (need_if _ 241) ?_ ?_ <;> intro _))) | refine nzo ?_ | refine nc ?_ ?_ | (with_reducible intro _ <;> (try (exfalso; omega))) | refine vs_eqnil ?_ | refine vs_nenil ?_ | (refine nd ?_ ?_ <;> intro hg <;> (first | (exfalso; (try simp only [decide_eq_true_eq, decide_eq_false_iff_not] at hg); omega) | rw [hg])) | fail)
    all_goals first | exact nx_subp [(1, _, _)] | trace_state
  rw [if_neg h1]
  have h2 : x.snap = p.snap ∧ (x.many ≠ p.many ∨ ∃ b, p.parts[x.idx.toNat]? = some b ∧ b.length ≠ 0) := by
    rcases h with h | h | h
    · rw [hx] at h; cases h
    · exact (h1 h).elim
    · exact h
  by_cases h3 : x.many = p.many
  · rw [if_neg (by omega)]
    obtain ⟨b, hb, hb0⟩ : ∃ b, p.parts[x.idx.toNat]? = some b ∧ b.length ≠ 0 := by
      rcases h2.2 with h | h
      · exact (h h3).elim
      · exact h
    have ce := come_v b
    rw [show comeB b = true by simp only [comeB, decide_eq_true_eq]; omega] at ce
    have hg : (p.parts.map fM)[x.idx.toNat]? = some (fM b) := by simp [hb]
    refine vm1_of Tryz.func47 rfl Tryz.ntmps47 Tryz.results47 fun B M => ?_
    simp only [pcD, piS] at cp ⊢
    generalize p.parts.map fM = L at *
    repeat' (first | fail | fail | refine nzl ?_ | refine nzd ?_ | ((first | with_reducible refine vl_id ?_ | with_reducible refine vd_id ?_); first | refine cz (cp) ?_ | (refine vq_l (need_ok 311) ?_; first | refine vs_call (need_ok 311) ?_ | refine vs_pan (need_no 311) ?_ | (refine vs_cifp (need_if _ 311) ?_ ?_ <;> intro _ <;> (try (exfalso; omega))) | (refine vs_cif (need_if _ 311) ?_ ?_ <;> intro _)) | (refine vq_l (need_ok 241) ?_; first | refine vs_call (need_ok 241) ?_ | refine vs_pan (need_no 241) ?_ | (refine vs_cifp (need_if _ 241) ?_ ?_ <;> intro _ <;> (try (exfalso; omega))) | (refine vs_cif (need_if _ 241) ?_ ?_ <;> intro _)) | (refine vq_l (need_ok 5) ?_; first | refine vs_call (need_ok 5) ?_ | refine vs_pan (need_no 5) ?_ | (refine vs_cifp (need_if _ 5) ?_ ?_ <;> intro _ <;> (try (exfalso; omega))) | (refine vs_cif (need_if _ 5) ?_ ?_ <;> intro _)) | refine cz (ce) ?_) | refine nzo ?_ | refine nc ?_ ?_ | (with_reducible intro _ <;> (try (exfalso; omega))) | refine vs_eqnil ?_ | refine vs_nenil ?_ | (refine nd ?_ ?_ <;> intro hg <;> (first | (exfalso; (try simp only [decide_eq_true_eq, decide_eq_false_iff_not] at hg); omega) | rw [hg])) | fail)
    all_goals first | exact nx_subp [(1, _, _)] | trace_state
  · rw [if_pos ⟨h2.1, h3⟩]
    refine vm1_of Tryz.func47 rfl Tryz.ntmps47 Tryz.results47 fun B M => ?_
    simp only [pcD, piS] at cp ⊢
    generalize p.parts.map fM = L at *
    repeat' (first | fail | fail | refine nzl ?_ | refine nzd ?_ | ((first | with_reducible refine vl_id ?_ | with_reducible refine vd_id ?_); first | refine cz (cp) ?_ | (refine vq_l (need_ok 311) ?_; first | refine vs_call (need_ok 311) ?_ | refine vs_pan (need_no 311) ?_ | (refine vs_cifp (need_if _ 311) ?_ ?_ <;> intro _ <;> (try (exfalso; omega))) | (refine vs_cif (need_if _ 311) ?_ ?_ <;> intro _)) | (refine vq_l (need_ok 241) ?_; first | refine vs_call (need_ok 241) ?_ | refine vs_pan (need_no 241) ?_ | (refine vs_cifp (need_if _ 241) ?_ ?_ <;> intro _ <;> (try (exfalso; omega))) | (refine vs_cif (need_if _ 241) ?_ ?_ <;> intro _))) | refine nzo ?_ | refine nc ?_ ?_ | (with_reducible intro _ <;> (try (exfalso; omega))) | refine vs_eqnil ?_ | refine vs_nenil ?_ | (refine nd ?_ ?_ <;> intro hg <;> (first | (exfalso; (try simp only [decide_eq_true_eq, decide_eq_false_iff_not] at hg); omega) | rw [hg])) | fail)
    all_goals first | exact nx_subp [(1, _, _)] | trace_state
end Go.Proofs.YtkjpcjccddggoaaGreat

namespace Go.Proofs.YtkjpcjccddggoaaGreat
open Go.RowKit
set_option maxRecDepth 10000
set_option maxHeartbeats 4000000
def Pi.zero : Pi := ⟨0, 0, []⟩
def putOk (p : Pi) (x : Pc) : Bool := pcB x && (decide (p.snap < x.snap) || (decide (p.snap = x.snap) && decide (x.many = p.many) && decide (p.parts[x.idx.toNat]? = some [])))
def Pi.put (p : Pi) (x : Pc) : Pi := if p.snap < x.snap then (Pi.fresh x).set x else p.set x
def putE (p : Pi) (x : Pc) : Pi × Int := if piB p = false then (.zero, 312) else if putOk p x = false then (.zero, putErr p x) else (p.put x, 0)
theorem piB_len {p : Pi} (h : piB p = true) : (p.parts.length : Int) = p.many := by
  simp [piB, piZ] at h
  rcases h with ⟨⟨h1, h2⟩, h3⟩ | h
  · rw [h3, h2]; rfl
  · omega
theorem piB_n {p : Pi} (h : piB p = true) : p.parts.length ≤ 64 := by
  simp [piB, piZ] at h
  rcases h with ⟨⟨h1, h2⟩, h3⟩ | h
  · rw [h3]; simp
  · omega
theorem len_z {p : Pi} (hl : (p.parts.length : Int) = p.many) {x : Pc} (hx : pcB x = true) : x.many = p.many → x.idx.toNat < p.parts.length := by
  simp [pcB] at hx
  intro e; omega
theorem put_ok {p : Pi} {x : Pc} (hl : (p.parts.length : Int) = p.many) (h : putOk p x = true) : VM1 Tryz.prog 47 1 [.ptr 0 0, .d (.agg (pcD x))] (piS p) 2 (.ret (.tup [])) (piS (p.put x)) 2 := by
  simp only [putOk, Bool.and_eq_true, Bool.or_eq_true, decide_eq_true_eq] at h
  obtain ⟨hx, h⟩ := h
  by_cases hs : p.snap < x.snap
  · rw [Pi.put, if_pos hs]; exact putA_v p x hx hs
  · rw [Pi.put, if_neg hs]
    rcases h with h | ⟨⟨h1, h2⟩, h3⟩
    · exact (hs h).elim
    · exact putB_v p x hx h1 h2 hl h3
theorem put_no {p : Pi} {x : Pc} (hl : (p.parts.length : Int) = p.many) (h : putOk p x = false) : VM1 Tryz.prog 47 1 [.ptr 0 0, .d (.agg (pcD x))] (piS p) 2 (.panic (.d (errD (putErr p x)))) (piS p) 2 := by
  refine putN_v p x hl ?_
  cases hx : pcB x with
  | false => exact .inl rfl
  | true =>
    right
    rcases Int.lt_trichotomy p.snap x.snap with h1 | h1 | h1
    · simp [putOk, hx, h1] at h
    · right
      refine ⟨h1.symm, ?_⟩
      by_cases h2 : x.many = p.many
      · right
        have hi := len_z hl hx h2
        refine ⟨p.parts[x.idx.toNat], List.getElem?_eq_getElem hi, fun h0 => ?_⟩
        have := List.eq_nil_of_length_eq_zero h0
        simp [putOk, hx, h1, h2, this, hi] at h
      · exact .inl h2
    · exact .inl h1
theorem putS_v (p : Pi) (x : Pc) (hb : ∀ y ∈ p.parts, y.length ≤ 1000000) : VP Tryz.prog 10 [.agg (piD p), .agg (pcD x)] (· = .ret (.tup [.agg (piM (putE p x).1), i64D (putE p x).2])) := by
  have cc := chk_v p
  refine VP.le ?_
  cases hp : piB p with
  | false =>
    rw [hp] at cc
    have he : putE p x = (.zero, 312) := by simp [putE, hp]
    rw [he]
    simp only [piD, pcD, Bool.false_eq_true, if_false] at cc ⊢
    refine vp_of Tryz.func10 rfl Tryz.ntmps10 rfl Tryz.results10 fun B => ?_
    repeat' (first | fail | fail | refine nzl ?_ | refine nzd ?_ | ((first | with_reducible refine vl_id ?_ | with_reducible refine vd_id ?_); first | refine cz (cc) ?_ | (refine vq_l (need_ok 312) ?_; first | refine vs_call (need_ok 312) ?_ | refine vs_pan (need_no 312) ?_ | (refine vs_cifp (need_if _ 312) ?_ ?_ <;> intro _ <;> (try (exfalso; omega))) | (refine vs_cif (need_if _ 312) ?_ ?_ <;> intro _)) | refine vs_vc (hc := vc_of Tryz.func45 rfl Tryz.ntmps45 Tryz.results45 fun _ => ?_) | refine vs_vc (hc := vc_of Tryz.func46 rfl Tryz.ntmps46 Tryz.results46 fun _ => ?_) | refine vs_vc (hc := vc_tries (fd := 94) Tryz.func44 rfl Tryz.ntmps44 Tryz.results44 fun _ => ?_)) | refine nzo ?_ | refine nc ?_ ?_ | (with_reducible intro _ <;> (try (exfalso; omega))) | refine vs_eqnil ?_ | refine vs_nenil ?_ | (refine nd ?_ ?_ <;> intro hg <;> (first | (exfalso; (try simp only [decide_eq_true_eq, decide_eq_false_iff_not] at hg); omega) | rw [hg])) | refine vdf_of Tryz.func94 rfl Tryz.ntmps94 Tryz.results94 ?_)
    all_goals first | (simp only [piM, Pi.zero, List.map_nil, leR]; infer_instance) | trace_state
  | true =>
    have co := of_v p hp hb (by have := piB_n hp; omega)
    cases hk : putOk p x with
    | false =>
      have cn := put_no (piB_len hp) hk
      have he : putE p x = (.zero, putErr p x) := by simp [putE, hp, hk]
      rw [he]
      simp only [piD, pcD, piS] at co cn ⊢
      refine vp_of Tryz.func10 rfl Tryz.ntmps10 rfl Tryz.results10 fun B => ?_
      repeat' (first | fail | fail | refine nzl ?_ | refine nzd ?_ | ((first | with_reducible refine vl_id ?_ | with_reducible refine vd_id ?_); first | refine vs_vm [] co ?_ | refine vs_vm [(8, none), (7, some _)] cn ?_ | refine vs_vc (hc := vc_of Tryz.func45 rfl Tryz.ntmps45 Tryz.results45 fun _ => ?_) | refine vs_vc (hc := vc_tries (fd := 94) Tryz.func44 rfl Tryz.ntmps44 Tryz.results44 fun _ => ?_)) | refine nzo ?_ | refine nc ?_ ?_ | (with_reducible intro _ <;> (try (exfalso; omega))) | refine vs_eqnil ?_ | refine vs_nenil ?_ | (refine nd ?_ ?_ <;> intro hg <;> (first | (exfalso; (try simp only [decide_eq_true_eq, decide_eq_false_iff_not] at hg); omega) | rw [hg])) | refine vdf_of Tryz.func94 rfl Tryz.ntmps94 Tryz.results94 ?_)
      all_goals first | (simp only [piM, Pi.zero, List.map_nil, leR]; infer_instance) | trace_state
    | true =>
      have cn := put_ok (piB_len hp) hk
      have he : putE p x = (p.put x, 0) := by simp [putE, hp, hk]
      rw [he]
      simp only [piD, pcD, piS] at co cn ⊢
      refine vp_of Tryz.func10 rfl Tryz.ntmps10 rfl Tryz.results10 fun B => ?_
      repeat' (first | fail | fail | refine nzl ?_ | refine nzd ?_ | ((first | with_reducible refine vl_id ?_ | with_reducible refine vd_id ?_); first | refine vs_vm [] co ?_ | refine vs_vm [(8, none), (7, some _)] cn ?_ | refine vs_vc (hc := vc_of Tryz.func45 rfl Tryz.ntmps45 Tryz.results45 fun _ => ?_) | refine vs_vc (hc := vc_tries (fd := 94) Tryz.func44 rfl Tryz.ntmps44 Tryz.results44 fun _ => ?_)) | refine nzo ?_ | refine nc ?_ ?_ | (with_reducible intro _ <;> (try (exfalso; omega))) | refine vs_eqnil ?_ | refine vs_nenil ?_ | (refine nd ?_ ?_ <;> intro hg <;> (first | (exfalso; (try simp only [decide_eq_true_eq, decide_eq_false_iff_not] at hg); omega) | rw [hg])) | refine vdf_of Tryz.func94 rfl Tryz.ntmps94 Tryz.results94 ?_)
      all_goals first | exact de_refl _ | trace_state
end Go.Proofs.YtkjpcjccddggoaaGreat

namespace Go.Proofs.YtkjpcjccddggoaaGreat
open Go.RowKit
set_option maxRecDepth 10000
set_option maxHeartbeats 4000000
theorem put_len {p : Pi} {x : Pc} (hl : (p.parts.length : Int) = p.many) (h : putOk p x = true) : ((p.put x).parts.length : Int) = (p.put x).many := by
  simp only [putOk, Bool.and_eq_true] at h
  have hx := h.1
  simp [pcB] at hx
  unfold Pi.put
  split
  · simp only [Pi.set, Pi.fresh, List.length_set, List.length_replicate]; omega
  · simp only [Pi.set, List.length_set]; exact hl
theorem putErr_ne (p : Pi) (x : Pc) : putErr p x ≠ 0 := by
  unfold putErr; repeat' split
  all_goals decide
/-- a pile, and how many were passed over -/
def putsP : Pi × Nat → List Pc → Pi × Nat
  | z, [] => z
  | (p, n), x :: l => if putOk p x then putsP (p.put x, n) l else putsP (p, n + 1) l
def putsE (p : Pi) (l : List Pc) : Pi × Int × Int := if piB p = false then (.zero, 0, 312) else ((putsP (p, 0) l).1, (putsP (p, 0) l).2, 0)
theorem puts_v (p : Pi) (l : List Pc) (hb : ∀ y ∈ p.parts, y.length ≤ 1000000) (hln : l.length ≤ 1000) : VP Tryz.prog 15 [.agg (piD p), .sl false false (l.map pcD)] (· = .ret (.tup [.agg (piM (putsE p l).1), i64D (putsE p l).2.1, i64D (putsE p l).2.2])) := by
  have cc := chk_v p
  have hlm : (l.map pcD).length = l.length := List.length_map _
  refine VP.le ?_
  cases hp : piB p with
  | false =>
    rw [hp] at cc
    have he : putsE p l = (.zero, 0, 312) := by simp [putsE, hp]
    rw [he]
    simp only [piD, Bool.false_eq_true, if_false] at cc ⊢
    refine vp_of Tryz.func15 rfl Tryz.ntmps15 rfl Tryz.results15 fun B => ?_
    repeat' (first | fail | refine vw_drawkx (id := 3) [2] ?_ | refine nzl ?_ | refine nzd ?_ | ((first | with_reducible refine vl_id ?_ | with_reducible refine vd_id ?_); first | refine cz (cc) ?_ | (refine vq_l (need_ok 312) ?_; first | refine vs_call (need_ok 312) ?_ | refine vs_pan (need_no 312) ?_ | (refine vs_cifp (need_if _ 312) ?_ ?_ <;> intro _ <;> (try (exfalso; omega))) | (refine vs_cif (need_if _ 312) ?_ ?_ <;> intro _)) | refine vs_vc (hc := vc_of Tryz.func56 rfl Tryz.ntmps56 Tryz.results56 fun _ => ?_) | refine vs_vc (hc := vc_of Tryz.func46 rfl Tryz.ntmps46 Tryz.results46 fun _ => ?_) | refine vs_vc (hc := vc_tries (fd := 94) Tryz.func44 rfl Tryz.ntmps44 Tryz.results44 fun _ => ?_)) | refine nzo ?_ | refine nc ?_ ?_ | (with_reducible intro _ <;> (try (exfalso; omega))) | refine vs_eqnil ?_ | refine vs_nenil ?_ | (refine nd ?_ ?_ <;> intro hg <;> (first | (exfalso; (try simp only [decide_eq_true_eq, decide_eq_false_iff_not] at hg); omega) | rw [hg])) | refine vdf_of Tryz.func94 rfl Tryz.ntmps94 Tryz.results94 ?_)
    all_goals first | (simp only [piM, Pi.zero, List.map_nil, leR]; infer_instance) | trace_state
  | true =>
    have co := of_v p hp hb (by have := piB_n hp; omega)
    have he : putsE p l = ((putsP (p, 0) l).1, ((putsP (p, 0) l).2 : Int), 0) := by simp [putsE, hp]
    rw [he]
    simp only [piD] at co ⊢
    refine vp_of Tryz.func15 rfl Tryz.ntmps15 rfl Tryz.results15 fun B => ?_
    repeat' (first | fail | refine vw_drawkx (id := 3) [2] ?_ | refine nzl ?_ | refine nzd ?_ | ((first | with_reducible refine vl_id ?_ | with_reducible refine vd_id ?_); first | refine vs_vm [] co ?_ | refine vs_vc (hc := vc_of Tryz.func56 rfl Tryz.ntmps56 Tryz.results56 fun _ => ?_) | refine vs_vc (hc := vc_tries (fd := 94) Tryz.func44 rfl Tryz.ntmps44 Tryz.results44 fun _ => ?_)) | refine nzo ?_ | refine nc ?_ ?_ | (with_reducible intro _ <;> (try (exfalso; omega))) | refine vs_eqnil ?_ | refine vs_nenil ?_ | (refine nd ?_ ?_ <;> intro hg <;> (first | (exfalso; (try simp only [decide_eq_true_eq, decide_eq_false_iff_not] at hg); omega) | rw [hg])) | refine vdf_of Tryz.func94 rfl Tryz.ntmps94 Tryz.results94 ?_)
    refine vw_each 14 l pcD (fun (i : Nat) (z : Pi × Nat) => ⟨[(16, I .i64 i), (15, I .i64 (l.map pcD).length), (14, .d (.sl false false (l.map pcD))), (5, .ptr 10 0), (4, .ptr 9 0), (3, .ptr 6 0), (0, .ptr 0 0), (1, .ptr 1 0), (2, .ptr 3 0)],
          [.c 10 0 [.fn (.func 47) [.ptr 9 0] []], .c 9 0 [.d (u64D z.1.snap), .d (i64D z.1.many), .row 8 0], .r true true 8 0 23 1 (z.1.parts.map fM), .c 6 0 [.d (u64D 0), .d (i64D 0), .d (.lit (.slice none 0 0))], .c 5 0 [.d (i64D 0)], .c 4 0 [.d (u64D 0), .d (i64D 0), .d (.lit (.slice none 0 0))],
            .c 3 0 [I .i64 (z.2 : Int)], .c 2 0 [.d (u64D 0), .d (i64D 0), .d (.lit (.slice none 0 0))], .c 1 0 [.d (.sl false false (l.map pcD))], .c 0 0 [.d (u64D p.snap), .d (i64D p.many), .d (.sl false false (p.parts.map fD))]], 11⟩)
          (fun i z => putsP (p, 0) l = putsP z (l.drop i) ∧ (z.1.parts.length : Int) = z.1.many ∧ z.2 ≤ i) (p, 0) (sub_zr [(8, _, _)]) ⟨rfl, piB_len hp, Nat.le_refl _⟩ (fun i y x hT hi hx hx' hlt hlm hlen hdr => ?_) (fun y hT hlt hlm => ?_)
    · obtain ⟨q, n⟩ := y
      obtain ⟨hT, hq, hn⟩ := hT
      simp only at hq hn
      rw [hdr, putsP] at hT
      simp only [pcD] at hx'
      cases hk : putOk q x with
      | false =>
        have cn := put_no hq hk
        have hne := putErr_ne q x
        rw [hk] at hT
        simp only [Bool.false_eq_true, if_false] at hT
        simp only [pcD, piS] at cn
        repeat' (first | fail | fail | refine nzl ?_ | refine nzd ?_ | ((first | with_reducible refine vl_id ?_ | with_reducible refine vd_id ?_); first | refine vs_vm [(9, none), (8, some _)] cn ?_ | refine vs_vc (hc := vc_of Tryz.func58 rfl Tryz.ntmps58 Tryz.results58 fun _ => ?_) | refine vs_vc (hc := vc_tries (fd := 95) Tryz.func57 rfl Tryz.ntmps57 Tryz.results57 fun _ => ?_)) | refine nzo ?_ | refine nc ?_ ?_ | (with_reducible intro _ <;> (try (exfalso; omega))) | refine vs_eqnil ?_ | refine vs_nenil ?_ | (refine nd ?_ ?_ <;> intro hg <;> (first | (exfalso; (try simp only [decide_eq_true_eq, decide_eq_false_iff_not] at hg); omega) | rw [hg])) | refine vdf_of Tryz.func95 rfl Tryz.ntmps95 Tryz.results95 ?_)
        refine nx_each (q, n + 1) hi ⟨hT, hq, by simp only; omega⟩ ?_
        simp only [Int.natCast_add, Int.natCast_one]
        exact (sub_zr [(8, _, _)])
        all_goals exact absurd hne ‹_›
      | true =>
        have cn := put_ok hq hk
        have hq2 := put_len hq hk
        rw [hk] at hT
        simp only [if_true] at hT
        simp only [pcD, piS] at cn
        repeat' (first | fail | fail | refine nzl ?_ | refine nzd ?_ | ((first | with_reducible refine vl_id ?_ | with_reducible refine vd_id ?_); first | refine vs_vm [(9, none), (8, some _)] cn ?_ | refine vs_vc (hc := vc_of Tryz.func58 rfl Tryz.ntmps58 Tryz.results58 fun _ => ?_) | refine vs_vc (hc := vc_tries (fd := 95) Tryz.func57 rfl Tryz.ntmps57 Tryz.results57 fun _ => ?_)) | refine nzo ?_ | refine nc ?_ ?_ | (with_reducible intro _ <;> (try (exfalso; omega))) | refine vs_eqnil ?_ | refine vs_nenil ?_ | (refine nd ?_ ?_ <;> intro hg <;> (first | (exfalso; (try simp only [decide_eq_true_eq, decide_eq_false_iff_not] at hg); omega) | rw [hg])) | refine vdf_of Tryz.func95 rfl Tryz.ntmps95 Tryz.results95 ?_)
        refine nx_each (q.put x, n) hi ⟨hT, hq2, by simp only; omega⟩ ?_
        exact (sub_zr [(8, _, _)])
    · obtain ⟨q, n⟩ := y
      rw [hT.1, List.drop_of_length_le (Nat.le_refl _), putsP]
      repeat' (first | fail | refine vw_drawkx (id := 3) [2] ?_ | refine nzl ?_ | refine nzd ?_ | ((first | with_reducible refine vl_id ?_ | with_reducible refine vd_id ?_); first | fail) | refine nzo ?_ | refine nc ?_ ?_ | (with_reducible intro _ <;> (try (exfalso; omega))) | refine vs_eqnil ?_ | refine vs_nenil ?_ | (refine nd ?_ ?_ <;> intro hg <;> (first | (exfalso; (try simp only [decide_eq_true_eq, decide_eq_false_iff_not] at hg); omega) | rw [hg])) | refine vdf_of Tryz.func94 rfl Tryz.ntmps94 Tryz.results94 ?_)
      all_goals first | exact de_refl _ | trace_state
end Go.Proofs.YtkjpcjccddggoaaGreat
