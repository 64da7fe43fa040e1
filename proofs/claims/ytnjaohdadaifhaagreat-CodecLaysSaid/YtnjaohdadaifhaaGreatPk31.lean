/- Walks by data and names, part 31: Layer 12, by V: which operations are the same, and what one uses. A row is left to all, at a contract's end. Layer 19, by V: what lays bytes; ids. -/
import Derived.Test.YtnjaohdadaifhaaGreatPk30
import Derived.Test.YtnjaohdadaifhaaGreatPk24
import Derived.Test.YtnjaohdadaifhaaGreatPk28
import Derived.Test.YtnjaohdadaifhaaGreatPk29
import Derived.Test.YtnjaohdadaifhaaGreatPk23
namespace Go.Proofs.YtnjaohdadaifhaaGreat
set_option maxRecDepth 20000
open Go.RowKit
set_option maxRecDepth 10000
set_option maxHeartbeats 4000000
abbrev cosD (l : List Col) : D := .sl false false (l.map colD)
instance dlss_co (l : List Col) : DLss (l.map colD) (l.map colD) := dlss_map l _ _ (fun _ => inferInstance) (fun _ => rfl)
instance newLs_co (l : List Col) : NewLs (l.map colD) := newLs_map l _
theorem colD_len (l : List Col) : (l.map colD).length = l.length := List.length_map _
theorem co_sz (l : List Col) : ∀ x ∈ l.map colD, x.length = 4 := fun x hx => by
  obtain ⟨y, _, rfl⟩ := List.mem_map.1 hx; rfl
theorem col_eq (c d : Col) : decide ([(c.r.toNat : Int), c.g.toNat, c.b.toNat, c.a.toNat] = [(d.r.toNat : Int), d.g.toNat, d.b.toNat, d.a.toNat]) = decide (c = d) := by
  obtain ⟨r, g, b, a⟩ := c
  obtain ⟨r', g', b', a'⟩ := d
  rw [decide_eq_decide]
  simp only [List.cons.injEq, and_true, Col.mk.injEq, Int.natCast_inj, UInt8.toNat_inj]
theorem equalCo_v (a b : List Col) : VP Tryz.prog 82 [cosD a, cosD b] (· = .ret (.lit (.bool (decide (a = b))))) := by
  refine vp_of Tryz.func82 rfl Tryz.ntmps82 rfl Tryz.results82 fun B => ?_
  have hb := colD_len b
  have ha := colD_len a
  repeat' (first | refine nz1 ?_ | refine nzo ?_ | refine nc ?_ ?_ | (with_reducible intro _ <;> (try (exfalso; omega))) | refine nnil ?_ | (refine nd ?_ ?_ <;> intro hg <;> first | exact xo hg | rw [hg]))
  · rw [decide_eq_false (fun h => by subst h; omega)]
  · refine vw_each 0 a colD (fun (i : Nat) (_ : Unit) => ⟨[(13, I .i64 i), (12, I .i64 (a.map colD).length), (0, .d (cosD a)), (1, .d (cosD b))], [], 0⟩) (fun i _ => decide (a = b) = decide (a.drop i = b.drop i)) () (sub_z) rfl (fun i y x hT hi hx hx' hlt hlm hlen hdr => ?_) (fun y hT hlt hlm => ?_)
    · have hlb : i < b.length := by omega
      have hb' : b[i]? = some b[i] := List.getElem?_eq_getElem hlb
      have hbd := List.drop_eq_getElem_cons hlb
      generalize b[i] = z at *
      have hbx : (b.map colD)[((i : Nat) : Int).toNat]? = some (colD z) := by simp [hb']
      have he := col_eq x z
      rw [hdr, hbd] at hT
      by_cases hxz : x = z
      · rw [decide_eq_true hxz] at he
        repeat' (first | refine nz1 ?_ | refine nzo ?_ | refine nc ?_ ?_ | (with_reducible intro _ <;> (try (exfalso; omega))) | refine nnil ?_ | (refine nd ?_ ?_ <;> intro hg <;> first | exact xo hg | rw [hg]))
        refine nx_each () hi ?_ (sub_z)
        rw [hT, hxz]; simp
      · rw [decide_eq_false hxz] at he
        repeat' (first | refine nz1 ?_ | refine nzo ?_ | refine nc ?_ ?_ | (with_reducible intro _ <;> (try (exfalso; omega))) | refine nnil ?_ | (refine nd ?_ ?_ <;> intro hg <;> first | exact xo hg | rw [hg]))
        rw [hT, decide_eq_false (fun h => hxz (List.cons.inj h).1)]
    · repeat' (first | refine nz1 ?_ | refine nzo ?_ | refine nc ?_ ?_ | (with_reducible intro _ <;> (try (exfalso; omega))) | refine nnil ?_ | (refine nd ?_ ?_ <;> intro hg <;> first | exact xo hg | rw [hg]))
      rw [hT, List.drop_of_length_le (Nat.le_refl _), List.drop_of_length_le (by omega), decide_eq_true rfl]
theorem cloneCo_v (l : List Col) (hb : l.length ≤ 1000000) : VP Tryz.prog 70 [cosD l] (· = .ret (.sl false true (l.map colD))) := by
  have hl := colD_len l
  have hz := co_sz l
  refine VP.le ?_
  refine vp_of Tryz.func70 rfl Tryz.ntmps70 rfl Tryz.results70 fun B => ?_
  repeat' (first | refine nz1 ?_ | refine nzo ?_ | refine nc ?_ ?_ | (with_reducible intro _ <;> (try (exfalso; omega))) | refine nnil ?_ | (refine nd ?_ ?_ <;> intro hg <;> first | exact xo hg | rw [hg]))
  · have : l = [] := List.eq_nil_of_length_eq_zero (by simp_all)
    subst this
    exact de_nil
  · exact de_refl _
def sameSt (o p : Opp) : Bool := decide (o.w = p.w) && decide (o.h = p.h) && decide (o.px = p.px)
theorem stsame_v (o p : Opp) : VP Tryz.prog 43 [.agg [i64D o.w, i64D o.h, cosD o.px], .agg [i64D p.w, i64D p.h, cosD p.px]] (· = .ret (.lit (.bool (sameSt o p)))) := by
  have c := equalCo_v o.px p.px
  simp only [sameSt]
  generalize decide (o.px = p.px) = r at *
  refine vp_of Tryz.func43 rfl Tryz.ntmps43 rfl Tryz.results43 fun B => ?_
  repeat' (first | refine nz1 ?_ | (refine vid ?_; first | refine cz (c) ?_) | refine nzo ?_ | refine nc ?_ ?_ | (with_reducible intro _ <;> (try (exfalso; omega))) | refine nnil ?_ | (refine nd ?_ ?_ <;> intro hg <;> first | exact xo hg | rw [hg]))
  all_goals simp_all
theorem fromO_v (o : Opp) : VP Tryz.prog 41 [.agg (oD o)] (· = .ret (.agg [i64D o.x, i64D o.y])) := by
  simp only [oD, oDf]
  refine vp_of Tryz.func41 rfl Tryz.ntmps41 rfl Tryz.results41 fun B => ?_
  repeat' (first | refine nz1 ?_ | refine nzo ?_ | refine nc ?_ ?_ | (with_reducible intro _ <;> (try (exfalso; omega))) | refine nnil ?_ | (refine nd ?_ ?_ <;> intro hg <;> first | exact xo hg | rw [hg]))
  all_goals rfl
theorem toO_v (o : Opp) : VP Tryz.prog 42 [.agg (oD o)] (· = .ret (.agg [i64D o.x2, i64D o.y2])) := by
  simp only [oD, oDf]
  refine vp_of Tryz.func42 rfl Tryz.ntmps42 rfl Tryz.results42 fun B => ?_
  repeat' (first | refine nz1 ?_ | refine nzo ?_ | refine nc ?_ ?_ | (with_reducible intro _ <;> (try (exfalso; omega))) | refine nnil ?_ | (refine nd ?_ ?_ <;> intro hg <;> first | exact xo hg | rw [hg]))
  all_goals rfl
end Go.Proofs.YtnjaohdadaifhaaGreat

namespace Go.Proofs.YtnjaohdadaifhaaGreat
set_option maxRecDepth 20000
open Go.RowKit
theorem nx_frz {m nb nb' : Nat} {st : List E} {r r' : RC} {st' : List E} {nw : Bool} {ver : Nat} {e : TypeId} {sz : Nat} {l : List (List D)} (k : Nat) (hr : rowAt k st = some (true, nw, ver, e, sz, l)) (h : subK m r' st' nb' r (.r false nw k ver e sz l :: st) nb) : subK m r' st' nb' r st nb := fun B g w e' hs hi hr' => by
  obtain ⟨g1, h1, h2, h3⟩ := freeze_row hi hs hr
  obtain ⟨g2, k1, k2⟩ := h B g1 w e' h2 h3 (by
    cases r with
    | ret v => obtain ⟨u, e, hu⟩ := hr'; exact ⟨u, e, h1.vrep hu⟩
    | panic v => obtain ⟨u, e, hu⟩ := hr'; exact ⟨u, e, h1.vrep hu⟩)
  exact ⟨g2, (h1.ext False m).trans2 k1, k2⟩
theorem rle_dx {n : Nat} {ρ : Ren} {st : List E} {y : D} {v : V} (h : argD st v = some y) : RLe n ρ st (.d y) v := fun B g w u k hu => by
  have := argD_rep k h hu
  simp only [vrep]
  exact drep_mono (Nat.le_refl _) (fun b _ hb => ⟨ren_prot hb, rfl⟩) this
theorem nx_subx {m nb nb' : Nat} {v v' : V} {st st' : List E} (ρ : Ren) (hv : RLe nb' ρ st v' v := by ((repeat' (first | exact trivial | exact rle_nil | refine rle_cons ?_ ?_ | exact rle_any | exact rle_dd | exact rle_ptr rfl | exact rle_row rfl rfl | exact rle_rowk rfl rfl | refine rle_agg ?_ | refine rle_tup ?_ | refine rle_ifc ?_ | refine rle_fn ?_ ?_ | exact rle_po | exact rle_pof | exact rle_ep | exact rle_sv rfl | exact rle_yl rfl | refine ⟨⟨rfl, _, rfl, ?_⟩, ?_⟩ | exact rle_dx rfl | exact rle_d rfl (by infer_instance) | refine ⟨⟨_, rfl, ?_⟩, ?_⟩ | refine ⟨⟨rfl, .inl ⟨rfl, _, _, rfl, rfl⟩⟩, ?_⟩ | refine ⟨⟨rfl, .inr ⟨rfl, rfl, rfl⟩⟩, ?_⟩ | refine ⟨⟨rfl, _, rfl, ?_⟩, ?_⟩ | refine ⟨?_, ?_⟩)); fail_if_success (focus skip))) (h2 : EntR nb' ρ st st' := by ((repeat' (first | exact trivial | exact rle_nil | refine rle_cons ?_ ?_ | exact rle_any | exact rle_dd | exact rle_ptr rfl | exact rle_row rfl rfl | exact rle_rowk rfl rfl | refine rle_agg ?_ | refine rle_tup ?_ | refine rle_ifc ?_ | refine rle_fn ?_ ?_ | exact rle_po | exact rle_pof | exact rle_ep | exact rle_sv rfl | exact rle_yl rfl | refine ⟨⟨rfl, _, rfl, ?_⟩, ?_⟩ | exact rle_dx rfl | exact rle_d rfl (by infer_instance) | refine ⟨⟨_, rfl, ?_⟩, ?_⟩ | refine ⟨⟨rfl, .inl ⟨rfl, _, _, rfl, rfl⟩⟩, ?_⟩ | refine ⟨⟨rfl, .inr ⟨rfl, rfl, rfl⟩⟩, ?_⟩ | refine ⟨⟨rfl, _, rfl, ?_⟩, ?_⟩ | refine ⟨?_, ?_⟩)); fail_if_success (focus skip))) (hρ : renOk m ρ = true := by first | rfl | decide) (h3 : Nat.ble m nb' = true := by rfl) : subK m (.ret v') st' nb' (.ret v) st nb := subR_ret ρ hv h2 hρ h3
end Go.Proofs.YtnjaohdadaifhaaGreat

namespace Go.Proofs.YtnjaohdadaifhaaGreat
set_option maxRecDepth 20000
open Go.RowKit
set_option maxRecDepth 10000
set_option maxHeartbeats 4000000
instance dl_nilby {c f : Bool} : DL (.lit (.slice none 0 0)) (.sl c f (byD [])) := (inferInstance : DL (.lit (.slice none 0 0)) (.sl c f []))
abbrev lyE (b : List UInt8) : List E := [.c 0 0 [.d (bsD b)]]
abbrev lyX (b : List UInt8) : List E := [.c 0 0 [.d (.sl true true (byD b))]]
theorem layNum_v (b : List UInt8) (w : Nat) (n : Int) (hw : 1 ≤ w ∧ w ≤ 8) (h0 : 0 ≤ n) (hn : n.toNat < 256 ^ w) (hb : b.length ≤ 100000000) : VM1 Tryz.prog 34 1 [.ptr 0 0, .d (i64D w), .d (.lit (.int .u64 n))] (lyE b) 1 (.ret (.tup [])) (lyX (b ++ layN w n.toNat)) 1 := by
  have c := put_x b w n.toNat hw hn hb
  rw [u64D, show ((n.toNat : Nat) : Int) = n by omega] at c
  generalize layN w n.toNat = L at *
  refine vm1_of Tryz.func34 rfl Tryz.ntmps34 Tryz.results34 fun B M => ?_
  repeat' (first | refine nz1 ?_ | (refine vid ?_; first | refine cz (c) ?_ | (refine vq_l (cneed_ok 0) ?_; first | refine vs_call (cneed_ok 0) ?_ | refine vs_pan (cneed_no 0) ?_ | (refine vs_cifp (cneed_if _ 0) ?_ ?_ <;> intro _ <;> (try (exfalso; omega))) | (refine vs_cif (cneed_if _ 0) ?_ ?_ <;> intro _))) | refine nzo ?_ | refine nc ?_ ?_ | (with_reducible intro _ <;> (try (exfalso; omega))) | refine nnil ?_ | (refine nd ?_ ?_ <;> intro hg <;> first | exact xo hg | rw [hg]))
  exact nx_sub []
theorem layId_v (b : List UInt8) (i : Idd) (h : idB i = true) (hb : b.length ≤ 90000000) : VM1 Tryz.prog 52 1 [.ptr 0 0, .d (.agg (idD i))] (lyE b) 1 (.ret (.tup [])) (lyX (b ++ idBy i)) 1 := by
  have hi := idB_in h
  have c1 := layNum_v b 8 i.t (by omega) (by omega) (by omega) (by omega)
  have c2 := layNum_v (b ++ layN 8 i.t) 1 i.s (by omega) (by omega) (by omega) (by simp [layN_len]; omega)
  have c3 := layNum_v (b ++ layN 8 i.t ++ layN 1 i.s.toNat) 8 i.q (by omega) (by omega) (by omega) (by simp [layN_len]; omega)
  simp only [Int.toNat_natCast] at c1 c2 c3
  rw [show ((8 : Nat) : Int) = 8 from rfl] at c1 c3
  rw [show ((1 : Nat) : Int) = 1 from rfl] at c2
  rw [idBy, ← List.append_assoc, ← List.append_assoc]
  generalize b ++ layN 8 i.t = B1 at *
  generalize B1 ++ layN 1 i.s.toNat = B2 at *
  generalize B2 ++ layN 8 i.q = B3 at *
  simp only [idD]
  refine vm1_of Tryz.func52 rfl Tryz.ntmps52 Tryz.results52 fun B M => ?_
  repeat' (first | refine nz1 ?_ | (refine vid ?_; first | refine vs_vm [(0, none)] c1 ?_ | refine vs_vm [(0, none)] c2 ?_ | refine vs_vm [(0, none)] c3 ?_) | refine nzo ?_ | refine nc ?_ ?_ | (with_reducible intro _ <;> (try (exfalso; omega))) | refine nnil ?_ | (refine nd ?_ ?_ <;> intro hg <;> first | exact xo hg | rw [hg]))
  exact nx_sub []
theorem layAt_v (b : List UInt8) (n : Int) (h : atB n = true) (hb : b.length ≤ 90000000) : VM1 Tryz.prog 127 1 [.ptr 0 0, .d (i64D n)] (lyE b) 1 (.ret (.tup [])) (lyX (b ++ at1 n)) 1 := by
  simp only [atB, Bool.and_eq_true, decide_eq_true_eq] at h
  have c1 := layNum_v b 1 (n - -64) (by omega) (by omega) (by omega) (by omega)
  rw [show (n - -64).toNat = (n + 64).toNat by omega, show ((1 : Nat) : Int) = 1 from rfl] at c1
  simp only [at1]
  generalize b ++ layN 1 (n + 64).toNat = B1 at *
  refine vm1_of Tryz.func127 rfl Tryz.ntmps127 Tryz.results127 fun B M => ?_
  repeat' (first | refine nz1 ?_ | (refine vid ?_; first | refine vs_vm [(0, none)] c1 ?_) | refine nzo ?_ | refine nc ?_ ?_ | (with_reducible intro _ <;> (try (exfalso; omega))) | refine nnil ?_ | (refine nd ?_ ?_ <;> intro hg <;> first | exact xo hg | rw [hg]))
  exact nx_sub []
theorem layCo_v (b : List UInt8) (c : Col) (hb : b.length ≤ 90000000) : VM1 Tryz.prog 128 1 [.ptr 0 0, .d (.agg (colD c))] (lyX b) 1 (.ret (.tup [])) [.c 0 0 [.row 1 0], .r true true 1 0 5 1 (byD (b ++ c4 c))] 2 := by
  have hbl := byD_len b
  rw [show byD (b ++ c4 c) = byD b ++ [[.lit (vb c.r)], [.lit (vb c.g)], [.lit (vb c.b)], [.lit (vb c.a)]] by simp [byD, c4]]
  simp only [colD]
  refine vm1_of Tryz.func128 rfl Tryz.ntmps128 Tryz.results128 fun B M => ?_
  repeat' (first | refine nz1 ?_ | refine nzo ?_ | refine nc ?_ ?_ | (with_reducible intro _ <;> (try (exfalso; omega))) | refine nnil ?_ | (refine nd ?_ ?_ <;> intro hg <;> first | exact xo hg | rw [hg]))
  exact nx_sub [(1, _, _)]
theorem layCoR_v (b : List UInt8) (c : Col) (hb : b.length ≤ 90000000) : VM1 Tryz.prog 128 1 [.ptr 0 0, .d (.agg (colD c))] [.c 0 0 [.row 1 0], .r true true 1 0 5 1 (byD b)] 2 (.ret (.tup [])) [.c 0 0 [.row 1 0], .r true true 1 0 5 1 (byD (b ++ c4 c))] 2 := by
  have hbl := byD_len b
  rw [show byD (b ++ c4 c) = byD b ++ [[.lit (vb c.r)], [.lit (vb c.g)], [.lit (vb c.b)], [.lit (vb c.a)]] by simp [byD, c4]]
  simp only [colD]
  refine vm1_of Tryz.func128 rfl Tryz.ntmps128 Tryz.results128 fun B M => ?_
  repeat' (first | refine vw_drawkx (id := 1) [1] ?_ | refine nz1 ?_ | refine nzo ?_ | refine nc ?_ ?_ | (with_reducible intro _ <;> (try (exfalso; omega))) | refine nnil ?_ | (refine nd ?_ ?_ <;> intro hg <;> first | exact xo hg | rw [hg]))
  exact nx_sub [(1, _, _)]
theorem idC_v (i : Idd) : VP Tryz.prog 17 [.agg (idD i)] (· = .ret (.tup [.sl false true (byD (if idB i then idBy i else [])), i64D (if idB i then 0 else 210)])) := by
  have cc := icheck_v i
  refine VP.le ?_
  cases hv : idB i with
  | false =>
    rw [hv] at cc
    simp only [Bool.false_eq_true, if_false] at cc ⊢
    refine vp_of Tryz.func17 rfl Tryz.ntmps17 rfl Tryz.results17 fun B => ?_
    repeat' (first | refine nz1 ?_ | (refine vid ?_; first | refine cz (cc) ?_ | (refine vq_l (cneed_ok 210) ?_; first | refine vs_call (cneed_ok 210) ?_ | refine vs_pan (cneed_no 210) ?_ | (refine vs_cifp (cneed_if _ 210) ?_ ?_ <;> intro _ <;> (try (exfalso; omega))) | (refine vs_cif (cneed_if _ 210) ?_ ?_ <;> intro _)) | refine vs_vc (hc := vc_of Tryz.func31 rfl Tryz.ntmps31 Tryz.results31 fun _ => ?_) | refine vs_vc (hc := vc_of Tryz.func72 rfl Tryz.ntmps72 Tryz.results72 fun _ => ?_) | refine vs_vc (hc := vc_of Tryz.func51 rfl Tryz.ntmps51 Tryz.results51 fun _ => ?_) | refine vs_vc (hc := vc_tries (fd := 97) Tryz.func71 rfl Tryz.ntmps71 Tryz.results71 fun _ => ?_)) | refine nzo ?_ | refine nc ?_ ?_ | (with_reducible intro _ <;> (try (exfalso; omega))) | refine nnil ?_ | (refine nd ?_ ?_ <;> intro hg <;> first | exact xo hg | rw [hg]) | refine vdf_of Tryz.func97 rfl Tryz.ntmps97 Tryz.results97 ?_)
    all_goals (simp only [byD, List.map_nil, leR]; infer_instance)
  | true =>
    rw [hv] at cc
    simp only [if_true] at cc ⊢
    have c1 := layId_v [] i hv (by simp)
    rw [List.nil_append] at c1
    generalize idBy i = L at *
    refine vp_of Tryz.func17 rfl Tryz.ntmps17 rfl Tryz.results17 fun B => ?_
    repeat' (first | refine nz1 ?_ | (refine vid ?_; first | refine cz (cc) ?_ | refine vs_vm [(2, none)] c1 ?_ | (refine vq_l (cneed_ok 210) ?_; first | refine vs_call (cneed_ok 210) ?_ | refine vs_pan (cneed_no 210) ?_ | (refine vs_cifp (cneed_if _ 210) ?_ ?_ <;> intro _ <;> (try (exfalso; omega))) | (refine vs_cif (cneed_if _ 210) ?_ ?_ <;> intro _)) | refine vs_vc (hc := vc_of Tryz.func31 rfl Tryz.ntmps31 Tryz.results31 fun _ => ?_) | refine vs_vc (hc := vc_of Tryz.func72 rfl Tryz.ntmps72 Tryz.results72 fun _ => ?_) | refine vs_vc (hc := vc_of Tryz.func51 rfl Tryz.ntmps51 Tryz.results51 fun _ => ?_) | refine vs_vc (hc := vc_tries (fd := 97) Tryz.func71 rfl Tryz.ntmps71 Tryz.results71 fun _ => ?_)) | refine nzo ?_ | refine nc ?_ ?_ | (with_reducible intro _ <;> (try (exfalso; omega))) | refine nnil ?_ | (refine nd ?_ ?_ <;> intro hg <;> first | exact xo hg | rw [hg]) | refine vdf_of Tryz.func97 rfl Tryz.ntmps97 Tryz.results97 ?_)
    all_goals (simp only [leR]; infer_instance)
end Go.Proofs.YtnjaohdadaifhaaGreat

namespace Go.Proofs.YtnjaohdadaifhaaGreat
set_option maxRecDepth 20000
open Go.RowKit
theorem simS_merge {B : Nat} {g : G} {w : World} {st : List E} {k o0 n : Nat} {mrg : List V} (h : SimS B g w st) (hm : cellsAt k o0 st n = some mrg) : SimS B g w [.c k o0 mrg] := by
  refine ⟨fun {i o x} hc => h.cell ?_, fun hr => (by simp only [rowAt] at hr; cases hr), fun hl => (by simp only [loopAt] at hl; cases hl)⟩
  simp only [cellAt] at hc
  split at hc
  · rename_i hb
    have := Nat.eq_of_beq_eq_true hb
    subst this
    split at hc
    · rename_i ho
      split at hc
      · rename_i v hv
        cases hc
        have := cellsAt_get hm hv
        have ho := Nat.le_of_ble_eq_true ho
        rwa [show o0 + (o - o0) = o by omega] at this
      · cases hc
    · cases hc
  · cases hc
section
variable {P : Program} {cx : Cx}
theorem c_storeW {tm : List (Nat × V)} {st : List E} {t ty : TypeId} {x y : Operand} {k off sz o0 n : Nat} {ag : Bool} {z : List Value} {v : V} {vs old all mrg : List V} {pos : String} {af : Array Edge} [hT : TyI P t ag (sz + 1) z] (hx : ∀ nb, evalV ⟨tm, st, nb⟩ x = some (.ptr k off)) (hy : ∀ nb, evalV ⟨tm, st, nb⟩ y = some v) (hv : cellsV v = some vs) (hl : vs.length = sz + 1) (h1 : leaves vs = true)
    (hold : cellsAt k off (.c k o0 all :: st) (sz + 1) = some old) (hm : cellsAt k o0 [.c k off vs, .c k o0 all] n = some mrg) (_ : noR k st = true) :
    OpC P cx ⟨none, .store t x y, ty, pos, af, none⟩ tm st k (.c k o0 all) (.d .any) (.c k o0 mrg) := fun m nb g a w K Qx hS hE0 hK => by
  obtain ⟨w', r1, r2, r3, r4⟩ := store_core (hT := hT) (ty := ty) (s := ⟨tm, .c k o0 all :: st, nb⟩) (hx nb) (hy nb) hv hl h1 hold hS
  refine ⟨fun _ _ => trivial, ?_⟩
  rw [Oper.semAt_plain (FW cx.rd) _ _ (by intro c e; cases e), execOp_bare, r1]
  exact hK undef g w' r2 (fun _ _ => ⟨rfl, rfl, rfl⟩) (fun st' hn hs => simS_tailc (r4 st' hs) hn) (simS_merge (r4 _ hE0) hm) r3 (by simp only [vrep, drep])
theorem vd_storeW (o0 n : Nat) {l : List Oper} {tm0 : List (Nat × V)} {tm : List (Nat × V)} {st st0 stO : List E} {nb nb0 : Nat} {ds : List Nat} {hd tl : List Oper} {i : Nat} {acc : List Ac} {Q : VE → St → Prop} {t' ty : TypeId} {x y : Operand} {k' off sz : Nat} {ag : Bool} {z : List Value} {v : V} {vs old all mrg : List V} {pos : String} {af : Array Edge} {vis : List E} {tmI : List (Nat × V)} [hT : TyI P t' ag (sz + 1) z]
    (kk : VD P cx l tm0 st0 stO nb0 ds Q hd tl (i + 1) (⟨i, 1000000 + i, .d .any, [.c k' o0 mrg], vis, none, some (k', .c k' o0 all), [.c k' o0 mrg], none⟩ :: acc) ((1000000 + i, .d .any) :: tm) (.c k' o0 mrg :: st) nb)
    (hsel : selT af.toList ds acc tm0 (tmpsL (Op.store t' x y).operands.toList) = some tmI := by rfl) (hvis : visF acc af.toList = some vis := by rfl)
    (hx : ∀ nb, evalV ⟨tmI, vis ++ st0, nb⟩ x = some (.ptr k' off) := by intro _; rfl) (hy : ∀ nb, evalV ⟨tmI, vis ++ st0, nb⟩ y = some v := by intro _; rfl) (hv : cellsV v = some vs := by rfl) (hl : vs.length = sz + 1 := by rfl) (h1 : leaves vs = true := by rfl)
    (hall : cellsAt k' o0 stO n = some all := by rfl) (hold : cellsAt k' off (.c k' o0 all :: (vis ++ st0)) (sz + 1) = some old := by rfl) (hm : cellsAt k' o0 [.c k' off vs, .c k' o0 all] n = some mrg := by rfl)
    (hnk : noR k' (vis ++ st0) = true := by rfl) (hk : Nat.blt k' nb0 = true := by rfl) (hn0 : noR k' st0 = true := by rfl) (hnc : noC k' acc = true := by rfl) (hds : memN (1000000 + i) ds = true := by rfl) (hfa : findA (1000000 + i) acc = none := by rfl) :
    VD P cx l tm0 st0 stO nb0 ds Q (⟨none, .store t' x y, ty, pos, af, none⟩ :: hd) tl i acc tm st nb :=
  vd_cE kk (.inr ⟨rfl, rfl⟩) hds hfa hsel hvis trivial (c_storeW hx hy hv hl h1 hold hm hnk) hn0 noR_nec noR_nec (.inl rfl) (.inl ⟨rfl, ⟨Nat.le_of_ble_eq_true hk, eok_c n hall⟩, hnc⟩)
end
end Go.Proofs.YtnjaohdadaifhaaGreat
