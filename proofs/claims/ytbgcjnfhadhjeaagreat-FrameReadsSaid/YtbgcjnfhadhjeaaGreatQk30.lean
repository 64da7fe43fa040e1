/- Walks by data and names, part 30: Layer 19, by V: operations, laid; rows of them; their sizes. Layer 19: arguments of its laws, as data. Frames, plain: what they are, which may be, their bytes, and what is read. -/
import Derived.Test.YtbgcjnfhadhjeaaGreatQk29
import Derived.Test.YtbgcjnfhadhjeaaGreatQk3
import Derived.Test.YtbgcjnfhadhjeaaGreatQk25
import Derived.Test.YtbgcjnfhadhjeaaGreatQk27
namespace Go.Proofs.YtbgcjnfhadhjeaaGreat
set_option maxRecDepth 20000
open Go.RowKit
set_option maxRecDepth 10000
set_option maxHeartbeats 4000000
abbrev Sz (f : FuncId) : List D := [.lit (.func (.func f) #[] #[])]
abbrev SC : List (List D) := [Sz 248, Sz 249, Sz 250, Sz 251]
abbrev SB : List (List D) := [Sz 248, Sz 249, Sz 251]
abbrev VJ : List (List D) := [Sz 248, Sz 250, Sz 251]
abbrev Pf : List (List D) := [Sz 248, Sz 253]
abbrev SA : List (List D) := [Sz 252]
abbrev Hx : List D := [.lit (.slice none 0 0), .sl false true SC, .sl false true SC, .sl false true SB, .sl false true SB, .sl false true VJ, .sl false true Pf, .sl false true SA, .sl false true SA]
theorem Gf : VP Tryz.prog 215 [] (· = .ret (.agg Hx)) := by
 refine VP.le ?_
 refine Al fun B => ?_
 repeat' (first | refine Ai ?_ | refine Ah ?_ | refine nc ?_ ?_ | (with_reducible intro _ <;> (try (exfalso; omega))) | refine Aa ?_ | (refine nd ?_ ?_ <;> intro hg <;> first | exact xo hg | rw [hg]))
 all_goals exact A7 _
theorem Vs (b : List UInt8) (o : A5) (h : Dr o = false) (hl : o.px.length ≤ 1000000) : Dk Tryz.prog 182 1 [.ptr 0 0, .d (.agg (oD o))] (lyE b) 1 (.panic (.d (GM 220))) (lyE b) 1 := by
 have cc := EG o hl
 rw [h] at cc
 simp only [Bool.false_eq_true, if_false] at cc
 simp only [oD, C6] at *
 refine AH fun B M => ?_
 repeat' (first | refine Ai ?_ | (refine As ?_; first | refine cz (cc) ?_ | (refine AJ (Ab 220) ?_; first | refine Ag (Ab 220) ?_ | refine Ao (Ak 220) ?_ | (refine Aj (Ad _ 220) ?_ ?_ <;> intro _ <;> (try (exfalso; omega))) | (refine Ap (Ad _ 220) ?_ ?_ <;> intro _))) | refine Ah ?_ | refine nc ?_ ?_ | (with_reducible intro _ <;> (try (exfalso; omega))) | refine Aa ?_ | (refine nd ?_ ?_ <;> intro hg <;> first | exact xo hg | rw [hg]))
 exact Ay []
theorem Vr (b : List UInt8) (o : A5) (h : Dr o = true) (hl : o.px.length ≤ 1000000) (hb : b.length ≤ 70000000) : Dk Tryz.prog 182 1 [.ptr 0 0, .d (.agg (oD o))] (lyE b) 1 (.ret (.tup [])) (lyE (b ++ Fk o)) 1 := by
 have cc := EG o hl
 have cf := Gf
 obtain ⟨h1, h2, h3, ⟨h4, h5, h6, h7⟩, h8, h9, ha⟩ := FS h
 have hz := YH h
 rw [h] at cc
 simp only [if_true] at cc
 have d1 := Ec b 1 o.k (by omega) (by omega) (by omega) (by omega)
 have d2 := Ry (b ++ AF 1 o.k.toNat) o.id h1 (by simp [AI]; omega)
 rw [show ((1 : Nat) : Int) = 1 from rfl] at d1
 have hB2 : (b ++ AF 1 o.k.toNat ++ Hu o.id).length ≤ 70000018 := by simp [AI, Ht]; omega
 rw [Fk, ← List.append_assoc, ← List.append_assoc]
 generalize b ++ AF 1 o.k.toNat = B1 at *
 generalize B1 ++ Hu o.id = B2 at *
 have k5 : (o.k = 1 ∨ o.k = 2) ∨ (o.k = 3 ∨ o.k = 4) ∨ o.k = 5 ∨ o.k = 6 ∨ (o.k = 7 ∨ o.k = 8) := by omega
 have lf : (Dy o).length = 2 := by simp [Dy, AI]
 have lt : (Gw o).length = 2 := by simp [Gw, AI]
 have ls : (GY o).length = 2 := by simp [GY, AI]
 have d3 := Ja B2 o h4 h5 (by omega)
 rcases k5 with hk | hk | hk | hk | hk
 ·have hi : (Hx.map V.d)[o.k.toNat * 1]? = some (.d (.sl false true SC)) := by rcases hk with hk | hk <;> (rw [hk]; rfl)
  have hln : SC.length = 4 := rfl
  have e1 := Ja (B2) o h4 h5 (by omega)
  have e2 := Yw (B2 ++ Dy o) o h6 h7 (by simp; omega)
  have e3 := QW (B2 ++ Dy o ++ Gw o) o hz.1 hz.2 (by simp; omega)
  have e4 := LJ (B2 ++ Dy o ++ Gw o ++ GY o) o (by simp; omega)
  rw [show B2 ++ Cz o = B2 ++ Dy o ++ Gw o ++ GY o ++ c4 o.c by rw [Cz, if_pos hk]; simp only [List.append_assoc]]
  generalize B2 ++ Dy o = B3 at *
  generalize B3 ++ Gw o = B4 at *
  generalize B4 ++ GY o = B5 at *
  generalize B5 ++ c4 o.c = B6 at *
  clear d3
  simp only [oD, C6] at *
  refine AH fun B M => ?_
  repeat' (first | refine Ai ?_ | (refine As ?_; first | refine cz (cc) ?_ | refine cz (cf) ?_ | (refine AJ (Ab 220) ?_; first | refine Ag (Ab 220) ?_ | refine Ao (Ak 220) ?_ | (refine Aj (Ad _ 220) ?_ ?_ <;> intro _ <;> (try (exfalso; omega))) | (refine Ap (Ad _ 220) ?_ ?_ <;> intro _)) | refine Am [(0, none)] d1 ?_ | refine Am [(0, none)] d2 ?_) | refine Ah ?_ | refine nc ?_ ?_ | (with_reducible intro _ <;> (try (exfalso; omega))) | refine Aa ?_ | (refine nd ?_ ?_ <;> intro hg <;> first | exact xo hg | rw [hg]))
  refine AB 5 ?_
  repeat' (first | refine Ai ?_ | (refine As ?_; first | refine Am [(2, none), (0, none)] e1 ?_ | refine Am [(2, none), (0, none)] e2 ?_ | refine Am [(2, none), (0, none)] e3 ?_ | refine Am [(2, none), (0, none)] e4 ?_) | refine Ah ?_ | refine nc ?_ ?_ | (with_reducible intro _ <;> (try (exfalso; omega))) | refine Aa ?_ | (refine nd ?_ ?_ <;> intro hg <;> first | exact xo hg | rw [hg]))
  exact A8 []
 ·have hi : (Hx.map V.d)[o.k.toNat * 1]? = some (.d (.sl false true SB)) := by rcases hk with hk | hk <;> (rw [hk]; rfl)
  have hln : SB.length = 3 := rfl
  have e1 := Ja (B2) o h4 h5 (by omega)
  have e2 := Yw (B2 ++ Dy o) o h6 h7 (by simp; omega)
  have e3 := LJ (B2 ++ Dy o ++ Gw o) o (by simp; omega)
  rw [show B2 ++ Cz o = B2 ++ Dy o ++ Gw o ++ c4 o.c by rw [Cz, if_neg (by omega), if_pos hk]; simp only [List.append_assoc]]
  generalize B2 ++ Dy o = B3 at *
  generalize B3 ++ Gw o = B4 at *
  generalize B4 ++ c4 o.c = B5 at *
  clear d3
  simp only [oD, C6] at *
  refine AH fun B M => ?_
  repeat' (first | refine Ai ?_ | (refine As ?_; first | refine cz (cc) ?_ | refine cz (cf) ?_ | (refine AJ (Ab 220) ?_; first | refine Ag (Ab 220) ?_ | refine Ao (Ak 220) ?_ | (refine Aj (Ad _ 220) ?_ ?_ <;> intro _ <;> (try (exfalso; omega))) | (refine Ap (Ad _ 220) ?_ ?_ <;> intro _)) | refine Am [(0, none)] d1 ?_ | refine Am [(0, none)] d2 ?_) | refine Ah ?_ | refine nc ?_ ?_ | (with_reducible intro _ <;> (try (exfalso; omega))) | refine Aa ?_ | (refine nd ?_ ?_ <;> intro hg <;> first | exact xo hg | rw [hg]))
  refine AB 4 ?_
  repeat' (first | refine Ai ?_ | (refine As ?_; first | refine Am [(2, none), (0, none)] e1 ?_ | refine Am [(2, none), (0, none)] e2 ?_ | refine Am [(2, none), (0, none)] e3 ?_) | refine Ah ?_ | refine nc ?_ ?_ | (with_reducible intro _ <;> (try (exfalso; omega))) | refine Aa ?_ | (refine nd ?_ ?_ <;> intro hg <;> first | exact xo hg | rw [hg]))
  exact A8 []
 ·have hi : (Hx.map V.d)[o.k.toNat * 1]? = some (.d (.sl false true VJ)) := by rw [hk]; rfl
  have hln : VJ.length = 3 := rfl
  have e1 := Ja (B2) o h4 h5 (by omega)
  have e2 := QW (B2 ++ Dy o) o hz.1 hz.2 (by simp; omega)
  have e3 := LJ (B2 ++ Dy o ++ GY o) o (by simp; omega)
  rw [show B2 ++ Cz o = B2 ++ Dy o ++ GY o ++ c4 o.c by rw [Cz, if_neg (by omega), if_neg (by omega), if_pos hk]; simp only [List.append_assoc]]
  generalize B2 ++ Dy o = B3 at *
  generalize B3 ++ GY o = B4 at *
  generalize B4 ++ c4 o.c = B5 at *
  clear d3
  simp only [oD, C6] at *
  refine AH fun B M => ?_
  repeat' (first | refine Ai ?_ | (refine As ?_; first | refine cz (cc) ?_ | refine cz (cf) ?_ | (refine AJ (Ab 220) ?_; first | refine Ag (Ab 220) ?_ | refine Ao (Ak 220) ?_ | (refine Aj (Ad _ 220) ?_ ?_ <;> intro _ <;> (try (exfalso; omega))) | (refine Ap (Ad _ 220) ?_ ?_ <;> intro _)) | refine Am [(0, none)] d1 ?_ | refine Am [(0, none)] d2 ?_) | refine Ah ?_ | refine nc ?_ ?_ | (with_reducible intro _ <;> (try (exfalso; omega))) | refine Aa ?_ | (refine nd ?_ ?_ <;> intro hg <;> first | exact xo hg | rw [hg]))
  refine AB 4 ?_
  repeat' (first | refine Ai ?_ | (refine As ?_; first | refine Am [(2, none), (0, none)] e1 ?_ | refine Am [(2, none), (0, none)] e2 ?_ | refine Am [(2, none), (0, none)] e3 ?_) | refine Ah ?_ | refine nc ?_ ?_ | (with_reducible intro _ <;> (try (exfalso; omega))) | refine Aa ?_ | (refine nd ?_ ?_ <;> intro hg <;> first | exact xo hg | rw [hg]))
  exact A8 []
 ·have hi : (Hx.map V.d)[o.k.toNat * 1]? = some (.d (.sl false true Pf)) := by rw [hk]; rfl
  have hln : Pf.length = 2 := rfl
  have e1 := Ja (B2) o h4 h5 (by omega)
  have e2 := TR (B2 ++ Dy o) o (h9 hk) (by simp; omega)
  rw [show B2 ++ Cz o = B2 ++ Dy o ++ AF 1 o.w.toNat ++ AF 1 o.h.toNat ++ GC o.px by rw [Cz, if_neg (by omega), if_neg (by omega), if_neg (by omega), if_pos hk]; simp only [List.append_assoc]]
  generalize B2 ++ Dy o = B3 at *
  generalize B3 ++ AF 1 o.w.toNat ++ AF 1 o.h.toNat ++ GC o.px = B4 at *
  clear d3
  simp only [oD, C6] at *
  refine AH fun B M => ?_
  repeat' (first | refine Ai ?_ | (refine As ?_; first | refine cz (cc) ?_ | refine cz (cf) ?_ | (refine AJ (Ab 220) ?_; first | refine Ag (Ab 220) ?_ | refine Ao (Ak 220) ?_ | (refine Aj (Ad _ 220) ?_ ?_ <;> intro _ <;> (try (exfalso; omega))) | (refine Ap (Ad _ 220) ?_ ?_ <;> intro _)) | refine Am [(0, none)] d1 ?_ | refine Am [(0, none)] d2 ?_) | refine Ah ?_ | refine nc ?_ ?_ | (with_reducible intro _ <;> (try (exfalso; omega))) | refine Aa ?_ | (refine nd ?_ ?_ <;> intro hg <;> first | exact xo hg | rw [hg]))
  refine AB 3 ?_
  repeat' (first | refine Ai ?_ | (refine As ?_; first | refine Am [(2, none), (0, none)] e1 ?_ | refine Am [(2, none), (0, none)] e2 ?_) | refine Ah ?_ | refine nc ?_ ?_ | (with_reducible intro _ <;> (try (exfalso; omega))) | refine Aa ?_ | (refine nd ?_ ?_ <;> intro hg <;> first | exact xo hg | rw [hg]))
  exact A8 []
 ·have hi : (Hx.map V.d)[o.k.toNat * 1]? = some (.d (.sl false true SA)) := by rcases hk with hk | hk <;> (rw [hk]; rfl)
  have hln : SA.length = 1 := rfl
  have e1 := R4 (B2) o (ha (by omega)).1 (by omega)
  rw [show B2 ++ Cz o = B2 ++ Hu o.tg by rw [Cz, if_neg (by omega), if_neg (by omega), if_neg (by omega), if_neg (by omega)]]
  generalize B2 ++ Hu o.tg = B3 at *
  clear d3
  simp only [oD, C6] at *
  refine AH fun B M => ?_
  repeat' (first | refine Ai ?_ | (refine As ?_; first | refine cz (cc) ?_ | refine cz (cf) ?_ | (refine AJ (Ab 220) ?_; first | refine Ag (Ab 220) ?_ | refine Ao (Ak 220) ?_ | (refine Aj (Ad _ 220) ?_ ?_ <;> intro _ <;> (try (exfalso; omega))) | (refine Ap (Ad _ 220) ?_ ?_ <;> intro _)) | refine Am [(0, none)] d1 ?_ | refine Am [(0, none)] d2 ?_) | refine Ah ?_ | refine nc ?_ ?_ | (with_reducible intro _ <;> (try (exfalso; omega))) | refine Aa ?_ | (refine nd ?_ ?_ <;> intro hg <;> first | exact xo hg | rw [hg]))
  refine AB 2 ?_
  repeat' (first | refine Ai ?_ | (refine As ?_; first | refine Am [(2, none), (0, none)] e1 ?_) | refine Ah ?_ | refine nc ?_ ?_ | (with_reducible intro _ <;> (try (exfalso; omega))) | refine Aa ?_ | (refine nd ?_ ?_ <;> intro hg <;> first | exact xo hg | rw [hg]))
  exact A8 []
theorem Z7 {o : A5} (h : Dr o = true) : (Fk o).length ≤ 1000 := by
 have hp : o.k = 6 → o.px.length ≤ 64 := fun hk => by
  obtain ⟨s1, s2, s3⟩ := KT ((FS h).2.2.2.2.2.1 hk)
  simp only [BQ, Bool.and_eq_true, decide_eq_true_eq] at s1 s2
  rw [s3]; exact Nat.mul_le_mul (show o.w.toNat ≤ 8 by omega) (show o.h.toNat ≤ 8 by omega)
 simp only [Fk, Cz, Dy, Gw, GY, List.length_append, AI, Ht]
 repeat' split
 all_goals simp [AI, Ht, IU]
 all_goals (rename_i hk; have := hp hk; omega)
abbrev Ek (l : List A5) : D := .sl false false (l.map oD)
theorem Fj (l : List A5) : (l.map oD).length = l.length := List.length_map _
instance Acl (l : List A5) : CO (l.map oD) (l.map oD) := BM l _ _ (fun _ => inferInstance) (fun _ => rfl)
theorem AbU (l : List A5) : ∀ x ∈ l.map oD, x.length = 19 := fun x hx => by
 obtain ⟨y, _, rfl⟩ := List.mem_map.1 hx; rfl
theorem Rr : ∀ (m : List A5), (∀ o ∈ m, Dr o = true) → (m.flatMap Fk).length ≤ 1000 * m.length
 | [], _ => by simp
 | o :: m, h => by
  have h1 := Z7 (h o (by simp))
  have h2 := Rr m fun p hp => h p (by simp [hp])
  simp only [List.flatMap_cons, List.length_append, List.length_cons]; omega
def Mi (l : List A5) : List UInt8 × Int := if 64 < l.length then ([], 3) else if l.all Dr then (D8 l, 0) else ([], 220)
theorem Z4 (l : List A5) (hl : ∀ o ∈ l, o.px.length ≤ 1000000) : VP Tryz.prog 136 [Ek l] (· = .ret (.tup [BD (Mi l).1, An (Mi l).2])) := by
 have hln := Fj l
 have hsz := AbU l
 refine VP.le ?_
 by_cases h64 : 64 < l.length
 ·rw [show Mi l = ([], 3) by rw [Mi, if_pos h64]]
  refine Al fun B => ?_
  repeat' (first | refine Ai ?_ | (refine As ?_; first | (refine AJ (Ab 3) ?_; first | refine Ag (Ab 3) ?_ | refine Ao (Ak 3) ?_ | (refine Aj (Ad _ 3) ?_ ?_ <;> intro _ <;> (try (exfalso; omega))) | (refine Ap (Ad _ 3) ?_ ?_ <;> intro _)) | refine Ae 178 fun _ => ?_ | refine Ae 213 fun _ => ?_ | refine Ae 179 fun _ => ?_ | refine BI (hc := AN (fd := 247) Tryz.func212 rfl Tryz.ntmps212 Tryz.results212 fun _ => ?_)) | refine Ah ?_ | refine nc ?_ ?_ | (with_reducible intro _ <;> (try (exfalso; omega))) | refine Aa ?_ | (refine nd ?_ ?_ <;> intro hg <;> first | exact xo hg | rw [hg]) | refine AU Tryz.func247 rfl Tryz.ntmps247 Tryz.results247 ?_)
  all_goals first | (simp only [Cm, BD, AG, List.map_nil]; infer_instance) | trace_state
 ·have c1 := Ec [] 1 (l.map oD).length (by omega) (by omega) (by omega) (by simp)
  rw [List.nil_append, show ((1 : Nat) : Int) = 1 from rfl, Int.toNat_natCast] at c1
  have hb1 := AI 1 (l.map oD).length
  obtain ⟨B1, hB1⟩ : ∃ B, AF 1 (l.map oD).length = B := ⟨_, rfl⟩
  rw [hB1] at c1 hb1
  rw [hln] at hB1
  refine Al fun B => ?_
  repeat' (first | refine Ai ?_ | (refine As ?_; first | (refine AJ (Ab 3) ?_; first | refine Ag (Ab 3) ?_ | refine Ao (Ak 3) ?_ | (refine Aj (Ad _ 3) ?_ ?_ <;> intro _ <;> (try (exfalso; omega))) | (refine Ap (Ad _ 3) ?_ ?_ <;> intro _)) | refine Am [(2, none)] c1 ?_ | refine Ae 178 fun _ => ?_ | refine Ae 213 fun _ => ?_ | refine Ae 179 fun _ => ?_ | refine BI (hc := AN (fd := 247) Tryz.func212 rfl Tryz.ntmps212 Tryz.results212 fun _ => ?_)) | refine Ah ?_ | refine nc ?_ ?_ | (with_reducible intro _ <;> (try (exfalso; omega))) | refine Aa ?_ | (refine nd ?_ ?_ <;> intro hg <;> first | exact xo hg | rw [hg]) | refine AU Tryz.func247 rfl Tryz.ntmps247 Tryz.results247 ?_)
  refine Bo 17 l oD (fun (i : Nat) (_ : Unit) => ⟨[(19, I .i64 i), (18, I .i64 (l.map oD).length), (17, .d (Ek l)), (3, .fn (.func 182) [.ptr 2 0] [])],
     [.c 2 0 [.d (BD (B1 ++ (l.take i).flatMap Fk))], .c 4 0 [.d (An 0)], .c 3 0 [.ptr 2 0], .c 1 0 [.fn (.func 179) [] [.ptr 0 0]], .c 0 0 [.d (Ek l)]], 5⟩) (fun i _ => (∀ o ∈ l.take i, Dr o = true)) () (by rw [List.take_zero, List.flatMap_nil, List.append_nil]; exact (AE)) (by simp) (fun i y x hT hi hx hx' hlt hlm hlen hdr => ?_) (fun y hT hlt hlm => ?_)
  ·have hxl := hl x (List.mem_of_getElem? hx)
   have htk : l.take (i + 1) = l.take i ++ [x] := by rw [List.take_add_one, hx]; rfl
   have hbl : (B1 ++ (l.take i).flatMap Fk).length ≤ 1000000 := by
    have := Rr _ hT
    rw [List.length_append, hb1]
    have h2 : (l.take i).length ≤ i := by simp; omega
    omega
   have hfm : (l.take (i + 1)).flatMap Fk = (l.take i).flatMap Fk ++ Fk x := by rw [htk]; simp
   cases hv : Dr x with
   | false =>
    have c := Vs (B1 ++ (l.take i).flatMap Fk) x hv hxl
    rw [show Mi l = ([], 220) by
     rw [Mi, if_neg h64, if_neg]
     intro h
     rw [List.all_eq_true] at h
     rw [h x (List.mem_of_getElem? hx)] at hv; cases hv]
    repeat' (first | refine Ai ?_ | (refine As ?_; first | refine Am [(2, none)] c ?_) | refine Ah ?_ | refine nc ?_ ?_ | (with_reducible intro _ <;> (try (exfalso; omega))) | refine Aa ?_ | (refine nd ?_ ?_ <;> intro hg <;> first | exact xo hg | rw [hg]) | refine AU Tryz.func247 rfl Tryz.ntmps247 Tryz.results247 ?_)
    all_goals first | (simp only [Cm, BD, AG, List.map_nil]; infer_instance) | (exfalso; simp_all; fail_if_success (focus skip)) | trace_state
   | true =>
    have c := Vr (B1 ++ (l.take i).flatMap Fk) x hv hxl (by omega)
    repeat' (first | refine Ai ?_ | (refine As ?_; first | refine Am [(2, none)] c ?_) | refine Ah ?_ | refine nc ?_ ?_ | (with_reducible intro _ <;> (try (exfalso; omega))) | refine Aa ?_ | (refine nd ?_ ?_ <;> intro hg <;> first | exact xo hg | rw [hg]) | refine AU Tryz.func247 rfl Tryz.ntmps247 Tryz.results247 ?_)
    refine Bd () hi ?_ ?_
    ·rw [htk]; intro o ho
     rcases List.mem_append.1 ho with ho | ho
     ·exact hT o ho
     ·simp at ho; rw [ho]; exact hv
    ·rw [hfm, ← List.append_assoc]
     exact (AE)
  ·rw [List.take_of_length_le (Nat.le_refl _)] at hT ⊢
   rw [show Mi l = (D8 l, 0) by rw [Mi, if_neg h64, if_pos (by rw [List.all_eq_true]; exact hT)], D8, hB1]
   repeat' (first | refine Ai ?_ | refine Ah ?_ | refine nc ?_ ?_ | (with_reducible intro _ <;> (try (exfalso; omega))) | refine Aa ?_ | (refine nd ?_ ?_ <;> intro hg <;> first | exact xo hg | rw [hg]) | refine AU Tryz.func247 rfl Tryz.ntmps247 Tryz.results247 ?_)
   all_goals first | (simp only [Cm]; infer_instance) | (exfalso; simp_all; fail_if_success (focus skip)) | trace_state

set_option maxRecDepth 20000
theorem Z5 : IH Tryz.prog 5 (fun _ : UInt8 => True) (fun y => [.lit (vb y)]) := IH.u8 Tryz.underlying5 (by kernel_rfl)
theorem Z6 : IH Tryz.prog 23 (fun b : List UInt8 => b.length ≤ 9223372036854775807) (fun b => [.sl false false (AG b)]) :=
 (IH.slice Z5 Tryz.underlying23 (by rw [show Tryz.prog.cellsOf 5 = 1 by kernel_rfl]; omega) (by kernel_rfl)).map (fun y h => ⟨y, h.2, rfl⟩) (fun z hz => by rw [show Tryz.prog.cellsOf 23 = 1 by kernel_rfl]; rfl)

set_option maxRecDepth 10000
inductive Fl
 | ep
 | si
 | sn
 | ix
 | my
 | bs
 | os
 | v
 | fl
 | fq
 | pr
 | tl
 | w
deriving DecidableEq
structure Fr where
 k : Int
 ep : Nat
 si : Int
 sn : Nat
 ix : Int
 my : Int
 bs : List UInt8
 os : List A5
 v : Vc
 fl : Nat
 fq : Nat
 pr : Nat
 tl : Nat
 w : Vc
deriving DecidableEq
def Fr.zero : Fr := ⟨0, 0, 0, 0, 0, 0, [], [], .zero, 0, 0, 0, 0, .zero⟩
def Bb (k : Int) : List Fl := if k = 1 then [.ep, .si, .sn, .ix] else if k = 2 then [.ep, .si, .sn, .ix, .my, .bs] else if k = 3 then [.ep, .si, .os] else if k = 4 then [.ep, .si, .v, .fl, .fq] else if k = 5 then [.ep, .v, .pr, .tl, .w] else []
def II (f g : Fr) : Fl → Fr
 | .ep => { f with ep := g.ep }
 | .si => { f with si := g.si }
 | .sn => { f with sn := g.sn }
 | .ix => { f with ix := g.ix }
 | .my => { f with my := g.my }
 | .bs => { f with bs := g.bs }
 | .os => { f with os := g.os }
 | .v => { f with v := g.v }
 | .fl => { f with fl := g.fl }
 | .fq => { f with fq := g.fq }
 | .pr => { f with pr := g.pr }
 | .tl => { f with tl := g.tl }
 | .w => { f with w := g.w }
def E6 (f : Fr) : Fr := (Bb f.k).foldl (fun o n => II o f n) { Fr.zero with k := f.k }
def Hk : List A5 → Bool
 | [] => true
 | [_] => true
 | a :: b :: l => Ib a.id b.id && Hk (b :: l)
def Zt (f : Fr) : Bool := O0 f.ep && O0 f.sn && O0 f.fl && O0 f.fq && O0 f.pr && O0 f.tl
def MS (f : Fr) : Bool :=
 if f.k = 1 then Cg f.si && decide (0 ≤ f.ix) && decide (f.ix ≤ 64)
 else if f.k = 2 then Cg f.si && decide (1 ≤ f.my) && decide (f.my ≤ 64) && decide (0 ≤ f.ix) && decide (f.ix < f.my) && decide (1 ≤ f.bs.length) && decide (f.bs.length ≤ 256)
 else if f.k = 3 then (decide (f.si = 0) || Cg f.si) && decide (1 ≤ f.os.length) && decide (f.os.length ≤ 4) && f.os.all (fun o => Dr o && (decide (f.si = 0) || decide (o.id.s = f.si))) && Hk f.os
 else if f.k = 4 then Cg f.si
 else decide (f.pr = 0) || decide (f.tl < f.pr)
def GK (f : Fr) : Bool := Zt f && decide (1 ≤ f.k) && decide (f.k ≤ 5) && decide (E6 f = f) && Ej f.v && Ej f.w && MS f
def Bm (f : Fr) : Fl → List UInt8
 | .ep => AF 8 f.ep
 | .si => AF 1 f.si.toNat
 | .sn => AF 8 f.sn
 | .ix => AF 1 f.ix.toNat
 | .my => AF 1 f.my.toNat
 | .bs => AF 2 f.bs.length ++ f.bs
 | .os => D8 f.os
 | .v => IL f.v
 | .fl => AF 8 f.fl
 | .fq => AF 8 f.fq
 | .pr => AF 8 f.pr
 | .tl => AF 8 f.tl
 | .w => IL f.w
def J2 (f : Fr) (ns : List Fl) : List UInt8 := ns.flatMap (Bm f)
def Dv (f : Fr) : List UInt8 := AF 1 f.k.toNat ++ J2 f (Bb f.k)
def HP (w : Nat) (b : List UInt8) : Option (Nat × List UInt8) := if w ≤ b.length then some (AV (b.take w), b.drop w) else none
def GZ (b : List UInt8) : Option (Vc × List UInt8) := if b.length < 64 then none else if Ej (Hc b) then some (Hc b, b.drop 64) else none
def Be (f : Fr) : Fl → List UInt8 → Option (Fr × List UInt8)
 | .ep, b => (HP 8 b).map fun p => ({ f with ep := p.1 }, p.2)
 | .si, b => (HP 1 b).map fun p => ({ f with si := p.1 }, p.2)
 | .sn, b => (HP 8 b).map fun p => ({ f with sn := p.1 }, p.2)
 | .ix, b => (HP 1 b).map fun p => ({ f with ix := p.1 }, p.2)
 | .my, b => (HP 1 b).map fun p => ({ f with my := p.1 }, p.2)
 | .bs, b => match HP 2 b with
  | none => none
  | some (m, t) => if m ≤ t.length then some ({ f with bs := t.take m }, t.drop m) else none
 | .os, b => match EZ b with
  | .error _ => none
  | .ok (l, t) => some ({ f with os := l }, t)
 | .v, b => (GZ b).map fun p => ({ f with v := p.1 }, p.2)
 | .fl, b => (HP 8 b).map fun p => ({ f with fl := p.1 }, p.2)
 | .fq, b => (HP 8 b).map fun p => ({ f with fq := p.1 }, p.2)
 | .pr, b => (HP 8 b).map fun p => ({ f with pr := p.1 }, p.2)
 | .tl, b => (HP 8 b).map fun p => ({ f with tl := p.1 }, p.2)
 | .w, b => (GZ b).map fun p => ({ f with w := p.1 }, p.2)
def F6 : List Fl → Fr → List UInt8 → Option (Fr × List UInt8)
 | [], f, b => some (f, b)
 | n :: ns, f, b => match Be f n b with
  | none => none
  | some (g, t) => F6 ns g t
def G0 : List UInt8 → Option Fr
 | [] => none
 | k :: b => match F6 (Bb k.toNat) { Fr.zero with k := k.toNat } b with
  | some (f, []) => if GK f then some f else none
  | _ => none
def CZ (f : Fr) : Fl → Prop
 | .ep => f.ep ≤ 4611686018427387904
 | .si => 0 ≤ f.si ∧ f.si < 256
 | .sn => f.sn ≤ 4611686018427387904
 | .ix => 0 ≤ f.ix ∧ f.ix < 256
 | .my => 0 ≤ f.my ∧ f.my < 256
 | .bs => f.bs.length ≤ 256
 | .os => (∀ o ∈ f.os, Dr o = true) ∧ f.os.length ≤ 64
 | .v => Ej f.v = true
 | .fl => f.fl ≤ 4611686018427387904
 | .fq => f.fq ≤ 4611686018427387904
 | .pr => f.pr ≤ 4611686018427387904
 | .tl => f.tl ≤ 4611686018427387904
 | .w => Ej f.w = true
theorem FQ (w n : Nat) (h : n < 256 ^ w) (r : List UInt8) : HP w (AF w n ++ r) = some (n, r) := by
 have hl := AI w n
 unfold HP
 rw [if_pos (by rw [List.length_append, hl]; omega), List.take_left' hl, List.drop_left' hl, Ff w n h]
theorem V2 {w n : Nat} {b t : List UInt8} (h : HP w b = some (n, t)) : AF w n ++ t = b ∧ n < 256 ^ w := by
 unfold HP at h
 split at h
 ·cases h
  have hl : (b.take w).length = w := by rw [List.length_take]; omega
  have h1 := Gd (b.take w)
  have h2 := HR (b.take w)
  rw [hl] at h1 h2
  exact ⟨by rw [h1, List.take_append_drop], h2⟩
 ·cases h
theorem Hd (v : Vc) : (IL v).length = 64 := by simp [IL, AI]
theorem WI {v : Vc} (h : Ej v = true) (r : List UInt8) : Hc (IL v ++ r) = v := by
 obtain ⟨h0, h1, h2, h3, h4, h5, h6, h7, h8⟩ := (Kl v).1 h
 have e : ∀ (a b c : List UInt8), a.length = 8 → (∀ n m, n = a.length + m → ((a ++ b ++ c).take n).drop 8 = (b ++ c).take m) := fun a b c ha n m hn => by
  rw [hn, List.append_assoc, List.take_length_add_append, ← ha, List.drop_left]
 have nl : ∀ n, n ≤ 4611686018427387904 → AV (AF 8 n) = n := fun n hn => Ff 8 n (by omega)
 have tk : ∀ (n : Nat) (x : List UInt8), (AF 8 n ++ x).take 8 = AF 8 n := fun n x => List.take_left' (AI 8 n)
 have dk : ∀ (n m : Nat) (x : List UInt8), (AF 8 n ++ x).drop (8 + m) = x.drop m := fun n m x => by rw [← List.drop_drop, List.drop_left' (AI 8 n)]
 have td : ∀ (x : List UInt8) (k : Nat), (x.take (k + 8)).drop k = (x.drop k).take 8 := fun x k => by rw [List.drop_take]; congr 1; omega
 have key : ∀ k, ((IL v ++ r).take (k + 8)).drop k = ((IL v ++ r).drop k).take 8 := fun k => td _ k
 unfold Hc
 have k8 := key 8; have k16 := key 16; have k24 := key 24; have k32 := key 32; have k40 := key 40; have k48 := key 48; have k56 := key 56
 simp only [Nat.reduceAdd] at k8 k16 k24 k32 k40 k48 k56
 rw [k8, k16, k24, k32, k40, k48, k56]
 simp only [IL, List.append_assoc]
 rw [tk, show (8 : Nat) = 8 + 0 from rfl, dk, show (16 : Nat) = 8 + (8 + 0) from rfl, dk, dk, show (24 : Nat) = 8 + (8 + (8 + 0)) from rfl, dk, dk, dk, show (32 : Nat) = 8 + (8 + (8 + (8 + 0))) from rfl, dk, dk, dk, dk, show (40 : Nat) = 8 + (8 + (8 + (8 + (8 + 0)))) from rfl, dk, dk, dk, dk, dk,
  show (48 : Nat) = 8 + (8 + (8 + (8 + (8 + (8 + 0))))) from rfl, dk, dk, dk, dk, dk, dk, show (56 : Nat) = 8 + (8 + (8 + (8 + (8 + (8 + (8 + 0)))))) from rfl, dk, dk, dk, dk, dk, dk, dk]
 simp only [List.drop_zero, Nat.add_zero]
 rw [tk, tk, tk, tk, tk, tk, tk, nl _ h1, nl _ h2, nl _ h3, nl _ h4, nl _ h5, nl _ h6, nl _ h7, nl _ h8, ← h0]
theorem Q6 {v : Vc} (h : Ej v = true) (r : List UInt8) : GZ (IL v ++ r) = some (v, r) := by
 have hl := Hd v
 unfold GZ
 rw [if_neg (by rw [List.length_append, hl]; omega), WI h, if_pos h, List.drop_left' hl]
theorem Yj {v : Vc} {b t : List UInt8} (h : GZ b = some (v, t)) : IL v ++ t = b ∧ Ej v = true := by
 unfold GZ at h
 split at h
 ·cases h
 ·rename_i hl
  split at h
  ·rename_i hv
   cases h
   refine ⟨?_, hv⟩
   have c : ∀ (k : Nat) (r : List UInt8), k + 8 ≤ 64 → AF 8 (AV ((b.take (k + 8)).drop k)) ++ (b.drop (k + 8)) = b.drop k := fun k r hk => by
    have hl2 : ((b.take (k + 8)).drop k).length = 8 := by rw [List.length_drop, List.length_take]; omega
    have h1 := Gd ((b.take (k + 8)).drop k)
    rw [hl2] at h1
    rw [h1, List.drop_take, show k + 8 - k = 8 by omega, ← List.drop_drop, List.take_append_drop]
   simp only [IL, Hc, List.append_assoc]
   rw [c 56 [] (by omega), c 48 [] (by omega), c 40 [] (by omega), c 32 [] (by omega), c 24 [] (by omega), c 16 [] (by omega), c 8 [] (by omega)]
   have := c 0 [] (by omega)
   simpa using this
  ·cases h
theorem Xh {f : Fr} (g : Fr) {n : Fl} (h : CZ f n) (r : List UInt8) : Be g n (Bm f n ++ r) = some (II g f n, r) := by
 cases n with
 | ep => simp only [CZ] at h; simp only [Be, Bm, II]; rw [FQ 8 _ (by omega)]; rfl
 | si => simp only [CZ] at h; simp only [Be, Bm, II]; rw [FQ 1 _ (by omega), Option.map_some, Int.toNat_of_nonneg h.1]
 | sn => simp only [CZ] at h; simp only [Be, Bm, II]; rw [FQ 8 _ (by omega)]; rfl
 | ix => simp only [CZ] at h; simp only [Be, Bm, II]; rw [FQ 1 _ (by omega), Option.map_some, Int.toNat_of_nonneg h.1]
 | my => simp only [CZ] at h; simp only [Be, Bm, II]; rw [FQ 1 _ (by omega), Option.map_some, Int.toNat_of_nonneg h.1]
 | bs =>
  simp only [CZ] at h; simp only [Be, Bm, II]; rw [List.append_assoc, FQ 2 _ (by omega)]
  show (if f.bs.length ≤ (f.bs ++ r).length then _ else _) = _
  rw [if_pos (by rw [List.length_append]; omega), List.take_left, List.drop_left]
 | os => simp only [CZ] at h; simp only [Be, Bm, II]; rw [Un h.1 h.2]
 | v => simp only [CZ] at h; simp only [Be, Bm, II]; rw [Q6 h]; rfl
 | fl => simp only [CZ] at h; simp only [Be, Bm, II]; rw [FQ 8 _ (by omega)]; rfl
 | fq => simp only [CZ] at h; simp only [Be, Bm, II]; rw [FQ 8 _ (by omega)]; rfl
 | pr => simp only [CZ] at h; simp only [Be, Bm, II]; rw [FQ 8 _ (by omega)]; rfl
 | tl => simp only [CZ] at h; simp only [Be, Bm, II]; rw [FQ 8 _ (by omega)]; rfl
 | w => simp only [CZ] at h; simp only [Be, Bm, II]; rw [Q6 h]; rfl
theorem OO {f : Fr} : ∀ (ns : List Fl) (g : Fr), (∀ n ∈ ns, CZ f n) → ∀ r, F6 ns g (J2 f ns ++ r) = some (ns.foldl (fun o n => II o f n) g, r)
 | [], g, _, r => rfl
 | n :: ns, g, h, r => by
  simp only [F6, J2, List.flatMap_cons, List.append_assoc]
  rw [Xh g (h n (by simp))]
  exact OO ns _ (fun m hm => h m (by simp [hm])) r
theorem N1 {f g : Fr} {n : Fl} {b t : List UInt8} (h : Be f n b = some (g, t)) : Bm g n ++ t = b ∧ g.k = f.k ∧ ∀ m, m ≠ n → Bm g m = Bm f m := by
 cases n with
 | bs =>
  simp only [Be] at h
  split at h
  ·cases h
  ·rename_i m u hm
   split at h
   ·rename_i hmu
    cases h
    have h1 := V2 hm
    refine ⟨?_, rfl, fun m hm => by cases m <;> first | exact absurd rfl hm | rfl⟩
    simp only [Bm]
    rw [List.length_take, Nat.min_eq_left hmu, List.append_assoc, List.take_append_drop, h1.1]
   ·cases h
 | os =>
  simp only [Be] at h
  split at h
  ·cases h
  ·rename_i l u hl
   cases h
   exact ⟨(N0 hl).2.2, rfl, fun m hm => by cases m <;> first | exact absurd rfl hm | rfl⟩
 | v | w =>
  simp only [Be, Option.map_eq_some_iff] at h
  obtain ⟨⟨x, y⟩, h1, h2⟩ := h
  cases h2
  exact ⟨(Yj h1).1, rfl, fun m hm => by cases m <;> first | exact absurd rfl hm | rfl⟩
 | _ =>
  simp only [Be, Option.map_eq_some_iff] at h
  obtain ⟨⟨x, y⟩, h1, h2⟩ := h
  cases h2
  have h3 := (V2 h1).1
  refine ⟨?_, rfl, fun m hm => by cases m <;> first | exact absurd rfl hm | rfl⟩
  simpa only [Bm, Int.toNat_natCast] using h3
theorem NP {f : Fr} (h : GK f = true) : (Zt f = true ∧ (1 ≤ f.k ∧ f.k ≤ 5) ∧ E6 f = f ∧ Ej f.v = true ∧ Ej f.w = true) ∧ MS f = true := by
 simp only [GK, Bool.and_eq_true, decide_eq_true_eq] at h
 obtain ⟨⟨⟨⟨⟨⟨h1, h2⟩, h3⟩, h4⟩, h5⟩, h6⟩, h7⟩ := h
 exact ⟨⟨h1, ⟨h2, h3⟩, h4, h5, h6⟩, h7⟩
theorem Zs {f : Fr} (h : Zt f = true) : f.ep ≤ 4611686018427387904 ∧ f.sn ≤ 4611686018427387904 ∧ f.fl ≤ 4611686018427387904 ∧ f.fq ≤ 4611686018427387904 ∧ f.pr ≤ 4611686018427387904 ∧ f.tl ≤ 4611686018427387904 := by
 simp only [Zt, O0, Bool.and_eq_true, decide_eq_true_eq] at h
 omega
theorem Qj {k : Int} (h1 : 1 ≤ k) (h2 : k ≤ 5) : k = 1 ∨ k = 2 ∨ k = 3 ∨ k = 4 ∨ k = 5 := by omega
theorem AaC {f : Fr} (h : MS f = true) : (f.k = 1 → (1 ≤ f.si ∧ f.si ≤ 8) ∧ 0 ≤ f.ix ∧ f.ix ≤ 64) ∧ (f.k = 2 → (1 ≤ f.si ∧ f.si ≤ 8) ∧ (1 ≤ f.my ∧ f.my ≤ 64) ∧ (0 ≤ f.ix ∧ f.ix < f.my) ∧ 1 ≤ f.bs.length ∧ f.bs.length ≤ 256) ∧
  (f.k = 3 → (0 ≤ f.si ∧ f.si ≤ 8) ∧ (1 ≤ f.os.length ∧ f.os.length ≤ 4) ∧ (∀ o ∈ f.os, Dr o = true ∧ (f.si = 0 ∨ o.id.s = f.si)) ∧ Hk f.os = true) ∧ (f.k = 4 → 1 ≤ f.si ∧ f.si ≤ 8) := by
 refine ⟨fun e => ?_, fun e => ?_, fun e => ?_, fun e => ?_⟩ <;> simp only [MS, e, Cg] at h <;> simp at h
 ·omega
 ·omega
 ·refine ⟨by omega, by omega, fun o ho => h.1.2 o ho, h.2⟩
 ·omega
theorem MR {f : Fr} (h : GK f = true) : ∀ n ∈ Bb f.k, CZ f n := by
 obtain ⟨⟨h1, ⟨h2, h2'⟩, _, h4, h5⟩, h6⟩ := NP h
 obtain ⟨t1, t2, t3, t4, t5, t6⟩ := Zs h1
 obtain ⟨k1, k2, k3, k4⟩ := AaC h6
 rcases Qj h2 h2' with e | e | e | e | e <;> rw [e] <;> intro n hn <;> simp [Bb] at hn
 ·have := k1 e; rcases hn with rfl | rfl | rfl | rfl <;> simp only [CZ] <;> omega
 ·have := k2 e; rcases hn with rfl | rfl | rfl | rfl | rfl | rfl <;> simp only [CZ] <;> omega
 ·have := k3 e
  rcases hn with rfl | rfl | rfl <;> simp only [CZ]
  ·omega
  ·omega
  ·exact ⟨fun o ho => (this.2.2.1 o ho).1, by omega⟩
 ·have := k4 e; rcases hn with rfl | rfl | rfl | rfl | rfl <;> simp only [CZ] <;> first | omega | assumption
 ·rcases hn with rfl | rfl | rfl | rfl | rfl <;> simp only [CZ] <;> first | omega | assumption
theorem kU {k : Int} (h1 : 0 ≤ k) (h2 : k < 256) : AF 1 k.toNat = [UInt8.ofNat k.toNat] ∧ ((UInt8.ofNat k.toNat).toNat : Int) = k := by
 have h := WO k h1 h2
 have hm : k.toNat % 256 = k.toNat := Nat.mod_eq_of_lt (by omega)
 rw [Sx, hm]; rw [hm] at h
 exact ⟨rfl, h⟩
theorem AbJ {f : Fr} (h : GK f = true) : G0 (Dv f) = some f := by
 obtain ⟨⟨_, ⟨h2, h2'⟩, h3, _, _⟩, _⟩ := NP h
 obtain ⟨e1, e2⟩ := kU (k := f.k) (by omega) (by omega)
 have e := OO (Bb f.k) { Fr.zero with k := f.k } (MR h) []
 rw [List.append_nil] at e
 unfold Dv
 rw [e1]
 simp only [List.cons_append, List.nil_append, G0]
 rw [e2, e]
 show (if GK (E6 f) = true then some (E6 f) else none) = _
 rw [h3, if_pos h]
theorem XA {o : A5} (h : Dr o = true) : (Fk o).length ≤ 280 := by
 obtain ⟨_, ⟨h1, h2⟩, _, _, _, h6, _⟩ := FS h
 have hf : (Dy o).length = 2 := by simp [Dy, AI]
 have ht : (Gw o).length = 2 := by simp [Gw, AI]
 have hs : (GY o).length = 2 := by simp [GY, AI]
 have hi := Ht o.tg
 have hp := IU o.px
 unfold Fk Cz
 rw [List.length_append, List.length_append, AI, Ht]
 split
 ·simp only [List.length_append, List.length_cons, List.length_nil]; omega
 ·split
  ·simp only [List.length_append, List.length_cons, List.length_nil]; omega
  ·split
   ·simp only [List.length_append, List.length_cons, List.length_nil]; omega
   ·split
    ·rename_i h6'
     obtain ⟨s1, s2, s3⟩ := KT (h6 h6')
     simp only [BQ, Bool.and_eq_true, decide_eq_true_eq] at s1 s2
     have hm : o.w.toNat * o.h.toNat ≤ 8 * 8 := Nat.mul_le_mul (by omega) (by omega)
     simp only [List.length_append, AI]; omega
    ·omega

end Go.Proofs.YtbgcjnfhadhjeaaGreat