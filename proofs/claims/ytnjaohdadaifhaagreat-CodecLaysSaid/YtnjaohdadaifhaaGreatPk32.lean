/- Walks by data and names, part 32: The document's layer 12, by V: what a kind uses, which operations may be. Layer 12, by V: what a kind uses, which operations are the same. An array's element that is a struct. -/
import Derived.Test.YtnjaohdadaifhaaGreatPk31
import Derived.Test.YtnjaohdadaifhaaGreatPk24
namespace Go.Proofs.YtnjaohdadaifhaaGreat
set_option maxRecDepth 20000
open Go.RowKit
set_option maxRecDepth 10000
set_option maxHeartbeats 4000000
inductive Fd
  | x
  | y
  | x2
  | y2
  | z
  | c
  | s
  | t
deriving DecidableEq
def Fd.nm : Fd → List UInt8
  | .x => [88]
  | .y => [89]
  | .x2 => [88, 50]
  | .y2 => [89, 50]
  | .z => [83, 105, 122, 101]
  | .c => [67, 111, 108, 111, 114]
  | .s => [83, 116, 97, 109, 112]
  | .t => [84, 97, 114, 103, 101, 116]
def usesB (k : Int) : Fd → Bool
  | .x | .y => decide (1 ≤ k) && decide (k ≤ 6)
  | .x2 | .y2 => decide (1 ≤ k) && decide (k ≤ 4)
  | .z => decide (k = 1) || decide (k = 2) || decide (k = 5)
  | .c => decide (1 ≤ k) && decide (k ≤ 5)
  | .s => decide (k = 6)
  | .t => decide (k = 7) || decide (k = 8)
abbrev nmD (f : Fd) : D := .lit (strV f.nm)
theorem uses_v (k : Int) (f : Fd) : VP Tryz.prog 66 [i64D k, nmD f] (· = .ret (.lit (.bool (usesB k f)))) := by
  cases f
  all_goals
    simp only [nmD, Fd.nm, usesB]
    refine vp_of Tryz.func66 rfl Tryz.ntmps66 rfl Tryz.results66 fun B => ?_
    repeat' (first | refine nz1 ?_ | refine nzo ?_ | refine nc ?_ ?_ | (with_reducible intro _ <;> (try (exfalso; omega))) | refine nnil ?_ | (refine nd ?_ ?_ <;> intro hg <;> first | exact xo hg | rw [hg]))
  all_goals (simp_all; try omega)
theorem rsides_v (w h : Int) : VP Tryz.prog 96 [i64D w, i64D h] (· = .ret (.lit (.bool (sideB w && sideB h)))) := by
  simp only [sideB]
  refine vp_of Tryz.func96 rfl Tryz.ntmps96 rfl Tryz.results96 fun B => ?_
  repeat' (first | refine nz1 ?_ | refine nzo ?_ | refine nc ?_ ?_ | (with_reducible intro _ <;> (try (exfalso; omega))) | refine nnil ?_ | (refine nd ?_ ?_ <;> intro hg <;> first | exact xo hg | rw [hg]))
  all_goals (simp_all; try omega)
theorem rright09_v (o : Opp) (_ : o.px.length ≤ 1000000) : VP Tryz.prog 64 [.agg [i64D o.w, i64D o.h, cosD o.px]] (· = .ret (.lit (.bool (stB o)))) := by
  have c := rsides_v o.w o.h
  have hpl := colD_len o.px
  simp only [stB]
  by_cases hs : sideB o.w = true ∧ sideB o.h = true
  · have h1 := hs.1
    have h2 := hs.2
    simp only [sideB, Bool.and_eq_true, decide_eq_true_eq] at h1 h2
    have hm : 0 ≤ o.w * o.h ∧ o.w * o.h ≤ 64 := ⟨Int.mul_nonneg (by omega) (by omega), by
      have := Int.mul_le_mul h1.2 h2.2 (by omega) (by omega : (0 : Int) ≤ 8); omega⟩
    simp only [hs.1, hs.2, Bool.and_self, Bool.true_and] at c ⊢
    refine vp_of Tryz.func64 rfl Tryz.ntmps64 rfl Tryz.results64 fun B => ?_
    repeat' (first | refine nz1 ?_ | (refine vid ?_; first | refine cz (c) ?_) | refine nzo ?_ | refine nc ?_ ?_ | (with_reducible intro _ <;> (try (exfalso; omega))) | refine nnil ?_ | (refine nd ?_ ?_ <;> intro hg <;> first | exact xo hg | rw [hg]))
    rw [hpl]
  · have hf : (sideB o.w && sideB o.h) = false := by
      cases e : (sideB o.w && sideB o.h)
      · rfl
      · exact (hs (by simpa using e)).elim
    simp only [hf, Bool.false_and] at c ⊢
    refine vp_of Tryz.func64 rfl Tryz.ntmps64 rfl Tryz.results64 fun B => ?_
    repeat' (first | refine nz1 ?_ | (refine vid ?_; first | refine cz (c) ?_) | refine nzo ?_ | refine nc ?_ ?_ | (with_reducible intro _ <;> (try (exfalso; omega))) | refine nnil ?_ | (refine nd ?_ ?_ <;> intro hg <;> first | exact xo hg | rw [hg]))
    all_goals rfl
theorem rsame09_v (o p : Opp) : VP Tryz.prog 69 [.agg [i64D o.w, i64D o.h, cosD o.px], .agg [i64D p.w, i64D p.h, cosD p.px]] (· = .ret (.lit (.bool (sameSt o p)))) := by
  have ha := colD_len o.px
  have hb := colD_len p.px
  simp only [sameSt]
  refine vp_of Tryz.func69 rfl Tryz.ntmps69 rfl Tryz.results69 fun B => ?_
  repeat' (first | refine nz1 ?_ | refine nzo ?_ | refine nc ?_ ?_ | (with_reducible intro _ <;> (try (exfalso; omega))) | refine nnil ?_ | (refine nd ?_ ?_ <;> intro hg <;> first | exact xo hg | rw [hg]))
  · simp [*]
  · simp [*]
  · rename_i hne
    rw [decide_eq_false (fun h : o.px = p.px => by rw [h] at hne; exact hne rfl)]; simp
  · refine vw_each 29 o.px colD (fun (i : Nat) (_ : Unit) => ⟨[(31, I .i64 i), (30, I .i64 (o.px.map colD).length), (29, .d (cosD o.px)), (3, .ptr 1 0), (2, .ptr 0 0)], [.c 1 0 [.d (i64D p.w), .d (i64D p.h), .d (cosD p.px)]], 2⟩) (fun i _ => decide (o.px = p.px) = decide (o.px.drop i = p.px.drop i)) () (sub_z) rfl (fun i y x hT hi hx hx' hlt hlm hlen hdr => ?_) (fun y hT hlt hlm => ?_)
    · have hlb : i < p.px.length := by omega
      have hb' : p.px[i]? = some p.px[i] := List.getElem?_eq_getElem hlb
      have hbd := List.drop_eq_getElem_cons hlb
      generalize p.px[i] = z at *
      have hbx : (p.px.map colD)[((i : Nat) : Int).toNat]? = some (colD z) := by simp [hb']
      have he := col_eq x z
      rw [hdr, hbd] at hT
      by_cases hxz : x = z
      · rw [decide_eq_true hxz] at he
        repeat' (first | refine nz1 ?_ | refine nzo ?_ | refine nc ?_ ?_ | (with_reducible intro _ <;> (try (exfalso; omega))) | refine nnil ?_ | (refine nd ?_ ?_ <;> intro hg <;> first | exact xo hg | rw [hg]))
        refine nx_each () hi ?_ (sub_z)
        rw [hT, hxz]; simp
      · rw [decide_eq_false hxz] at he
        repeat' (first | refine nz1 ?_ | refine nzo ?_ | refine nc ?_ ?_ | (with_reducible intro _ <;> (try (exfalso; omega))) | refine nnil ?_ | (refine nd ?_ ?_ <;> intro hg <;> first | exact xo hg | rw [hg]))
        rw [hT, decide_eq_false (fun h => hxz (List.cons.inj h).1)]; simp
    · repeat' (first | refine nz1 ?_ | refine nzo ?_ | refine nc ?_ ?_ | (with_reducible intro _ <;> (try (exfalso; omega))) | refine nnil ?_ | (refine nd ?_ ?_ <;> intro hg <;> first | exact xo hg | rw [hg]))
      rw [hT, List.drop_of_length_le (Nat.le_refl _), List.drop_of_length_le (by omega)]; simp_all
theorem rsame12_v (a b : Opp) : VP Tryz.prog 29 [.agg (oD a), .agg (oD b)] (· = .ret (.lit (.bool (decide (a = b))))) := by
  have cs := rsame09_v a b
  have e1 := id_eq a.id b.id
  have e2 := id_eq a.tg b.tg
  have e3 := col_eq a.c b.c
  have he : a = b ↔ a.id = b.id ∧ a.k = b.k ∧ a.x = b.x ∧ a.y = b.y ∧ a.x2 = b.x2 ∧ a.y2 = b.y2 ∧ a.z = b.z ∧ a.c = b.c ∧ a.w = b.w ∧ a.h = b.h ∧ a.px = b.px ∧ a.tg = b.tg := by cases a; cases b; simp
  simp only [oD, oDf] at *
  refine vp_of Tryz.func29 rfl Tryz.ntmps29 rfl Tryz.results29 fun B => ?_
  repeat' (first | refine nz1 ?_ | (refine vid ?_; first | refine cz (cs) ?_) | refine nzo ?_ | refine nc ?_ ?_ | (with_reducible intro _ <;> (try (exfalso; omega))) | refine nnil ?_ | (refine nd ?_ ?_ <;> intro hg <;> first | exact xo hg | rw [hg]))
  all_goals (clear cs e1 e2 e3; simp only [he, sameSt]; simp_all; try simp [Bool.and_assoc])
theorem vb0 : vb 0 = .int .u8 0 := rfl
theorem int0 : ((0 : Nat) : Int) = 0 := rfl
theorem uses_a {k : Int} (h : k = 1 ∨ k = 2) : usesB k .x = true ∧ usesB k .y = true ∧ usesB k .x2 = true ∧ usesB k .y2 = true ∧ usesB k .z = true ∧ usesB k .c = true ∧ usesB k .s = false ∧ usesB k .t = false := by rcases h with rfl | rfl <;> decide
theorem uses_b {k : Int} (h : k = 3 ∨ k = 4) : usesB k .x = true ∧ usesB k .y = true ∧ usesB k .x2 = true ∧ usesB k .y2 = true ∧ usesB k .z = false ∧ usesB k .c = true ∧ usesB k .s = false ∧ usesB k .t = false := by rcases h with rfl | rfl <;> decide
theorem uses_c {k : Int} (h : k = 5) : usesB k .x = true ∧ usesB k .y = true ∧ usesB k .x2 = false ∧ usesB k .y2 = false ∧ usesB k .z = true ∧ usesB k .c = true ∧ usesB k .s = false ∧ usesB k .t = false := by subst h; decide
theorem uses_d {k : Int} (h : k = 6) : usesB k .x = true ∧ usesB k .y = true ∧ usesB k .x2 = false ∧ usesB k .y2 = false ∧ usesB k .z = false ∧ usesB k .c = false ∧ usesB k .s = true ∧ usesB k .t = false := by subst h; decide
theorem uses_e {k : Int} (h : k = 7 ∨ k = 8) : usesB k .x = false ∧ usesB k .y = false ∧ usesB k .x2 = false ∧ usesB k .y2 = false ∧ usesB k .z = false ∧ usesB k .c = false ∧ usesB k .s = false ∧ usesB k .t = true := by rcases h with rfl | rfl <;> decide
theorem uses_f {k : Int} (h : k < 1 ∨ 8 < k) : usesB k .x = false ∧ usesB k .y = false ∧ usesB k .x2 = false ∧ usesB k .y2 = false ∧ usesB k .z = false ∧ usesB k .c = false ∧ usesB k .s = false ∧ usesB k .t = false := by
  simp [usesB]; omega
theorem rplain_v (o : Opp) : VP Tryz.prog 63 [.agg (oD o)] (· = .ret (.agg (oD (plainO o)))) := by
  have u1 := uses_v o.k .x
  have u2 := uses_v o.k .x2
  have u3 := uses_v o.k .z
  have u4 := uses_v o.k .c
  have u5 := uses_v o.k .s
  have u6 := uses_v o.k .t
  refine VP.le ?_
  rcases k_six o.k with hk | hk | hk | hk | hk | hk
  · skip
    rw [plain_a hk]
    obtain ⟨n1, n2, n3, n4, n5, n6, n7, n8⟩ := uses_a hk
    rw [n1] at u1
    rw [n3] at u2
    rw [n5] at u3
    rw [n6] at u4
    rw [n7] at u5
    rw [n8] at u6
    clear n1 n2 n3 n4 n5 n6 n7 n8 hk
    simp only [oD, oDf, nmD, Fd.nm] at *
    refine vp_of Tryz.func63 rfl Tryz.ntmps63 rfl Tryz.results63 fun B => ?_
    repeat' (first | refine vd_storeW 0 19 ?_ | refine vw_drawkx (id := 3) [2] ?_ | refine vw_drawkx (id := 5) [2] ?_ | refine nz1 ?_ | (refine vid ?_; first | refine cz (u1) ?_ | refine cz (u2) ?_ | refine cz (u3) ?_ | refine cz (u4) ?_ | refine cz (u5) ?_ | refine cz (u6) ?_) | refine nzo ?_ | refine nc ?_ ?_ | (with_reducible intro _ <;> (try (exfalso; omega))) | refine nnil ?_ | (refine nd ?_ ?_ <;> intro hg <;> first | exact xo hg | rw [hg]))
    all_goals (simp only [leR, Idd.zero, int0, List.map_nil]; infer_instance)
  · skip
    rw [plain_b hk]
    obtain ⟨n1, n2, n3, n4, n5, n6, n7, n8⟩ := uses_b hk
    rw [n1] at u1
    rw [n3] at u2
    rw [n5] at u3
    rw [n6] at u4
    rw [n7] at u5
    rw [n8] at u6
    clear n1 n2 n3 n4 n5 n6 n7 n8 hk
    simp only [oD, oDf, nmD, Fd.nm] at *
    refine vp_of Tryz.func63 rfl Tryz.ntmps63 rfl Tryz.results63 fun B => ?_
    repeat' (first | refine vd_storeW 0 19 ?_ | refine vw_drawkx (id := 3) [2] ?_ | refine vw_drawkx (id := 5) [2] ?_ | refine nz1 ?_ | (refine vid ?_; first | refine cz (u1) ?_ | refine cz (u2) ?_ | refine cz (u3) ?_ | refine cz (u4) ?_ | refine cz (u5) ?_ | refine cz (u6) ?_) | refine nzo ?_ | refine nc ?_ ?_ | (with_reducible intro _ <;> (try (exfalso; omega))) | refine nnil ?_ | (refine nd ?_ ?_ <;> intro hg <;> first | exact xo hg | rw [hg]))
    all_goals (simp only [leR, Idd.zero, int0, List.map_nil]; infer_instance)
  · skip
    rw [plain_c hk]
    obtain ⟨n1, n2, n3, n4, n5, n6, n7, n8⟩ := uses_c hk
    rw [n1] at u1
    rw [n3] at u2
    rw [n5] at u3
    rw [n6] at u4
    rw [n7] at u5
    rw [n8] at u6
    clear n1 n2 n3 n4 n5 n6 n7 n8 hk
    simp only [oD, oDf, nmD, Fd.nm] at *
    refine vp_of Tryz.func63 rfl Tryz.ntmps63 rfl Tryz.results63 fun B => ?_
    repeat' (first | refine vd_storeW 0 19 ?_ | refine vw_drawkx (id := 3) [2] ?_ | refine vw_drawkx (id := 5) [2] ?_ | refine nz1 ?_ | (refine vid ?_; first | refine cz (u1) ?_ | refine cz (u2) ?_ | refine cz (u3) ?_ | refine cz (u4) ?_ | refine cz (u5) ?_ | refine cz (u6) ?_) | refine nzo ?_ | refine nc ?_ ?_ | (with_reducible intro _ <;> (try (exfalso; omega))) | refine nnil ?_ | (refine nd ?_ ?_ <;> intro hg <;> first | exact xo hg | rw [hg]))
    all_goals (simp only [leR, Idd.zero, int0, List.map_nil]; infer_instance)
  · skip
    rw [plain_d hk]
    obtain ⟨n1, n2, n3, n4, n5, n6, n7, n8⟩ := uses_d hk
    rw [n1] at u1
    rw [n3] at u2
    rw [n5] at u3
    rw [n6] at u4
    rw [n7] at u5
    rw [n8] at u6
    clear n1 n2 n3 n4 n5 n6 n7 n8 hk
    simp only [oD, oDf, nmD, Fd.nm] at *
    refine vp_of Tryz.func63 rfl Tryz.ntmps63 rfl Tryz.results63 fun B => ?_
    repeat' (first | refine vd_storeW 0 19 ?_ | refine vw_drawkx (id := 3) [2] ?_ | refine vw_drawkx (id := 5) [2] ?_ | refine nz1 ?_ | (refine vid ?_; first | refine cz (u1) ?_ | refine cz (u2) ?_ | refine cz (u3) ?_ | refine cz (u4) ?_ | refine cz (u5) ?_ | refine cz (u6) ?_) | refine nzo ?_ | refine nc ?_ ?_ | (with_reducible intro _ <;> (try (exfalso; omega))) | refine nnil ?_ | (refine nd ?_ ?_ <;> intro hg <;> first | exact xo hg | rw [hg]))
    all_goals (simp only [leR, Idd.zero, Col.zero, vb0, int0]; infer_instance)
  · skip
    rw [plain_e hk]
    obtain ⟨n1, n2, n3, n4, n5, n6, n7, n8⟩ := uses_e hk
    rw [n1] at u1
    rw [n3] at u2
    rw [n5] at u3
    rw [n6] at u4
    rw [n7] at u5
    rw [n8] at u6
    clear n1 n2 n3 n4 n5 n6 n7 n8 hk
    simp only [oD, oDf, nmD, Fd.nm] at *
    refine vp_of Tryz.func63 rfl Tryz.ntmps63 rfl Tryz.results63 fun B => ?_
    repeat' (first | refine vd_storeW 0 19 ?_ | refine vw_drawkx (id := 3) [2] ?_ | refine vw_drawkx (id := 5) [2] ?_ | refine nz1 ?_ | (refine vid ?_; first | refine cz (u1) ?_ | refine cz (u2) ?_ | refine cz (u3) ?_ | refine cz (u4) ?_ | refine cz (u5) ?_ | refine cz (u6) ?_) | refine nzo ?_ | refine nc ?_ ?_ | (with_reducible intro _ <;> (try (exfalso; omega))) | refine nnil ?_ | (refine nd ?_ ?_ <;> intro hg <;> first | exact xo hg | rw [hg]))
    all_goals (simp only [leR, Col.zero, vb0, List.map_nil]; infer_instance)
  · skip
    rw [plain_f hk]
    obtain ⟨n1, n2, n3, n4, n5, n6, n7, n8⟩ := uses_f hk
    rw [n1] at u1
    rw [n3] at u2
    rw [n5] at u3
    rw [n6] at u4
    rw [n7] at u5
    rw [n8] at u6
    clear n1 n2 n3 n4 n5 n6 n7 n8 hk
    simp only [oD, oDf, nmD, Fd.nm] at *
    refine vp_of Tryz.func63 rfl Tryz.ntmps63 rfl Tryz.results63 fun B => ?_
    repeat' (first | refine vd_storeW 0 19 ?_ | refine vw_drawkx (id := 3) [2] ?_ | refine vw_drawkx (id := 5) [2] ?_ | refine nz1 ?_ | (refine vid ?_; first | refine cz (u1) ?_ | refine cz (u2) ?_ | refine cz (u3) ?_ | refine cz (u4) ?_ | refine cz (u5) ?_ | refine cz (u6) ?_) | refine nzo ?_ | refine nc ?_ ?_ | (with_reducible intro _ <;> (try (exfalso; omega))) | refine nnil ?_ | (refine nd ?_ ?_ <;> intro hg <;> first | exact xo hg | rw [hg]))
    all_goals (simp only [leR, Idd.zero, Col.zero, vb0, int0, List.map_nil]; infer_instance)
end Go.Proofs.YtnjaohdadaifhaaGreat

namespace Go.Proofs.YtnjaohdadaifhaaGreat
set_option maxRecDepth 20000
open Go.RowKit
set_option maxRecDepth 10000
set_option maxHeartbeats 4000000
theorem is_v (k : Int) : VP Tryz.prog 90 [i64D k] (· = .ret (.lit (.bool (decide (1 ≤ k) && decide (k ≤ 8))))) := by
  refine vp_of Tryz.func90 rfl Tryz.ntmps90 rfl Tryz.results90 fun B => ?_
  repeat' (first | refine nz1 ?_ | refine nzo ?_ | refine nc ?_ ?_ | (with_reducible intro _ <;> (try (exfalso; omega))) | refine nnil ?_ | (refine nd ?_ ?_ <;> intro hg <;> first | exact xo hg | rw [hg]))
  all_goals (simp_all; try omega)
theorem paints_v (k : Int) (h : 1 ≤ k ∧ k ≤ 8) : VP Tryz.prog 94 [i64D k] (· = .ret (.lit (.bool (decide (k ≤ 6))))) := by
  have c := is_v k
  rw [show (decide (1 ≤ k) && decide (k ≤ 8)) = true by simp; omega] at c
  refine vp_of Tryz.func94 rfl Tryz.ntmps94 rfl Tryz.results94 fun B => ?_
  repeat' (first | refine nz1 ?_ | (refine vid ?_; first | refine cz (c) ?_) | refine nzo ?_ | refine nc ?_ ?_ | (with_reducible intro _ <;> (try (exfalso; omega))) | refine nnil ?_ | (refine nd ?_ ?_ <;> intro hg <;> first | exact xo hg | rw [hg]))
  all_goals rfl
abbrev nmsD (l : List Fd) : List (List D) := l.map fun f => [nmD f]
def fdsOf (k : Int) : List Fd := if k = 1 ∨ k = 2 then [.x, .y, .x2, .y2, .z, .c] else if k = 3 ∨ k = 4 then [.x, .y, .x2, .y2, .c] else if k = 5 then [.x, .y, .z, .c] else if k = 6 then [.x, .y, .s] else if k = 7 ∨ k = 8 then [.t] else []
theorem ways_v : VP Tryz.prog 123 [] (· = .ret (.agg [.lit (.slice none 0 0), .lit .nilFunc, .lit .nilFunc,
    .sl false true (nmsD [.x, .y, .x2, .y2, .z, .c]), .any, .any, .sl false true (nmsD [.x, .y, .x2, .y2, .z, .c]), .any, .any,
    .sl false true (nmsD [.x, .y, .x2, .y2, .c]), .any, .any, .sl false true (nmsD [.x, .y, .x2, .y2, .c]), .any, .any,
    .sl false true (nmsD [.x, .y, .z, .c]), .any, .any, .sl false true (nmsD [.x, .y, .s]), .any, .any,
    .sl false true (nmsD [.t]), .any, .any, .sl false true (nmsD [.t]), .any, .any])) := by
  refine VP.le ?_
  refine vp_of Tryz.func123 rfl Tryz.ntmps123 rfl Tryz.results123 fun B => ?_
  repeat' (first | refine nz1 ?_ | refine nzo ?_ | refine nc ?_ ?_ | (with_reducible intro _ <;> (try (exfalso; omega))) | refine nnil ?_ | (refine nd ?_ ?_ <;> intro hg <;> first | exact xo hg | rw [hg]))
  all_goals (simp only [leR, nmsD, List.map_cons, List.map_nil, nmD, Fd.nm, cellsD]; infer_instance)
end Go.Proofs.YtnjaohdadaifhaaGreat

namespace Go.Proofs.YtnjaohdadaifhaaGreat
set_option maxRecDepth 20000
open Go.RowKit
section
variable {P : Program} {cx : Cx} {s : St}
theorem q_indexa {t ty e : TypeId} {x y : Operand} {k0 : IntKind} {i : Int} {n sz : Nat} {z : List Value} {v : V} {vs : List V} [hA : ArrI P t n e sz] [hT : TyI P e true sz z] (hx : evalV s x = some v) (hv : cellsV v = some vs) (hagg : leafV v = false) (hy : evalV s y = some (I k0 i)) (h0 : 0 ≤ i) (h1 : i < (n : Int)) : OpQ P cx (.index t x y) ty s (.agg ((vs.drop (i.toNat * sz)).take sz)) := fun g a w hS => by
  have hus := cellsV_rep hv (hS.eval hx)
  have hy' := hS.eval hy
  simp only [vrep, drep] at hy'
  obtain ⟨hu, ie, hie, hsz⟩ := hA.get
  have hag : ∃ cs, a.eval x = .agg cs := by
    have hx' := hS.eval hx
    unfold cellsV at hv
    split at hv
    · simp only [vrep] at hx'; obtain ⟨cs, h, _⟩ := hx'; exact ⟨_, h⟩
    · simp only [vrep, drep] at hx'; obtain ⟨cs, h, _⟩ := hx'; exact ⟨_, h⟩
    · rw [hagg] at hv; cases hv
  obtain ⟨cs, hcs⟩ := hag
  rw [hcs] at hus
  simp only [Value.cells] at hus
  have hs : (sizeOf e).run P w = .ok sz w := by simp [sizeOf, typeInfo, hie, hsz]
  obtain ⟨d, q1, q2⟩ := hT.und
  have hag2 : (isAgg e).run P w = .ok true w := by
    unfold isAgg
    rw [Sem.run_bind, run_underlying q1 w]
    cases d <;> simp_all [aggD]
  have hpart : (part e cs (i.toNat * sz)).run P w = .ok (.agg (cs.extract (i.toNat * sz) (i.toNat * sz + sz))) w := by
    simp [part, Sem.run_bind, hag2, sizeOf, typeInfo, hie, hsz]
  refine ⟨.agg (cs.extract (i.toNat * sz) (i.toNat * sz + sz)), by simp [execOp, Instr.index, hcs, hy', asIntOf, run_underlying hu w, hs, h0, h1, hpart], ?_⟩
  simp only [vrep]
  have h1 := (vreps_part (vreps_part hus (i.toNat * sz)).2 sz).1
  refine ⟨(cs.toList.drop (i.toNat * sz)).take sz, ?_, h1⟩
  congr 1
  apply Array.ext'
  simp [List.extract_eq_take_drop]
end
section
variable {P : Program} {cx : Cx} {tm : List (Nat × V)} {st : List E} {nb : Nat} {Q : VE → St → Prop} {ops rest : List Oper}
theorem vs_indexa {d : Tmp} {t ty e : TypeId} {x y : Operand} {k0 : IntKind} {i : Int} {n sz : Nat} {z : List Value} {v : V} {vs : List V} {pos : String} {af : Array Edge} {gd : Option (Nat × Bool)} [hA : ArrI P t n e sz] [hT : TyI P e true sz z] (k : VL P cx ops rest ⟨(d, .agg ((vs.drop (i.toNat * sz)).take sz)) :: tm, st, nb⟩ Q)
    (hx : evalV ⟨tm, st, nb⟩ x = some v := by rfl) (hv : cellsV v = some vs := by rfl) (hagg : leafV v = false := by rfl) (hy : evalV ⟨tm, st, nb⟩ y = some (I k0 i) := by rfl) (h0 : 0 ≤ i := by omega) (h1 : i < (n : Int) := by omega) (hd : Nat.blt d cx.N = true := by rfl)
    (hw : Wd ops tm gd := by first | exact trivial | exact wd_of rfl rfl (by with_reducible rfl)) : VL P cx ops (⟨some d, .index t x y, ty, pos, af, gd⟩ :: rest) ⟨tm, st, nb⟩ Q := vs_x k (sx_q (h := q_indexa hx hv hagg hy h0 h1) (hd := hd) (hw := hw))
end
end Go.Proofs.YtnjaohdadaifhaaGreat

namespace Go.Proofs.YtnjaohdadaifhaaGreat
set_option maxRecDepth 20000
open Go.RowKit
set_option maxRecDepth 10000
set_option maxHeartbeats 4000000
theorem fds_a {k : Int} (h : k = 1 ∨ k = 2) : fdsOf k = [.x, .y, .x2, .y2, .z, .c] := by rcases h with rfl | rfl <;> rfl
theorem fds_b {k : Int} (h : k = 3 ∨ k = 4) : fdsOf k = [.x, .y, .x2, .y2, .c] := by rcases h with rfl | rfl <;> rfl
theorem fds_c {k : Int} (h : k = 5) : fdsOf k = [.x, .y, .z, .c] := by subst h; rfl
theorem fds_d {k : Int} (h : k = 6) : fdsOf k = [.x, .y, .s] := by subst h; rfl
theorem fds_e {k : Int} (h : k = 7 ∨ k = 8) : fdsOf k = [.t] := by rcases h with rfl | rfl <;> rfl
theorem uo_v (k : Int) (h : 1 ≤ k ∧ k ≤ 8) : VP Tryz.prog 115 [i64D k] (· = .ret (.sl false true (nmsD (fdsOf k)))) := by
  have ci := is_v k
  have cw := ways_v
  rw [show (decide (1 ≤ k) && decide (k ≤ 8)) = true by simp; omega] at ci
  have hk : k = 1 ∨ k = 2 ∨ k = 3 ∨ k = 4 ∨ k = 5 ∨ k = 6 ∨ k = 7 ∨ k = 8 := by omega
  rcases hk with rfl | rfl | rfl | rfl | rfl | rfl | rfl | rfl
  all_goals
    refine vp_of Tryz.func115 rfl Tryz.ntmps115 rfl Tryz.results115 fun B => ?_
    repeat' (first | refine nz1 ?_ | (refine vid ?_; first | refine cz (ci) ?_ | refine cz (cw) ?_ | refine vs_indexa ?_) | refine nzo ?_ | refine nc ?_ ?_ | (with_reducible intro _ <;> (try (exfalso; omega))) | refine nnil ?_ | (refine nd ?_ ?_ <;> intro hg <;> first | exact xo hg | rw [hg]))
    all_goals rfl
theorem oplain_v (o : Opp) (h : 1 ≤ o.k ∧ o.k ≤ 8) (hl : o.px.length ≤ 1000000) : VP Tryz.prog 91 [.agg (oD o)] (· = .ret (.agg (oM (plainO o)))) := by
  have cc := cloneCo_v o.px hl
  refine VP.le ?_
  have h5 : (o.k = 1 ∨ o.k = 2) ∨ (o.k = 3 ∨ o.k = 4) ∨ o.k = 5 ∨ o.k = 6 ∨ (o.k = 7 ∨ o.k = 8) := by omega
  rcases h5 with hk | hk | hk | hk | hk
  · skip
    rw [plain_a hk]
    have cu := uo_v o.k (by omega)
    rw [fds_a hk] at cu
    have hl : (nmsD [.x, .y, .x2, .y2, .z, .c]).length = 6 := rfl
    simp only [nmsD, List.map_cons, List.map_nil, nmD, Fd.nm] at hl cu
    simp only [oD, oDf]
    refine vp_of Tryz.func91 rfl Tryz.ntmps91 rfl Tryz.results91 fun B => ?_
    repeat' (first | refine nz1 ?_ | (refine vid ?_; first | refine cz (cu) ?_) | refine nzo ?_ | refine nc ?_ ?_ | (with_reducible intro _ <;> (try (exfalso; omega))) | refine nnil ?_ | (refine nd ?_ ?_ <;> intro hg <;> first | exact xo hg | rw [hg]))
    refine vw_rounds (6 + 1) ?_
    repeat' (first | refine nz1 ?_ | (refine vid ?_; first | refine cz (cc) ?_) | refine nzo ?_ | refine nc ?_ ?_ | (with_reducible intro _ <;> (try (exfalso; omega))) | refine nnil ?_ | (refine nd ?_ ?_ <;> intro hg <;> first | exact xo hg | rw [hg]))
    all_goals (simp only [oM, oDf, leR, Idd.zero, int0, List.map_nil]; infer_instance)
  · skip
    rw [plain_b hk]
    have cu := uo_v o.k (by omega)
    rw [fds_b hk] at cu
    have hl : (nmsD [.x, .y, .x2, .y2, .c]).length = 5 := rfl
    simp only [nmsD, List.map_cons, List.map_nil, nmD, Fd.nm] at hl cu
    simp only [oD, oDf]
    refine vp_of Tryz.func91 rfl Tryz.ntmps91 rfl Tryz.results91 fun B => ?_
    repeat' (first | refine nz1 ?_ | (refine vid ?_; first | refine cz (cu) ?_) | refine nzo ?_ | refine nc ?_ ?_ | (with_reducible intro _ <;> (try (exfalso; omega))) | refine nnil ?_ | (refine nd ?_ ?_ <;> intro hg <;> first | exact xo hg | rw [hg]))
    refine vw_rounds (5 + 1) ?_
    repeat' (first | refine nz1 ?_ | (refine vid ?_; first | refine cz (cc) ?_) | refine nzo ?_ | refine nc ?_ ?_ | (with_reducible intro _ <;> (try (exfalso; omega))) | refine nnil ?_ | (refine nd ?_ ?_ <;> intro hg <;> first | exact xo hg | rw [hg]))
    all_goals (simp only [oM, oDf, leR, Idd.zero, int0, List.map_nil]; infer_instance)
  · skip
    rw [plain_c hk]
    have cu := uo_v o.k (by omega)
    rw [fds_c hk] at cu
    have hl : (nmsD [.x, .y, .z, .c]).length = 4 := rfl
    simp only [nmsD, List.map_cons, List.map_nil, nmD, Fd.nm] at hl cu
    simp only [oD, oDf]
    refine vp_of Tryz.func91 rfl Tryz.ntmps91 rfl Tryz.results91 fun B => ?_
    repeat' (first | refine nz1 ?_ | (refine vid ?_; first | refine cz (cu) ?_) | refine nzo ?_ | refine nc ?_ ?_ | (with_reducible intro _ <;> (try (exfalso; omega))) | refine nnil ?_ | (refine nd ?_ ?_ <;> intro hg <;> first | exact xo hg | rw [hg]))
    refine vw_rounds (4 + 1) ?_
    repeat' (first | refine nz1 ?_ | (refine vid ?_; first | refine cz (cc) ?_) | refine nzo ?_ | refine nc ?_ ?_ | (with_reducible intro _ <;> (try (exfalso; omega))) | refine nnil ?_ | (refine nd ?_ ?_ <;> intro hg <;> first | exact xo hg | rw [hg]))
    all_goals (simp only [oM, oDf, leR, Idd.zero, int0, List.map_nil]; infer_instance)
  · skip
    rw [plain_d hk]
    have cu := uo_v o.k (by omega)
    rw [fds_d hk] at cu
    have hl : (nmsD [.x, .y, .s]).length = 3 := rfl
    simp only [nmsD, List.map_cons, List.map_nil, nmD, Fd.nm] at hl cu
    simp only [oD, oDf]
    refine vp_of Tryz.func91 rfl Tryz.ntmps91 rfl Tryz.results91 fun B => ?_
    repeat' (first | refine nz1 ?_ | (refine vid ?_; first | refine cz (cu) ?_) | refine nzo ?_ | refine nc ?_ ?_ | (with_reducible intro _ <;> (try (exfalso; omega))) | refine nnil ?_ | (refine nd ?_ ?_ <;> intro hg <;> first | exact xo hg | rw [hg]))
    refine vw_rounds (3 + 1) ?_
    repeat' (first | refine nz1 ?_ | (refine vid ?_; first | refine cz (cc) ?_) | refine nzo ?_ | refine nc ?_ ?_ | (with_reducible intro _ <;> (try (exfalso; omega))) | refine nnil ?_ | (refine nd ?_ ?_ <;> intro hg <;> first | exact xo hg | rw [hg]))
    all_goals (simp only [oM, oDf, leR, Idd.zero, Col.zero, vb0, int0]; infer_instance)
  · skip
    rw [plain_e hk]
    have cu := uo_v o.k (by omega)
    rw [fds_e hk] at cu
    have hl : (nmsD [.t]).length = 1 := rfl
    simp only [nmsD, List.map_cons, List.map_nil, nmD, Fd.nm] at hl cu
    simp only [oD, oDf]
    refine vp_of Tryz.func91 rfl Tryz.ntmps91 rfl Tryz.results91 fun B => ?_
    repeat' (first | refine nz1 ?_ | (refine vid ?_; first | refine cz (cu) ?_) | refine nzo ?_ | refine nc ?_ ?_ | (with_reducible intro _ <;> (try (exfalso; omega))) | refine nnil ?_ | (refine nd ?_ ?_ <;> intro hg <;> first | exact xo hg | rw [hg]))
    refine vw_rounds (1 + 1) ?_
    repeat' (first | refine nz1 ?_ | (refine vid ?_; first | refine cz (cc) ?_) | refine nzo ?_ | refine nc ?_ ?_ | (with_reducible intro _ <;> (try (exfalso; omega))) | refine nnil ?_ | (refine nd ?_ ?_ <;> intro hg <;> first | exact xo hg | rw [hg]))
    all_goals (simp only [oM, oDf, leR, Col.zero, vb0, List.map_nil]; infer_instance)
end Go.Proofs.YtnjaohdadaifhaaGreat

namespace Go.Proofs.YtnjaohdadaifhaaGreat
set_option maxRecDepth 20000
open Go.RowKit
section
variable {f0 : FuncId} {F : Fence} {n : Nat} {P : Program} {Q : Exit → Act → World → Prop} {a : Act} {w : World}
theorem wpAt_seq {x y : Code} (h : wpAt f0 F n P x (Exit.then (wpAt f0 F n P y Q) Q) a w) : wpAt f0 F n P (Code.seq x y) Q a w := by
  intro b k cs hro hb hf hr
  have h0 : (lone (b.atR a (.code (.seq x y) :: k)) cs w).fenced P F := fenced_calm hb hr rfl
  obtain ⟨e, a₁, w₁, hq, harr⟩ := h b (.code y :: k) cs hro hb hf hr
  cases e with
  | normal =>
    obtain ⟨e₂, a₂, w₂, hq₂, harr₂⟩ := hq b k cs hro hb hf hr
    exact ⟨e₂, a₂, w₂, hq₂, .of_steps (.head h0 stepR_seq harr) harr₂⟩
  | exit id => exact ⟨_, a₁, w₁, hq, .of_steps (.one h0 stepR_seq) (.pass (x := .code y) rfl (fun _ _ => .inl (by simp)) harr)⟩
  | goto l => exact ⟨_, a₁, w₁, hq, .of_steps (.one h0 stepR_seq) (.pass (x := .code y) rfl (fun _ _ => .inl (by simp)) harr)⟩
  | ret => exact ⟨_, a₁, w₁, hq, .of_steps (.one h0 stepR_seq) (.pass (x := .code y) rfl (fun _ _ => .inl (by simp)) harr)⟩
  | panic ch => exact ⟨_, a₁, w₁, hq, .of_steps (.one h0 stepR_seq) (.pass (x := .code y) rfl (fun _ _ => .inl (by simp)) harr)⟩
  | outgrown => exact ⟨_, a₁, w₁, hq, .of_steps (.one h0 stepR_seq) (.pass (x := .code y) rfl (fun _ _ => .inl (by simp)) harr)⟩
theorem wpAt_block {id : Nat} {c : Code} (h : wpAt f0 F n P c (Exit.inBlock id Q) a w) : wpAt f0 F n P (Code.block id c) Q a w := by
  intro b k cs hro hb hf hr
  have h0 : (lone (b.atR a (.code (.block id c) :: k)) cs w).fenced P F := fenced_calm hb hr rfl
  obtain ⟨e, a₁, w₁, hq, harr⟩ := h b (.inBlock id :: k) cs hro hb hf hr
  cases e with
  | normal => exact ⟨.normal, a₁, w₁, hq, .head h0 stepR_block (StepsIn.trans harr (.one (fenced_calm hb hr rfl) stepR_inBlock))⟩
  | exit id' =>
    by_cases hid : id' = id
    · simp only [Exit.inBlock, hid, if_true] at hq
      exact ⟨.normal, a₁, w₁, hq, .head h0 stepR_block (harr.1 k (by simp [exitTo, hid]))⟩
    · simp only [Exit.inBlock, hid, if_false] at hq
      have this : (id == id') = false := by simp; exact fun h => hid h.symm
      have hx : exitTo id' (.inBlock id :: k) = exitTo id' k := by simp [exitTo, this]
      exact ⟨.exit id', a₁, w₁, hq, fun k' hk => .head h0 stepR_block (harr.1 k' (by rw [hx]; exact hk)),
        fun hr' hk => let ⟨k₁, h1, h2⟩ := harr.2 hr' (by rw [hx]; exact hk); ⟨k₁, h1, .head h0 stepR_block h2⟩⟩
  | goto l =>
    have hx : gotoIn l (.inBlock id :: k) = gotoIn l k := by simp [gotoIn]
    exact ⟨_, a₁, w₁, hq, fun k' hk => .head h0 stepR_block (harr.1 k' (by rw [hx]; exact hk)),
      fun hr' hk => let ⟨k₁, h1, h2⟩ := harr.2 hr' (by rw [hx]; exact hk); ⟨k₁, h1, .head h0 stepR_block h2⟩⟩
  | ret => exact ⟨_, a₁, w₁, hq, .of_steps (.one h0 stepR_block) harr⟩
  | panic ch => exact ⟨_, a₁, w₁, hq, .of_steps (.one h0 stepR_block) harr⟩
  | outgrown => exact ⟨_, a₁, w₁, hq, .of_steps (.one h0 stepR_block) harr⟩
end
section
variable {P : Program} {f0 : FuncId} {cx : Cx} {s : St} {Q : VE → St → Prop}
def thenF (P : Program) (f0 : FuncId) (cx : Cx) (c : Code) (Q : VE → St → Prop) : VE → St → Prop
  | .normal, s => VWf P f0 cx c s Q
  | e, s => Q e s
theorem nf_then {c : Code} (h : VWf P f0 cx c s Q) : thenF P f0 cx c Q .normal s := h
theorem nf_pan {c : Code} {v : V} (h : Q (.panic v) s) : thenF P f0 cx c Q (.panic v) s := h
theorem vf_seq {x y : Code} (h : VWf P f0 cx x s (thenF P f0 cx y Q)) : VWf P f0 cx (.seq x y) s Q := fun n g0 w0 g a w hE hS => by
  refine wpAt_seq (wpAt_mono (h n g0 w0 g a w hE hS) ?_)
  rintro e a' w' ⟨g', s', e', k1, k2, k3, k4⟩
  cases e' with
  | normal => simp only [erel] at k3; subst k3; exact k4 n g0 w0 g' a' w' k1 k2
  | exit id => simp only [erel] at k3; subst k3; exact ⟨g', s', .exit id, k1, k2, rfl, k4⟩
  | goto id => simp only [erel] at k3; subst k3; exact ⟨g', s', .goto id, k1, k2, rfl, k4⟩
  | ret => simp only [erel] at k3; subst k3; exact ⟨g', s', .ret, k1, k2, rfl, k4⟩
  | panic v => obtain ⟨u, rfl, k⟩ := k3; exact ⟨g', s', .panic v, k1, k2, ⟨u, rfl, k⟩, k4⟩
theorem vf_block {id : Nat} {x : Code} (h : VWf P f0 cx x s (blockV id Q)) : VWf P f0 cx (.block id x) s Q := fun n g0 w0 g a w hE hS => by
  refine wpAt_block (wpAt_mono (h n g0 w0 g a w hE hS) ?_)
  rintro e a' w' ⟨g', s', e', k1, k2, k3, k4⟩
  cases e' with
  | normal => simp only [erel] at k3; subst k3; exact ⟨g', s', .normal, k1, k2, rfl, k4⟩
  | exit i =>
    simp only [erel] at k3; subst k3
    simp only [blockV] at k4
    simp only [Exit.inBlock]
    by_cases h : i = id
    · subst h
      rw [if_pos rfl]
      rw [show Nat.beq i i = true from Nat.beq_refl i] at k4
      exact ⟨g', s', .normal, k1, k2, rfl, k4⟩
    · rw [if_neg h]
      have hb : Nat.beq i id = false := by
        cases hb : Nat.beq i id
        · rfl
        · exact (h (Nat.eq_of_beq_eq_true hb)).elim
      rw [hb] at k4
      exact ⟨g', s', .exit i, k1, k2, rfl, k4⟩
  | goto id => simp only [erel] at k3; subst k3; exact ⟨g', s', .goto id, k1, k2, rfl, k4⟩
  | ret => simp only [erel] at k3; subst k3; exact ⟨g', s', .ret, k1, k2, rfl, k4⟩
  | panic v => obtain ⟨u, rfl, k⟩ := k3; exact ⟨g', s', .panic v, k1, k2, ⟨u, rfl, k⟩, k4⟩
theorem vf_rng {fn0 : Func} {tm : List (Nat × V)} {st : List E} {nb : Nat} {gop : Operand} {ps : Array Tmp} {assign body : Code} {v : V} {f : FuncId} {az : List V} {tm0 : List (Nat × V)} (hf0 : P.funcs[f0]? = some fn0)
    (hc : ∀ (R : Loop) (T : Array Value), LoopOk cx.N ps assign body R T → (∃ fn, P.funcs[R.fn]? = some fn) → VMB P f cx.B cx.m az (.y nb (some R) T ((cx.N, .yl nb) :: tm0) :: st) (nb + 1) (rangeK P cx nb T Q))
    (hrd : cx.rd = none := by rfl) (hM : cx.M.isSome = true := by rfl) (hdf : cx.df = [] := by rfl) (hx : evalV ⟨tm, st, nb⟩ gop = some v := by rfl) (hf : fnV v [.yl nb] = some (f, az) := by rfl) (htm0 : lowT cx.N tm = some tm0 := by rfl) (hmn : Nat.ble cx.m nb = true := by rfl) :
    VWf P f0 cx (.rangeFunc gop ps assign body) ⟨tm, st, nb⟩ Q := vf_range hf0 hrd hM hdf hx hf htm0 hmn hc
end
end Go.Proofs.YtnjaohdadaifhaaGreat
