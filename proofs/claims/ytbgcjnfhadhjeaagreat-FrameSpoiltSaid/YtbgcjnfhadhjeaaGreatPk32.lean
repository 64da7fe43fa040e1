/- Walks by data and names, part 32: Layer 12, by V: an operation with what it uses alone. Walks in frames of one function alone: sequences, blocks, ranges whose bodies may panic. Layer 12, by V: which operations are the same; which may be. -/
import Derived.Test.YtbgcjnfhadhjeaaGreatPk31
import Derived.Test.YtbgcjnfhadhjeaaGreatPk25
namespace Go.Proofs.YtbgcjnfhadhjeaaGreat
set_option maxRecDepth 20000
open Go.RowKit
set_option maxRecDepth 10000
set_option maxHeartbeats 4000000
theorem Ab8 {k : Int} (h : k = 1 ∨ k = 2) : M4 k = [.x, .y, .x2, .y2, .z, .c] := by rcases h with rfl | rfl <;> rfl
theorem Ab7 {k : Int} (h : k = 3 ∨ k = 4) : M4 k = [.x, .y, .x2, .y2, .c] := by rcases h with rfl | rfl <;> rfl
theorem Ab6 {k : Int} (h : k = 5) : M4 k = [.x, .y, .z, .c] := by subst h; rfl
theorem Ab5 {k : Int} (h : k = 6) : M4 k = [.x, .y, .s] := by subst h; rfl
theorem Ab4 {k : Int} (h : k = 7 ∨ k = 8) : M4 k = [.t] := by rcases h with rfl | rfl <;> rfl
theorem TE (k : Int) (h : 1 ≤ k ∧ k ≤ 8) : VP Tryz.prog 164 [Ar k] (· = .ret (.sl false true (F4 (M4 k)))) := by
 have ci := Aab k
 have cw := YZ
 rw [show (decide (1 ≤ k) && decide (k ≤ 8)) = true by simp; omega] at ci
 have hk : k = 1 ∨ k = 2 ∨ k = 3 ∨ k = 4 ∨ k = 5 ∨ k = 6 ∨ k = 7 ∨ k = 8 := by omega
 rcases hk with rfl | rfl | rfl | rfl | rfl | rfl | rfl | rfl
 all_goals
  refine Am fun B => ?_
  repeat' (first | refine Al ?_ | (refine Ay ?_; first | refine cz (ci) ?_ | refine cz (cw) ?_ | refine MA ?_) | refine Ak ?_ | refine nc ?_ ?_ | (with_reducible intro _ <;> (try (exfalso; omega))) | refine Ad ?_ | (refine nd ?_ ?_ <;> intro hg <;> first | exact xo hg | rw [hg]))
  all_goals rfl
theorem OY (o : Bb) (h : 1 ≤ o.k ∧ o.k ≤ 8) (hl : o.px.length ≤ 1000000) : VP Tryz.prog 116 [.agg (oD o)] (· = .ret (.agg (oM (Bw o)))) := by
 have cc := M7 o.px hl
 refine VP.le ?_
 have h5 : (o.k = 1 ∨ o.k = 2) ∨ (o.k = 3 ∨ o.k = 4) ∨ o.k = 5 ∨ o.k = 6 ∨ (o.k = 7 ∨ o.k = 8) := by omega
 rcases h5 with hk | hk | hk | hk | hk
 ·skip
  rw [RG hk]
  have cu := TE o.k (by omega)
  rw [Ab8 hk] at cu
  have hl : (F4 [.x, .y, .x2, .y2, .z, .c]).length = 6 := rfl
  simp only [F4, List.map_cons, List.map_nil, Mg, Fd.nm] at hl cu
  simp only [oD, De]
  refine Am fun B => ?_
  repeat' (first | refine Al ?_ | (refine Ay ?_; first | refine cz (cu) ?_) | refine Ak ?_ | refine nc ?_ ?_ | (with_reducible intro _ <;> (try (exfalso; omega))) | refine Ad ?_ | (refine nd ?_ ?_ <;> intro hg <;> first | exact xo hg | rw [hg]))
  refine AF (6 + 1) ?_
  repeat' (first | refine Al ?_ | (refine Ay ?_; first | refine cz (cc) ?_) | refine Ak ?_ | refine nc ?_ ?_ | (with_reducible intro _ <;> (try (exfalso; omega))) | refine Ad ?_ | (refine nd ?_ ?_ <;> intro hg <;> first | exact xo hg | rw [hg]))
  all_goals (simp only [oM, De, HN, Bk.zero, NY, List.map_nil]; infer_instance)
 ·skip
  rw [RF hk]
  have cu := TE o.k (by omega)
  rw [Ab7 hk] at cu
  have hl : (F4 [.x, .y, .x2, .y2, .c]).length = 5 := rfl
  simp only [F4, List.map_cons, List.map_nil, Mg, Fd.nm] at hl cu
  simp only [oD, De]
  refine Am fun B => ?_
  repeat' (first | refine Al ?_ | (refine Ay ?_; first | refine cz (cu) ?_) | refine Ak ?_ | refine nc ?_ ?_ | (with_reducible intro _ <;> (try (exfalso; omega))) | refine Ad ?_ | (refine nd ?_ ?_ <;> intro hg <;> first | exact xo hg | rw [hg]))
  refine AF (5 + 1) ?_
  repeat' (first | refine Al ?_ | (refine Ay ?_; first | refine cz (cc) ?_) | refine Ak ?_ | refine nc ?_ ?_ | (with_reducible intro _ <;> (try (exfalso; omega))) | refine Ad ?_ | (refine nd ?_ ?_ <;> intro hg <;> first | exact xo hg | rw [hg]))
  all_goals (simp only [oM, De, HN, Bk.zero, NY, List.map_nil]; infer_instance)
 ·skip
  rw [RE hk]
  have cu := TE o.k (by omega)
  rw [Ab6 hk] at cu
  have hl : (F4 [.x, .y, .z, .c]).length = 4 := rfl
  simp only [F4, List.map_cons, List.map_nil, Mg, Fd.nm] at hl cu
  simp only [oD, De]
  refine Am fun B => ?_
  repeat' (first | refine Al ?_ | (refine Ay ?_; first | refine cz (cu) ?_) | refine Ak ?_ | refine nc ?_ ?_ | (with_reducible intro _ <;> (try (exfalso; omega))) | refine Ad ?_ | (refine nd ?_ ?_ <;> intro hg <;> first | exact xo hg | rw [hg]))
  refine AF (4 + 1) ?_
  repeat' (first | refine Al ?_ | (refine Ay ?_; first | refine cz (cc) ?_) | refine Ak ?_ | refine nc ?_ ?_ | (with_reducible intro _ <;> (try (exfalso; omega))) | refine Ad ?_ | (refine nd ?_ ?_ <;> intro hg <;> first | exact xo hg | rw [hg]))
  all_goals (simp only [oM, De, HN, Bk.zero, NY, List.map_nil]; infer_instance)
 ·skip
  rw [RD hk]
  have cu := TE o.k (by omega)
  rw [Ab5 hk] at cu
  have hl : (F4 [.x, .y, .s]).length = 3 := rfl
  simp only [F4, List.map_cons, List.map_nil, Mg, Fd.nm] at hl cu
  simp only [oD, De]
  refine Am fun B => ?_
  repeat' (first | refine Al ?_ | (refine Ay ?_; first | refine cz (cu) ?_) | refine Ak ?_ | refine nc ?_ ?_ | (with_reducible intro _ <;> (try (exfalso; omega))) | refine Ad ?_ | (refine nd ?_ ?_ <;> intro hg <;> first | exact xo hg | rw [hg]))
  refine AF (3 + 1) ?_
  repeat' (first | refine Al ?_ | (refine Ay ?_; first | refine cz (cc) ?_) | refine Ak ?_ | refine nc ?_ ?_ | (with_reducible intro _ <;> (try (exfalso; omega))) | refine Ad ?_ | (refine nd ?_ ?_ <;> intro hg <;> first | exact xo hg | rw [hg]))
  all_goals (simp only [oM, De, HN, Bk.zero, BL.zero, vb0, NY]; infer_instance)
 ·skip
  rw [RB hk]
  have cu := TE o.k (by omega)
  rw [Ab4 hk] at cu
  have hl : (F4 [.t]).length = 1 := rfl
  simp only [F4, List.map_cons, List.map_nil, Mg, Fd.nm] at hl cu
  simp only [oD, De]
  refine Am fun B => ?_
  repeat' (first | refine Al ?_ | (refine Ay ?_; first | refine cz (cu) ?_) | refine Ak ?_ | refine nc ?_ ?_ | (with_reducible intro _ <;> (try (exfalso; omega))) | refine Ad ?_ | (refine nd ?_ ?_ <;> intro hg <;> first | exact xo hg | rw [hg]))
  refine AF (1 + 1) ?_
  repeat' (first | refine Al ?_ | (refine Ay ?_; first | refine cz (cc) ?_) | refine Ak ?_ | refine nc ?_ ?_ | (with_reducible intro _ <;> (try (exfalso; omega))) | refine Ad ?_ | (refine nd ?_ ?_ <;> intro hg <;> first | exact xo hg | rw [hg]))
  all_goals (simp only [oM, De, HN, BL.zero, vb0, List.map_nil]; infer_instance)

set_option maxRecDepth 20000
section
variable {f0 : FuncId} {F : Fence} {n : Nat} {P : Program} {Q : Exit → Act → World → Prop} {a : Act} {w : World}
theorem SY {x y : Code} (h : KL f0 F n P x (Exit.then (KL f0 F n P y Q) Q) a w) : KL f0 F n P (Code.seq x y) Q a w := by
 intro b k cs hro hb hf hr
 have h0 : (lone (b.atR a (.code (.seq x y) :: k)) cs w).fenced P F := fenced_calm hb hr rfl
 obtain ⟨e, a₁, w₁, hq, harr⟩ := h b (.code y :: k) cs hro hb hf hr
 cases e with
 | normal =>
  obtain ⟨e₂, a₂, w₂, hq₂, harr₂⟩ := hq b k cs hro hb hf hr
  exact ⟨e₂, a₂, w₂, hq₂, .of_steps (.head h0 stepR_seq harr) harr₂⟩
 | exit id => exact ⟨_, a₁, w₁, hq, .of_steps (.one h0 stepR_seq) (.pass (x := .code y) rfl (fun _ _ => .inl (by simp)) harr)⟩
 | goto l => exact ⟨_, a₁, w₁, hq, .of_steps (.one h0 stepR_seq) (.pass (x := .code y) rfl (fun _ _ => .inl (by simp)) harr)⟩
 | ret => exact ⟨_, a₁, w₁, hq, .of_steps (.one h0 stepR_seq) (.pass (x := .code y) rfl (fun _ _ => .inl (by simp)) harr)⟩
 | panic ch => exact ⟨_, a₁, w₁, hq, .of_steps (.one h0 stepR_seq) (.pass (x := .code y) rfl (fun _ _ => .inl (by simp)) harr)⟩
 | outgrown => exact ⟨_, a₁, w₁, hq, .of_steps (.one h0 stepR_seq) (.pass (x := .code y) rfl (fun _ _ => .inl (by simp)) harr)⟩
theorem PJ {id : Nat} {c : Code} (h : KL f0 F n P c (Exit.inBlock id Q) a w) : KL f0 F n P (Code.block id c) Q a w := by
 intro b k cs hro hb hf hr
 have h0 : (lone (b.atR a (.code (.block id c) :: k)) cs w).fenced P F := fenced_calm hb hr rfl
 obtain ⟨e, a₁, w₁, hq, harr⟩ := h b (.inBlock id :: k) cs hro hb hf hr
 cases e with
 | normal => exact ⟨.normal, a₁, w₁, hq, .head h0 stepR_block (StepsIn.trans harr (.one (fenced_calm hb hr rfl) stepR_inBlock))⟩
 | exit id' =>
  by_cases hid : id' = id
  ·simp only [Exit.inBlock, hid, if_true] at hq
   exact ⟨.normal, a₁, w₁, hq, .head h0 stepR_block (harr.1 k (by simp [exitTo, hid]))⟩
  ·simp only [Exit.inBlock, hid, if_false] at hq
   have this : (id == id') = false := by simp; exact fun h => hid h.symm
   have hx : exitTo id' (.inBlock id :: k) = exitTo id' k := by simp [exitTo, this]
   exact ⟨.exit id', a₁, w₁, hq, fun k' hk => .head h0 stepR_block (harr.1 k' (by rw [hx]; exact hk)),
    fun hr' hk => let ⟨k₁, h1, h2⟩ := harr.2 hr' (by rw [hx]; exact hk); ⟨k₁, h1, .head h0 stepR_block h2⟩⟩
 | goto l =>
  have hx : gotoIn l (.inBlock id :: k) = gotoIn l k := by simp [gotoIn]
  exact ⟨_, a₁, w₁, hq, fun k' hk => .head h0 stepR_block (harr.1 k' (by rw [hx]; exact hk)),
   fun hr' hk => let ⟨k₁, h1, h2⟩ := harr.2 hr' (by rw [hx]; exact hk); ⟨k₁, h1, .head h0 stepR_block h2⟩⟩
 | ret => exact ⟨_, a₁, w₁, hq, .of_steps (.one h0 stepR_block) harr⟩
 | panic ch => exact ⟨_, a₁, w₁, hq, .of_steps (.one h0 stepR_block) harr⟩
 | outgrown => exact ⟨_, a₁, w₁, hq, .of_steps (.one h0 stepR_block) harr⟩
end
section
variable {P : Program} {f0 : FuncId} {cx : Cx} {s : St} {Q : VE → St → Prop}
def TL (P : Program) (f0 : FuncId) (cx : Cx) (c : Code) (Q : VE → St → Prop) : VE → St → Prop
 | .normal, s => ST P f0 cx c s Q
 | e, s => Q e s
theorem Dw {c : Code} (h : ST P f0 cx c s Q) : TL P f0 cx c Q .normal s := h
theorem Qt {c : Code} {v : V} (h : Q (.panic v) s) : TL P f0 cx c Q (.panic v) s := h
theorem GT {x y : Code} (h : ST P f0 cx x s (TL P f0 cx y Q)) : ST P f0 cx (.seq x y) s Q := fun n g0 w0 g a w hE hS => by
 refine SY (Hv (h n g0 w0 g a w hE hS) ?_)
 rintro e a' w' ⟨g', s', e', k1, k2, k3, k4⟩
 cases e' with
 | normal => simp only [BJ] at k3; subst k3; exact k4 n g0 w0 g' a' w' k1 k2
 | exit id => simp only [BJ] at k3; subst k3; exact ⟨g', s', .exit id, k1, k2, rfl, k4⟩
 | goto id => simp only [BJ] at k3; subst k3; exact ⟨g', s', .goto id, k1, k2, rfl, k4⟩
 | ret => simp only [BJ] at k3; subst k3; exact ⟨g', s', .ret, k1, k2, rfl, k4⟩
 | panic v => obtain ⟨u, rfl, k⟩ := k3; exact ⟨g', s', .panic v, k1, k2, ⟨u, rfl, k⟩, k4⟩
theorem Ot {id : Nat} {x : Code} (h : ST P f0 cx x s (ES id Q)) : ST P f0 cx (.block id x) s Q := fun n g0 w0 g a w hE hS => by
 refine PJ (Hv (h n g0 w0 g a w hE hS) ?_)
 rintro e a' w' ⟨g', s', e', k1, k2, k3, k4⟩
 cases e' with
 | normal => simp only [BJ] at k3; subst k3; exact ⟨g', s', .normal, k1, k2, rfl, k4⟩
 | exit i =>
  simp only [BJ] at k3; subst k3
  simp only [ES] at k4
  simp only [Exit.inBlock]
  by_cases h : i = id
  ·subst h
   rw [if_pos rfl]
   rw [show Nat.beq i i = true from Nat.beq_refl i] at k4
   exact ⟨g', s', .normal, k1, k2, rfl, k4⟩
  ·rw [if_neg h]
   have hb : Nat.beq i id = false := by
    cases hb : Nat.beq i id
    ·rfl
    ·exact (h (Nat.eq_of_beq_eq_true hb)).elim
   rw [hb] at k4
   exact ⟨g', s', .exit i, k1, k2, rfl, k4⟩
 | goto id => simp only [BJ] at k3; subst k3; exact ⟨g', s', .goto id, k1, k2, rfl, k4⟩
 | ret => simp only [BJ] at k3; subst k3; exact ⟨g', s', .ret, k1, k2, rfl, k4⟩
 | panic v => obtain ⟨u, rfl, k⟩ := k3; exact ⟨g', s', .panic v, k1, k2, ⟨u, rfl, k⟩, k4⟩
theorem To {fn0 : Func} {tm : List (Nat × V)} {st : List E} {nb : Nat} {gop : Operand} {ps : Array Tmp} {assign body : Code} {v : V} {f : FuncId} {az : List V} {tm0 : List (Nat × V)} (hf0 : P.funcs[f0]? = some fn0)
  (hc : ∀ (R : Loop) (T : Array Value), Fq cx.N ps assign body R T → (∃ fn, P.funcs[R.fn]? = some fn) → SU P f cx.B cx.m az (.y nb (some R) T ((cx.N, .yl nb) :: tm0) :: st) (nb + 1) (FN P cx nb T Q))
  (hrd : cx.rd = none := by rfl) (hM : cx.M.isSome = true := by rfl) (hdf : cx.df = [] := by rfl) (hx : Af ⟨tm, st, nb⟩ gop = some v := by rfl) (hf : Hi v [.yl nb] = some (f, az) := by rfl) (htm0 : Hc cx.N tm = some tm0 := by rfl) (hmn : Nat.ble cx.m nb = true := by rfl) :
  ST P f0 cx (.rangeFunc gop ps assign body) ⟨tm, st, nb⟩ Q := Tp hf0 hrd hM hdf hx hf htm0 hmn hc
end

set_option maxRecDepth 10000
theorem Yy (a b c d : Int) : decide ([a, b] = [c, d]) = decide (a = c ∧ b = d) := by rw [decide_eq_decide]; simp
theorem RI (a b : Bb) : VP Tryz.prog 48 [.agg (oD a), .agg (oD b)] (· = .ret (.lit (.bool (decide (a = b))))) := by
 have cs := TR a b
 have f1 := R0 a
 have f2 := R0 b
 have f3 := Yq a
 have f4 := Yq b
 have e1 := Pd a.id b.id
 have e2 := Pd a.tg b.tg
 have e3 := N8 a.c b.c
 have e4 := Yy a.x a.y b.x b.y
 have e5 := Yy a.x2 a.y2 b.x2 b.y2
 have he : a = b ↔ a.id = b.id ∧ a.k = b.k ∧ a.x = b.x ∧ a.y = b.y ∧ a.x2 = b.x2 ∧ a.y2 = b.y2 ∧ a.z = b.z ∧ a.c = b.c ∧ a.w = b.w ∧ a.h = b.h ∧ a.px = b.px ∧ a.tg = b.tg := by cases a; cases b; simp
 simp only [oD, De] at *
 refine Am fun B => ?_
 repeat' (first | refine Ok (id := 1) ?_ (hk := by first | exact .mk (n := 41) (by decide +kernel) (by kernel_rfl) rfl | exact .mk (n := 42) (by decide +kernel) (by kernel_rfl) rfl | exact .mk (n := 43) (by decide +kernel) (by kernel_rfl) rfl | exact .mk (n := 44) (by decide +kernel) (by kernel_rfl) rfl | exact .mk (n := 45) (by decide +kernel) (by kernel_rfl) rfl | exact .mk (n := 46) (by decide +kernel) (by kernel_rfl) rfl | exact .mk (n := 47) (by decide +kernel) (by kernel_rfl) rfl | exact .mk (n := 48) (by decide +kernel) (by kernel_rfl) rfl) | refine Al ?_ | (refine Ay ?_; first | refine cz (cs) ?_ | refine cz (f1) ?_ | refine cz (f2) ?_ | refine cz (f3) ?_ | refine cz (f4) ?_) | refine Ak ?_ | refine nc ?_ ?_ | (with_reducible intro _ <;> (try (exfalso; omega))) | refine Ad ?_ | (refine nd ?_ ?_ <;> intro hg <;> first | exact xo hg | rw [hg]))
 all_goals (clear cs e1 e2 e3 e4 e5 f1 f2 f3 f4; simp only [he, Jm]; simp_all; try simp [Bool.and_assoc])
theorem BR (_ : Int) : VP Tryz.prog 113 [.lit (.bool true)] (· = .ret (.tup [])) := by
 refine Am fun B => ?_
 repeat' (first | refine Al ?_ | refine Ak ?_ | refine nc ?_ ?_ | (with_reducible intro _ <;> (try (exfalso; omega))) | refine Ad ?_ | (refine nd ?_ ?_ <;> intro hg <;> first | exact xo hg | rw [hg]))
 all_goals rfl
theorem Ey (_ : Int) : VP Tryz.prog 113 [.lit (.bool false)] (· = .panic (GB 220)) := by
 refine Am fun B => ?_
 repeat' (first | refine Al ?_ | refine Ak ?_ | refine nc ?_ ?_ | (with_reducible intro _ <;> (try (exfalso; omega))) | refine Ad ?_ | (refine nd ?_ ?_ <;> intro hg <;> first | exact xo hg | rw [hg]))
 all_goals rfl
theorem Cb (c : Bool) (e : Int) : VP Tryz.prog 113 [.lit (.bool c)] (· = if c then .ret (.tup []) else .panic (GB 220)) := by
 cases c with
 | true => exact BR e
 | false => exact Ey e
theorem Re (n : Int) : VP Tryz.prog 166 [Ar n] (· = .ret (.lit (.bool (Bv n)))) := by
 simp only [Bv]
 refine Am fun B => ?_
 repeat' (first | refine Al ?_ | refine Ak ?_ | refine nc ?_ ?_ | (with_reducible intro _ <;> (try (exfalso; omega))) | refine Ad ?_ | (refine nd ?_ ?_ <;> intro hg <;> first | exact xo hg | rw [hg]))
 all_goals (simp_all; try omega)
theorem T0 (o : Bb) (_ : o.px.length ≤ 1000000) : VP Tryz.prog 118 [.agg [Ar o.w, Ar o.h, Iu o.px]] (· = .ret (Ar (if Rd o then 0 else 190))) := by
 have c1 := Re o.w
 have c2 := Re o.h
 have hpl := Dl o.px
 simp only [Rd]
 by_cases hs : Bv o.w = true ∧ Bv o.h = true
 ·have h1 := hs.1
  have h2 := hs.2
  simp only [Bv, Bool.and_eq_true, decide_eq_true_eq] at h1 h2
  have hm : 0 ≤ o.w * o.h ∧ o.w * o.h ≤ 64 := ⟨Int.mul_nonneg (by omega) (by omega), by
   have := Int.mul_le_mul h1.2 h2.2 (by omega) (by omega : (0 : Int) ≤ 8); omega⟩
  simp only [hs.1, hs.2, Bool.and_self, Bool.true_and] at c1 c2 ⊢
  refine Am fun B => ?_
  repeat' (first | refine Al ?_ | (refine Ay ?_; first | refine cz (c1) ?_ | refine cz (c2) ?_) | refine Ak ?_ | refine nc ?_ ?_ | (with_reducible intro _ <;> (try (exfalso; omega))) | refine Ad ?_ | (refine nd ?_ ?_ <;> intro hg <;> first | exact xo hg | rw [hg]))
  all_goals (simp_all)
 ·have hf : (Bv o.w && Bv o.h) = false := by
   cases e : (Bv o.w && Bv o.h)
   ·rfl
   ·exact (hs (by simpa using e)).elim
  simp only [hf, Bool.false_and, Bool.false_eq_true, if_false]
  generalize Bv o.w = s1 at *
  generalize Bv o.h = s2 at *
  cases s1 <;> cases s2
  all_goals first | (exact absurd hf (by decide)) | skip
  all_goals
   refine Am fun B => ?_
   repeat' (first | refine Al ?_ | (refine Ay ?_; first | refine cz (c1) ?_ | refine cz (c2) ?_) | refine Ak ?_ | refine nc ?_ ?_ | (with_reducible intro _ <;> (try (exfalso; omega))) | refine Ad ?_ | (refine nd ?_ ?_ <;> intro hg <;> first | exact xo hg | rw [hg]))
  all_goals rfl

set_option maxRecDepth 20000
set_option maxRecDepth 10000
def Vd (o : Bb) : Bool := Jz o.id && decide (1 ≤ o.k) && decide (o.k ≤ 8) && decide (Bw o = o)
def XC (o : Bb) : Bool := Kn o.x && Kn o.y && Kn o.x2 && Kn o.y2 && decide (0 ≤ o.z) && decide (o.z ≤ if o.k = 5 then 1020 else 15) && (decide (o.k ≠ 6) || Rd o) && (decide (o.k ≤ 6) || (Jz o.tg && HZ o.tg o.id))
theorem ZS (o : Bb) : Da o = (Vd o && XC o) := by simp only [Da, Vd, XC, Bool.and_assoc]
theorem AbR (o : Bb) (hl : o.px.length ≤ 1000000) : VP Tryz.prog 75 [.agg (oD o)] (· = if Da o then .ret (.tup []) else .panic (GB 220)) := by
 have c1 := Pf o.id
 have c2 := Aab o.k
 have c4 := RI (Bw o) o
 have c5 := T0 o hl
 have c6 := Pf o.tg
 have c7 := RX o.tg o.id
 rw [ZS]
 cases h1 : Vd o with
 | false =>
  simp only [Bool.false_and, Bool.false_eq_true, if_false]
  simp only [Vd] at h1
  obtain ⟨z1, e1⟩ : ∃ z : Int, (if Jz o.id then 0 else 210) = z := ⟨_, rfl⟩
  rw [e1] at c1
  rw [show Jz o.id = decide (z1 = 0) by rw [← e1]; cases Jz o.id <;> rfl] at h1
  clear e1
  by_cases hk : 1 ≤ o.k ∧ o.k ≤ 8
  ·have c3 := OY o hk hl
   rw [show (decide (1 ≤ o.k) && decide (o.k ≤ 8)) = true by simp; omega] at c2
   rw [decide_eq_true hk.1, decide_eq_true hk.2, Bool.and_true, Bool.and_true] at h1
   obtain ⟨r3, e3⟩ : ∃ r, decide (Bw o = o) = r := ⟨_, rfl⟩
   rw [e3] at c4 h1
   clear e3 c5 c6 c7
   generalize Bw o = q at *
   simp only [oD, oM, De, F9] at *
   cases r3
   ·refine Am fun B => ?_
    repeat' (first | refine Al ?_ | (refine Ay ?_; first | refine cz (c1) ?_ | refine cz (c2) ?_ | refine cz (c3) ?_ | refine cz (c4) ?_ | (refine AK (BR 0) ?_; first | refine Ag (BR 0) ?_ | refine An (Ey 0) ?_ | (refine Ah (Cb _ 0) ?_ ?_ <;> intro _ <;> (try (exfalso; omega))) | (refine Ao (Cb _ 0) ?_ ?_ <;> intro _))) | refine Ak ?_ | refine nc ?_ ?_ | (with_reducible intro _ <;> (try (exfalso; omega))) | refine Ad ?_ | (refine nd ?_ ?_ <;> intro hg <;> first | exact xo hg | rw [hg]))
    all_goals rfl
   ·have hz : z1 ≠ 0 := by intro h; simp [h] at h1
    refine Am fun B => ?_
    repeat' (first | refine Al ?_ | (refine Ay ?_; first | refine cz (c1) ?_ | refine cz (c2) ?_ | refine cz (c3) ?_ | refine cz (c4) ?_ | (refine AK (BR 0) ?_; first | refine Ag (BR 0) ?_ | refine An (Ey 0) ?_ | (refine Ah (Cb _ 0) ?_ ?_ <;> intro _ <;> (try (exfalso; omega))) | (refine Ao (Cb _ 0) ?_ ?_ <;> intro _))) | refine Ak ?_ | refine nc ?_ ?_ | (with_reducible intro _ <;> (try (exfalso; omega))) | refine Ad ?_ | (refine nd ?_ ?_ <;> intro hg <;> first | exact xo hg | rw [hg]))
    all_goals rfl
  ·rw [show (decide (1 ≤ o.k) && decide (o.k ≤ 8)) = false by simp; omega] at c2
   clear c4 c5 c6 c7
   simp only [oD, De, F9] at *
   refine Am fun B => ?_
   repeat' (first | refine Al ?_ | (refine Ay ?_; first | refine cz (c1) ?_ | refine cz (c2) ?_ | (refine AK (BR 0) ?_; first | refine Ag (BR 0) ?_ | refine An (Ey 0) ?_ | (refine Ah (Cb _ 0) ?_ ?_ <;> intro _ <;> (try (exfalso; omega))) | (refine Ao (Cb _ 0) ?_ ?_ <;> intro _))) | refine Ak ?_ | refine nc ?_ ?_ | (with_reducible intro _ <;> (try (exfalso; omega))) | refine Ad ?_ | (refine nd ?_ ?_ <;> intro hg <;> first | exact xo hg | rw [hg]))
   all_goals rfl
 | true =>
  simp only [Bool.true_and]
  simp only [Vd, Bool.and_eq_true, decide_eq_true_eq] at h1
  obtain ⟨⟨⟨h1, h2⟩, h3⟩, h4⟩ := h1
  have c3 := OY o ⟨h2, h3⟩ hl
  have c8 := UW o.k ⟨h2, h3⟩
  rw [h4] at c3 c4
  rw [h1] at c1
  rw [show (decide (1 ≤ o.k) && decide (o.k ≤ 8)) = true by simp; omega] at c2
  rw [decide_eq_true rfl] at c4
  clear h4
  obtain ⟨b, hb⟩ : ∃ b, XC o = b := ⟨_, rfl⟩
  rw [hb]
  simp only [XC, Kn] at hb
  obtain ⟨z4, e4⟩ : ∃ z : Int, (if Rd o then 0 else 190) = z := ⟨_, rfl⟩
  obtain ⟨z5, e5⟩ : ∃ z : Int, (if Jz o.tg then 0 else 210) = z := ⟨_, rfl⟩
  obtain ⟨r6, e6⟩ : ∃ r, HZ o.tg o.id = r := ⟨_, rfl⟩
  rw [e4] at c5
  rw [e5] at c6
  rw [show Rd o = decide (z4 = 0) by rw [← e4]; cases Rd o <;> rfl] at hb
  rw [show Jz o.tg = decide (z5 = 0) by rw [← e5]; cases Jz o.tg <;> rfl] at hb
  rw [e6] at c7 hb
  clear e4 e5 e6
  simp only [oD, oM, De, F9] at *
  refine Tf Tryz.func75 rfl Tryz.ntmps75 rfl Tryz.results75 fun B => ?_
  refine GT (FR ?_)
  repeat' (first | refine Al ?_ | (refine Ay ?_; first | refine cz (c1) ?_ | refine cz (c2) ?_ | refine cz (c3) ?_ | refine cz (c4) ?_ | refine cz (c5) ?_ | refine cz (c6) ?_ | refine cz (c7) ?_ | refine cz (c8) ?_ | (refine AK (BR 0) ?_; first | refine Ag (BR 0) ?_ | refine An (Ey 0) ?_ | (refine Ah (Cb _ 0) ?_ ?_ <;> intro _ <;> (try (exfalso; omega))) | (refine Ao (Cb _ 0) ?_ ?_ <;> intro _)) | refine Ae 117 fun _ => ?_) | refine Ak ?_ | refine nc ?_ ?_ | (with_reducible intro _ <;> (try (exfalso; omega))) | refine Ad ?_ | (refine nd ?_ ?_ <;> intro hg <;> first | exact xo hg | rw [hg]))
  refine Dw (GT (FR ?_))
  repeat' (first | refine Al ?_ | (refine Ay ?_; first | refine cz (c1) ?_ | refine cz (c2) ?_ | refine cz (c3) ?_ | refine cz (c4) ?_ | refine cz (c5) ?_ | refine cz (c6) ?_ | refine cz (c7) ?_ | refine cz (c8) ?_ | (refine AK (BR 0) ?_; first | refine Ag (BR 0) ?_ | refine An (Ey 0) ?_ | (refine Ah (Cb _ 0) ?_ ?_ <;> intro _ <;> (try (exfalso; omega))) | (refine Ao (Cb _ 0) ?_ ?_ <;> intro _)) | refine Ae 117 fun _ => ?_) | refine Ak ?_ | refine nc ?_ ?_ | (with_reducible intro _ <;> (try (exfalso; omega))) | refine Ad ?_ | (refine nd ?_ ?_ <;> intro hg <;> first | exact xo hg | rw [hg]))
  refine Dw (GT (GT (FR ?_)))
  repeat' (first | refine Al ?_ | (refine Ay ?_; first | refine cz (c1) ?_ | refine cz (c2) ?_ | refine cz (c3) ?_ | refine cz (c4) ?_ | refine cz (c5) ?_ | refine cz (c6) ?_ | refine cz (c7) ?_ | refine cz (c8) ?_ | (refine AK (BR 0) ?_; first | refine Ag (BR 0) ?_ | refine An (Ey 0) ?_ | (refine Ah (Cb _ 0) ?_ ?_ <;> intro _ <;> (try (exfalso; omega))) | (refine Ao (Cb _ 0) ?_ ?_ <;> intro _)) | refine Ae 117 fun _ => ?_) | refine Ak ?_ | refine nc ?_ ?_ | (with_reducible intro _ <;> (try (exfalso; omega))) | refine Ad ?_ | (refine nd ?_ ?_ <;> intro hg <;> first | exact xo hg | rw [hg]))
  refine Dw (Ot (To Tryz.func75 fun Lp TT hOk hfn => ?_))
  refine Cm fun M2 => ?_
  repeat' (first | refine Al ?_ | refine Ak ?_ | refine nc ?_ ?_ | (with_reducible intro _ <;> (try (exfalso; omega))) | refine Ad ?_ | (refine nd ?_ ?_ <;> intro hg <;> first | exact xo hg | rw [hg]))
  refine AF 5 ?_
  repeat' (first | refine Al ?_ | (refine Ay ?_; first | refine AQ (by assumption) fun _ _ => ?_ | refine cz (c1) ?_ | refine cz (c2) ?_ | refine cz (c3) ?_ | refine cz (c4) ?_ | refine cz (c5) ?_ | refine cz (c6) ?_ | refine cz (c7) ?_ | refine cz (c8) ?_ | (refine AK (BR 0) ?_; first | refine Ag (BR 0) ?_ | refine An (Ey 0) ?_ | (refine Ah (Cb _ 0) ?_ ?_ <;> intro _ <;> (try (exfalso; omega))) | (refine Ao (Cb _ 0) ?_ ?_ <;> intro _)) | refine Ae 117 fun _ => ?_) | refine Ak ?_ | refine nc ?_ ?_ | (with_reducible intro _ <;> (try (exfalso; omega))) | refine Ad ?_ | (refine nd ?_ ?_ <;> intro hg <;> first | exact xo hg | rw [hg]) | refine Dw (FR ?_) | refine Qt ?_)
  all_goals ((try clear hOk hfn); clear c1 c2 c3 c4 c5 c6 c7 c8; subst hb)
  all_goals first | (simp_all; fail_if_success (focus skip)) | (simp_all; omega) | skip
theorem Ez (o : Bb) (hl : o.px.length ≤ 1000000) : VP Tryz.prog 44 [.agg (oD o)] (· = .ret (Ar (if Da o then 0 else 220))) := by
 have cm := AbR o hl
 cases hb : Da o with
 | true =>
  rw [hb] at cm
  simp only [if_true] at cm ⊢
  refine Am fun B => ?_
  repeat' (first | refine Al ?_ | (refine Ay ?_; first | refine cz (cm) ?_ | refine Ae 74 fun _ => ?_ | refine Bs (hc := AN (fd := 112) Tryz.func73 rfl Tryz.ntmps73 Tryz.results73 fun _ => ?_)) | refine Ak ?_ | refine nc ?_ ?_ | (with_reducible intro _ <;> (try (exfalso; omega))) | refine Ad ?_ | (refine nd ?_ ?_ <;> intro hg <;> first | exact xo hg | rw [hg]) | refine AR Tryz.func112 rfl Tryz.ntmps112 Tryz.results112 ?_)
  all_goals first | rfl | trace_state
 | false =>
  rw [hb] at cm
  simp only [Bool.false_eq_true, if_false] at cm ⊢
  refine Am fun B => ?_
  repeat' (first | refine Al ?_ | (refine Ay ?_; first | refine cz (cm) ?_ | refine Ae 74 fun _ => ?_ | refine Bs (hc := AN (fd := 112) Tryz.func73 rfl Tryz.ntmps73 Tryz.results73 fun _ => ?_)) | refine Ak ?_ | refine nc ?_ ?_ | (with_reducible intro _ <;> (try (exfalso; omega))) | refine Ad ?_ | (refine nd ?_ ?_ <;> intro hg <;> first | exact xo hg | rw [hg]) | refine AR Tryz.func112 rfl Tryz.ntmps112 Tryz.results112 ?_)
  all_goals first | rfl | trace_state

end Go.Proofs.YtbgcjnfhadhjeaaGreat