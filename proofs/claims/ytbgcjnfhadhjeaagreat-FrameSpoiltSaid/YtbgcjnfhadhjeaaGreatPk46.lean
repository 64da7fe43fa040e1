/- Walks by data and names, part 46: The program's frames, by V: bytes and operations that are read. The program's frames, by V: how a part is laid; which parts a kind uses. The program's frames, by V: bytes and operations as parts; parts found by their names. -/
import Derived.Test.YtbgcjnfhadhjeaaGreatPk45
import Derived.Test.YtbgcjnfhadhjeaaGreatPk30
import Derived.Test.YtbgcjnfhadhjeaaGreatPk39
import Derived.Test.YtbgcjnfhadhjeaaGreatPk28
import Derived.Test.YtbgcjnfhadhjeaaGreatPk33
import Derived.Test.YtbgcjnfhadhjeaaGreatPk34
import Derived.Test.YtbgcjnfhadhjeaaGreatPk32
import Derived.Test.YtbgcjnfhadhjeaaGreatPk29
namespace Go.Proofs.YtbgcjnfhadhjeaaGreat
set_option maxRecDepth 20000
open Go.RowKit
set_option maxRecDepth 10000
set_option maxHeartbeats 4000000
abbrev Up (b o : D) (x : Fr) : List V := ((Db b o x).map V.d) ++ [.d .any]
theorem YD (t : List UInt8) (h : 2 ≤ t.length) : A3 (t.take 2) < 65536 := by
 have hm := IP (t.take 2)
 rw [show (t.take 2).length = 2 by rw [List.length_take]; omega] at hm
 exact hm
theorem Ac0 (b o : D) (x y : Fr) (t u : List UInt8) (ht : t.length ≤ 1000000) (h : BE x .bs t = some (y, u)) : C6 Tryz.prog 134 1 [.ptr 0 0] [.c 0 0 (A2 b o x t)] 1 (.ret (.tup [])) [.c 0 0 (A2 (.sl false true (AH y.bs)) o y u)] 1 := by
 simp only [BE, MQ] at h
 split at h
 ·cases h
 ·rename_i m r hr
  split at hr
  ·rename_i h2
   cases hr
   split at h
   ·rename_i hm
    cases h
    have hlt := YD t h2
    have c1 := O3 b o x t 2 (by omega) h2 ht
    have c2 := NR b o x (t.drop 2) (A3 (t.take 2)) hm (by rw [List.length_drop]; omega)
    generalize A3 (t.take 2) = m at *
    have hbl := AA ((t.drop 2).take m)
    have hml : ((t.drop 2).take m).length ≤ 65536 := by rw [List.length_take]; omega
    simp only [A2, Db, List.map_cons, List.map_nil, List.cons_append, List.nil_append, Int.cast_ofNat_Int] at c1 c2 ⊢
    generalize (t.drop 2).take m = bb at *
    refine AJ fun B M => ?_
    repeat' (first | refine Al ?_ | (refine Ay ?_; first | refine Aj [(0, none)] c1 ?_ | refine Aj [(0, none)] c2 ?_) | refine Ak ?_ | refine nc ?_ ?_ | (with_reducible intro _ <;> (try (exfalso; omega))) | refine Ad ?_ | (refine nd ?_ ?_ <;> intro hg <;> first | exact xo hg | rw [hg]))
    refine NP 1 rfl ?_
    exact Gt []
   ·cases h
  ·cases hr
theorem Abt (b o : D) (x : Fr) (t : List UInt8) (ht : t.length ≤ 1000000) (h : BE x .bs t = none) : C6 Tryz.prog 134 1 [.ptr 0 0] [.c 0 0 (A2 b o x t)] 1 (.panic (.d DA)) [.c 0 0 (Up b o x)] 1 := by
 simp only [BE, MQ] at h
 split at h
 ·rename_i hr
  split at hr
  ·cases hr
  ·rename_i h2
   have c1 := NQ b o x t 2 h2
   simp only [A2, Up, Db, List.map_cons, List.map_nil, List.cons_append, List.nil_append, Int.cast_ofNat_Int] at c1 ⊢
   refine AJ fun B M => ?_
   repeat' (first | refine Al ?_ | (refine Ay ?_; first | refine Aj [(0, none)] c1 ?_) | refine Ak ?_ | refine nc ?_ ?_ | (with_reducible intro _ <;> (try (exfalso; omega))) | refine Ad ?_ | (refine nd ?_ ?_ <;> intro hg <;> first | exact xo hg | rw [hg]))
   all_goals first | exact Az [] | trace_state
 ·rename_i m r hr
  split at hr
  ·rename_i h2
   cases hr
   split at h
   ·cases h
   ·rename_i hm
    have hlt := YD t h2
    have c1 := O3 b o x t 2 (by omega) h2 ht
    have c2 := RQ b o x (t.drop 2) (A3 (t.take 2)) hm
    generalize A3 (t.take 2) = m at *
    simp only [A2, Up, Db, List.map_cons, List.map_nil, List.cons_append, List.nil_append, Int.cast_ofNat_Int] at c1 c2 ⊢
    refine AJ fun B M => ?_
    repeat' (first | refine Al ?_ | (refine Ay ?_; first | refine Aj [(0, none)] c1 ?_ | refine Aj [(0, none)] c2 ?_) | refine Ak ?_ | refine nc ?_ ?_ | (with_reducible intro _ <;> (try (exfalso; omega))) | refine Ad ?_ | (refine nd ?_ ?_ <;> intro hg <;> first | exact xo hg | rw [hg]))
    all_goals first | exact Az [] | trace_state
  ·cases hr
theorem Rr : ∀ {n : Nat} {b : List UInt8} {e : Int}, Fg n b = .error e → e = 110 ∨ e = 290
 | 0, b, e, h => by cases h
 | n + 1, b, e, h => by
  simp only [Fg] at h
  split at h
  ·rename_i h1; cases h; exact Uw h1
  ·rename_i h1
   split at h
   ·rename_i h2; cases h; exact Rr h2
   ·cases h
theorem Xh {b : List UInt8} {e : Int} (h : GG b = .error e) : e = 110 ∨ e = 290 := by
 cases b with
 | nil => cases h; exact .inl rfl
 | cons n b =>
  simp only [GG] at h
  split at h
  ·exact Rr h
  ·cases h; exact .inr rfl
theorem TN (b o : D) (x : Fr) (t u : List UInt8) (l : List Bb) (ht : t.length ≤ 1000000) (h : GG t = .ok (l, u)) : C6 Tryz.prog 139 1 [.ptr 0 0, .d (.lit (.func (.func 140) #[] #[]))] [.c 0 0 (A2 b o x t)] 1 (.ret (.d (.sl false true (l.map oM)))) [.c 0 0 (A2 b o x u)] 1 := by
 have c1 := MH t ht
 have hb := (QL h).2.2
 have hl : t.length = (C9 l).length + u.length := by rw [← hb, List.length_append]
 have e1 : CQ t = (l, ((C9 l).length : Int), 0) := by unfold CQ; rw [h]; simp only [Prod.mk.injEq, true_and]; exact ⟨by omega, trivial⟩
 rw [e1] at c1
 dsimp only at c1
 have hu : t.drop (C9 l).length = u := by rw [← hb, List.drop_left]
 have c2 := NR b o x t (C9 l).length (by omega) ht
 rw [hu] at c2
 generalize (C9 l).length = k at *
 simp only [A2, Db, List.map_cons, List.map_nil, List.cons_append, List.nil_append] at c2 ⊢
 refine AJ fun B M => ?_
 repeat' (first | refine Al ?_ | (refine Ay ?_; first | (refine AK (A1 0) ?_; first | refine Ag (A1 0) ?_ | refine An (Cq 0) ?_ | (refine Ah (A6 _ 0) ?_ ?_ <;> intro _ <;> (try (exfalso; omega))) | (refine Ao (A6 _ 0) ?_ ?_ <;> intro _)) | refine cz (c1) ?_ | refine Aj [(0, none)] c2 ?_) | refine Ak ?_ | refine nc ?_ ?_ | (with_reducible intro _ <;> (try (exfalso; omega))) | refine Ad ?_ | (refine nd ?_ ?_ <;> intro hg <;> first | exact xo hg | rw [hg]))
 all_goals first | exact A4 [] | trace_state
theorem Sl (b o : D) (x : Fr) (t : List UInt8) (e : Int) (ht : t.length ≤ 1000000) (h : GG t = .error e) : C6 Tryz.prog 139 1 [.ptr 0 0, .d (.lit (.func (.func 140) #[] #[]))] [.c 0 0 (A2 b o x t)] 1 (.panic (.d DA)) [.c 0 0 (A2 b o x t)] 1 := by
 have c1 := MH t ht
 have he := Xh h
 have e1 : CQ t = ([], 0, e) := by unfold CQ; rw [h]
 rw [e1] at c1
 dsimp only at c1
 simp only [A2, Db, List.map_cons, List.map_nil, List.cons_append, List.nil_append] at c1 ⊢
 refine AJ fun B M => ?_
 repeat' (first | refine Al ?_ | (refine Ay ?_; first | (refine AK (A1 0) ?_; first | refine Ag (A1 0) ?_ | refine An (Cq 0) ?_ | (refine Ah (A6 _ 0) ?_ ?_ <;> intro _ <;> (try (exfalso; omega))) | (refine Ao (A6 _ 0) ?_ ?_ <;> intro _)) | refine cz (c1) ?_) | refine Ak ?_ | refine nc ?_ ?_ | (with_reducible intro _ <;> (try (exfalso; omega))) | refine Ad ?_ | (refine nd ?_ ?_ <;> intro hg <;> first | exact xo hg | rw [hg]))
 all_goals first | exact Az [] | trace_state
theorem AcZ (b o : D) (x y : Fr) (t u : List UInt8) (ht : t.length ≤ 1000000) (h : BE x .os t = some (y, u)) : C6 Tryz.prog 138 1 [.ptr 0 0] [.c 0 0 (A2 b o x t)] 1 (.ret (.tup [])) [.c 0 0 (A2 b (.sl false true (y.os.map oM)) y u)] 1 := by
 simp only [BE] at h
 split at h
 ·cases h
 ·rename_i l r hr
  cases h
  have c1 := TN b o x t u l ht hr
  simp only [A2, Db, List.map_cons, List.map_nil, List.cons_append, List.nil_append] at c1 ⊢
  refine AJ fun B M => ?_
  repeat' (first | refine Al ?_ | (refine Ay ?_; first | refine Aj [(0, none)] c1 ?_) | refine Ak ?_ | refine nc ?_ ?_ | (with_reducible intro _ <;> (try (exfalso; omega))) | refine Ad ?_ | (refine nd ?_ ?_ <;> intro hg <;> first | exact xo hg | rw [hg]))
  all_goals first | exact A4 [] | trace_state
theorem Abs (b o : D) (x : Fr) (t : List UInt8) (ht : t.length ≤ 1000000) (h : BE x .os t = none) : C6 Tryz.prog 138 1 [.ptr 0 0] [.c 0 0 (A2 b o x t)] 1 (.panic (.d DA)) [.c 0 0 (Up b o x)] 1 := by
 simp only [BE] at h
 split at h
 ·rename_i e hr
  have c1 := Sl b o x t e ht hr
  simp only [A2, Up, Db, List.map_cons, List.map_nil, List.cons_append, List.nil_append] at c1 ⊢
  refine AJ fun B M => ?_
  repeat' (first | refine Al ?_ | (refine Ay ?_; first | refine Aj [(0, none)] c1 ?_) | refine Ak ?_ | refine nc ?_ ?_ | (with_reducible intro _ <;> (try (exfalso; omega))) | refine Ad ?_ | (refine nd ?_ ?_ <;> intro hg <;> first | exact xo hg | rw [hg]))
  all_goals first | exact Az [] | trace_state
 ·cases h

set_option maxRecDepth 20000
set_option maxRecDepth 10000
abbrev bxD (b : List UInt8) : D := .sl true false (AH b)
instance Ac9 {f : Bool} {x y : List (List D)} [hs : CC x y] : DL (.sl true f x) (.sl true false y) := ⟨fun B B' U w u k => by
 simp only [drep] at k ⊢
 obtain ⟨a, cap, cs, e1, e2, e3, e4, e5, ⟨sz, e6⟩, e0, e7, e8⟩ := k
 exact ⟨a, cap, cs, by rw [e1, hs.len], by rw [← hs.len]; exact e2, e3, fun h => by rw [← hs.len]; exact e4 h, e5, ⟨sz, hs.sz sz e6⟩, e0, e7.imp fun b h => ⟨h.1, fun h => by cases h⟩, hs.le _ _ _ _ _ e8⟩⟩
theorem VK (a b : List UInt8) (h : a.length + b.length ≤ 100000000) (hb : 0 < b.length) : VP Tryz.prog 137 [bxD a, CV b, Ar 0] (· = .ret (.tup [.sl false true (AH (a ++ b)), Ar 0])) := by
 have hal := AA a
 have hbl := AA b
 rw [Dz]
 refine VP.le ?_
 refine Am fun B => ?_
 repeat' (first | refine Al ?_ | refine Ak ?_ | refine nc ?_ ?_ | (with_reducible intro _ <;> (try (exfalso; omega))) | refine Ad ?_ | (refine nd ?_ ?_ <;> intro hg <;> first | exact xo hg | rw [hg]))
 all_goals first | exact AP _ | trace_state
theorem Z8 (n : Fl) (hn : n = .ep ∨ n = .sn ∨ n = .fl ∨ n = .fq ∨ n = .pr ∨ n = .tl) (b : List UInt8) (f : Fr) (hb : b.length ≤ 1000000) (h : BX f n) : VP Tryz.prog 171 (CV b :: .agg (Bx f) :: FP n) (· = .ret (.tup [.sl true true (AH (b ++ A0 f n)), Ar 0])) := by
 have c := fun k (hk : k ≤ 4611686018427387904) => UU b 8 k (by omega) (by omega) (by omega)
 simp only [Int.cast_ofNat_Int] at c
 rcases hn with rfl | rfl | rfl | rfl | rfl | rfl
 all_goals
  simp only [BX] at h
  have c1 := c _ h
  simp only [FP, Oh, Bx, Cj, Db, A0]
  refine Am fun B => ?_
  repeat' (first | refine Al ?_ | (refine Ay ?_; first | refine cz (c1) ?_ | refine Ae 126 fun _ => ?_ | refine Ae 129 fun _ => ?_ | refine Ae 143 fun _ => ?_ | refine Ae 144 fun _ => ?_ | refine Ae 145 fun _ => ?_ | refine Ae 146 fun _ => ?_) | refine Ak ?_ | refine nc ?_ ?_ | (with_reducible intro _ <;> (try (exfalso; omega))) | refine Ad ?_ | (refine nd ?_ ?_ <;> intro hg <;> first | exact xo hg | rw [hg]))
 all_goals first | rfl | trace_state
theorem Z9 (n : Fl) (hn : n = .si ∨ n = .ix ∨ n = .my) (b : List UInt8) (f : Fr) (hb : b.length ≤ 1000000) (h : BX f n) : VP Tryz.prog 174 (CV b :: .agg (Bx f) :: FP n) (· = .ret (.tup [.sl true true (AH (b ++ A0 f n)), Ar 0])) := by
 have c := fun (k : Int) (hk : 0 ≤ k ∧ k < 256) => UU b 1 k.toNat (by omega) (by omega) (by omega)
 rcases hn with rfl | rfl | rfl
 all_goals
  simp only [BX] at h
  have c1 := c _ h
  rw [Int.toNat_of_nonneg h.1] at c1
  simp only [Int.cast_ofNat_Int] at c1
  simp only [FP, Oh, Bx, Cj, Db, A0]
  refine Am fun B => ?_
  repeat' (first | refine Al ?_ | (refine Ay ?_; first | refine cz (c1) ?_ | refine Ae 128 fun _ => ?_ | refine Ae 130 fun _ => ?_ | refine Ae 131 fun _ => ?_) | refine Ak ?_ | refine nc ?_ ?_ | (with_reducible intro _ <;> (try (exfalso; omega))) | refine Ad ?_ | (refine nd ?_ ?_ <;> intro hg <;> first | exact xo hg | rw [hg]))
 all_goals first | rfl | trace_state
theorem Z5 (n : Fl) (hn : n = .v ∨ n = .w) (b : List UInt8) (f : Fr) (hb : b.length ≤ 1000000) (h : BX f n) : VP Tryz.prog 188 (bxD b :: .agg (Bx f) :: FP n) (· = .ret (.tup [.sl false true (AH (b ++ A0 f n)), Ar 0])) := by
 have c := fun (v : Vc) (hv : D9 v = true) => Sf v (by have := (HA v).1 hv; exact ⟨by omega, by omega, by omega, by omega, by omega, by omega, by omega, by omega, by omega⟩)
 have d := fun (v : Vc) => VK b (GW v) (by rw [FS]; omega) (by rw [FS]; omega)
 rcases hn with rfl | rfl
 all_goals
  simp only [BX] at h
  have c1 := c _ h
  have c2 := d f.v
  have c3 := d f.w
  rw [h] at c1
  simp only [if_true] at c1
  simp only [FP, Oh, Bx, Cj, Db, A0]
  refine Am fun B => ?_
  repeat' (first | refine Al ?_ | (refine Ay ?_; first | refine cz (c1) ?_ | refine cz (c2) ?_ | refine cz (c3) ?_ | refine Ae 142 fun _ => ?_ | refine Ae 147 fun _ => ?_) | refine Ak ?_ | refine nc ?_ ?_ | (with_reducible intro _ <;> (try (exfalso; omega))) | refine Ad ?_ | (refine nd ?_ ?_ <;> intro hg <;> first | exact xo hg | rw [hg]))
 all_goals first | rfl | trace_state

set_option maxRecDepth 20000
set_option maxRecDepth 10000
theorem Z7 (b : List UInt8) (f : Fr) (hb : b.length ≤ 1000000) (h : BX f .bs) : VP Tryz.prog 132 [CV b, .agg (Bx f)] (· = .ret (.tup [.sl true true (AH (b ++ A0 f .bs)), Ar 0])) := by
 simp only [BX] at h
 have c := ZL b f.bs hb h
 simp only [Bx, Cj, Db, A0]
 refine Am fun B => ?_
 repeat' (first | refine Al ?_ | (refine Ay ?_; first | refine cz (c) ?_) | refine Ak ?_ | refine nc ?_ ?_ | (with_reducible intro _ <;> (try (exfalso; omega))) | refine Ad ?_ | (refine nd ?_ ?_ <;> intro hg <;> first | exact xo hg | rw [hg]))
 all_goals first | rfl | trace_state
theorem RJ {l : List Bb} (h : ∀ o ∈ l, Da o = true) (hl : l.length ≤ 64) : 0 < (C9 l).length ∧ (C9 l).length ≤ 20000 := by
 have h1 : ∀ l : List Bb, (∀ o ∈ l, Da o = true) → (l.flatMap Cf).length ≤ 280 * l.length := fun l h => by
  induction l with
  | nil => simp
  | cons x l ih =>
   have h1 := RL (h x (by simp))
   have h2 := ih fun o ho => h o (by simp [ho])
   rw [List.flatMap_cons, List.length_append, List.length_cons]; omega
 have h2 := h1 l h
 unfold C9
 rw [List.length_append, As]; omega
theorem Xy {l : List Bb} (h : ∀ o ∈ l, Da o = true) (hl : l.length ≤ 64) : Mn l = (C9 l, 0) := by
 unfold Mn
 rw [if_neg (by omega), if_pos (List.all_eq_true.2 h)]
theorem Z6 (b : List UInt8) (f : Fr) (hb : b.length ≤ 1000000) (hp : ∀ o ∈ f.os, o.px.length ≤ 1000000) (h : BX f .os) : VP Tryz.prog 135 [bxD b, .agg (Bx f)] (· = .ret (.tup [.sl false true (AH (b ++ A0 f .os)), Ar 0])) := by
 simp only [BX] at h
 have c := ZO f.os hp
 rw [Xy h.1 h.2] at c
 have hl := RJ h.1 h.2
 have d := VK b (C9 f.os) (by omega) hl.1
 simp only [Bx, Cj, Db, A0]
 refine Am fun B => ?_
 repeat' (first | refine Al ?_ | (refine Ay ?_; first | refine cz (c) ?_ | refine cz (d) ?_) | refine Ak ?_ | refine nc ?_ ?_ | (with_reducible intro _ <;> (try (exfalso; omega))) | refine Ad ?_ | (refine nd ?_ ?_ <;> intro hg <;> first | exact xo hg | rw [hg]))
 all_goals first | rfl | trace_state
theorem Vv (m n : Fl) : VP Tryz.prog 88 [.agg (Fs m), .pt [Iz n]] (· = .ret (.lit (.bool (decide (m.nm = n.nm))))) := by
 cases m
 all_goals
  simp only [Fs, H7, H6, FP, Oh]
  refine Am fun B => ?_
  repeat' (first | refine Al ?_ | refine Ak ?_ | refine nc ?_ ?_ | (with_reducible intro _ <;> (try (exfalso; omega))) | refine Ad ?_ | (refine nd ?_ ?_ <;> intro hg <;> first | exact xo hg | rw [hg]))
 all_goals first | rfl | trace_state
instance Aas (m : Fl) : Er (Fs m) (Fs m) := by cases m <;> (simp only [Fs, H7, H6, FP]; infer_instance)
instance AcA (l : List Fl) : CC (l.map Fs) (l.map Fs) := BS l _ _ (fun _ => inferInstance) (fun _ => rfl)
theorem Bj (n : Fl) : VP Tryz.prog 87 [.sl false false (BU.map Fs), .fn 88 [] [.pt [Iz n]]] (· = .ret (Ar (Di (fun m : Fl => decide (m.nm = n.nm)) 0 BU))) := by
 generalize BU = l
 generalize hp : (fun m : Fl => decide (m.nm = n.nm)) = p
 refine Am fun B => ?_
 repeat' (first | refine Al ?_ | refine Ak ?_ | refine nc ?_ ?_ | (with_reducible intro _ <;> (try (exfalso; omega))) | refine Ad ?_ | (refine nd ?_ ?_ <;> intro hg <;> first | exact xo hg | rw [hg]))
 refine Bi 0 l Fs (fun (i : Nat) (_ : Unit) => ⟨[(8, I .i64 i), (7, I .i64 (l.map Fs).length), (0, .d (.sl false false (l.map Fs))), (1, .d (.fn 88 [] [.pt [Iz n]]))], [], 0⟩) (fun i _ => Di p 0 l = Di p i (l.drop i)) () (AI) rfl (fun i y x hT hi hx hx' hlt hlm hlen hdr => ?_) (fun y hT hlt hlm => ?_)
 ·rw [hdr] at hT
  have c := Vv x n
  rw [show decide (x.nm = n.nm) = p x by rw [← hp]] at c
  haveI := Aas x
  simp only [Fs] at hx' c this ⊢
  repeat' (first | refine Al ?_ | (refine Ay ?_; first | refine cz (c) ?_) | refine Ak ?_ | refine nc ?_ ?_ | (with_reducible intro _ <;> (try (exfalso; omega))) | refine Ad ?_ | (refine nd ?_ ?_ <;> intro hg <;> first | exact xo hg | rw [hg]))
  ·rw [hT]; simp_all [Di]
  ·refine Be () hi ?_ (AI); rw [hT]; simp_all [Di]
 ·repeat' (first | refine Al ?_ | refine Ak ?_ | refine nc ?_ ?_ | (with_reducible intro _ <;> (try (exfalso; omega))) | refine Ad ?_ | (refine nd ?_ ?_ <;> intro hg <;> first | exact xo hg | rw [hg]))
  rw [hT, List.drop_of_length_le (Nat.le_refl _)]; rfl
def Fl.no : Fl → Nat
 | .ep => 0
 | .si => 1
 | .sn => 2
 | .ix => 3
 | .my => 4
 | .bs => 5
 | .os => 6
 | .v => 7
 | .fl => 8
 | .fq => 9
 | .pr => 10
 | .tl => 11
 | .w => 12
theorem E6 (n : Fl) : Di (fun m : Fl => decide (m.nm = n.nm)) 0 BU = n.no := by cases n <;> rfl
theorem BI (n : Fl) : (BU.map Fs)[(n.no : Int).toNat]? = some (Fs n) := by cases n <;> rfl

set_option maxRecDepth 20000
def Q8 (f : Fr) : List Int := [f.ep, f.sn, f.fl, f.fq, f.pr, f.tl]
def PG (n : Int) : Bool := decide (n ≤ 4611686018427387904)
theorem Q9 (f : Fr) : WW f = (Q8 f).all PG := by
 rw [Bool.eq_iff_iff]
 simp only [WW, Q8, PG, Og, List.all_cons, List.all_nil, Bool.and_eq_true, decide_eq_true_eq]
 constructor
 ·intro h; refine ⟨?_, ?_, ?_, ?_, ?_, ?_, trivial⟩ <;> omega
 ·intro h; omega
def K4 : List Bk → Bool
 | [] => true
 | [_] => true
 | a :: b :: l => HZ a b && K4 (b :: l)
theorem Ug : ∀ (l : List Bb), G7 l = K4 (l.map (·.id))
 | [] => rfl
 | [_] => rfl
 | a :: b :: l => by simp only [G7, List.map_cons, K4, Ug (b :: l)]
theorem I4 {f : Fr} (h : 1 ≤ f.k ∧ f.k ≤ 5) : Eb f = ((Q8 f).all PG && decide (Eo f = f) && [f.v, f.w].all D9 && Mv f) := by
 unfold Eb
 rw [Q9, decide_eq_true h.1, decide_eq_true h.2]
 simp [Bool.and_assoc]

set_option maxRecDepth 10000
theorem W7 {l : List Bk} {i : Nat} {x y : Bk} (h0 : l[i]? = some y) (h1 : l[i + 1]? = some x) : K4 (l.drop i) = (HZ y x && K4 (l.drop (i + 1))) := by
 obtain ⟨hi, e0⟩ := List.getElem?_eq_some_iff.1 h0
 obtain ⟨hj, e1⟩ := List.getElem?_eq_some_iff.1 h1
 rw [List.drop_eq_getElem_cons hi, List.drop_eq_getElem_cons hj, e0, e1]; rfl
theorem Uf {l : List Bk} : K4 (l.drop (l.length - 1)) = true := by
 cases l with
 | nil => rfl
 | cons x l =>
  have h : ((x :: l).drop ((x :: l).length - 1)).length = 1 := by rw [List.length_drop]; simp
  match (x :: l).drop ((x :: l).length - 1), h with
  | [y], _ => rfl
theorem Ue (l : List Bk) : VP Tryz.prog 46 [.sl false false (l.map F9)] (· = .ret (.lit (.bool (K4 l)))) := by
 have hlm : (l.map F9).length = l.length := List.length_map _
 refine Am fun B => ?_
 repeat' (first | refine Al ?_ | (refine Ay ?_; first | refine Ae 78 fun _ => ?_ | refine Ae 121 fun _ => ?_) | refine Ak ?_ | refine nc ?_ ?_ | (with_reducible intro _ <;> (try (exfalso; omega))) | refine Ad ?_ | (refine nd ?_ ?_ <;> intro hg <;> first | exact xo hg | rw [hg]))
 refine GS fun R T hOk => ?_
 refine Cm fun M2 => ?_
 repeat' (first | refine Al ?_ | refine Ak ?_ | refine nc ?_ ?_ | (with_reducible intro _ <;> (try (exfalso; omega))) | refine Ad ?_ | (refine nd ?_ ?_ <;> intro hg <;> first | exact xo hg | rw [hg]))
 refine Bi 4 l F9 (fun (i : Nat) (_ : Unit) => ⟨[(6, I .i64 i), (5, I .i64 (l.map F9).length), (4, .d (.sl false false (l.map F9))), (0, .yl 3), (1, .ptr 2 0)], [.y 3 (some R) T [(16, .yl 3), (4, .ptr 1 0), (3, .ptr 0 0)], .c 2 0 [.d (.sl false false (l.map F9))], .c 1 0 [.d (.lit (.bool false))], .c 0 0 [.fn (.func 79) [] []]], 4⟩) (fun i _ => K4 l = K4 (l.drop (i - 1))) () (AI) rfl (fun i y x hT hi hx hx' hlt hlm hlen hdr => ?_) (fun y hT hlt hlm => ?_)
 ·rcases Nat.eq_zero_or_pos i with hz | hz
  ·subst hz
   repeat' (first | refine Al ?_ | refine Ak ?_ | refine nc ?_ ?_ | (with_reducible intro _ <;> (try (exfalso; omega))) | refine Ad ?_ | (refine nd ?_ ?_ <;> intro hg <;> first | exact xo hg | rw [hg]))
   refine Be () hi ?_ (AI)
   exact hT
  ·obtain ⟨z, hz1⟩ : ∃ z, l[i - 1]? = some z := ⟨l[i - 1], List.getElem?_eq_getElem (by omega)⟩
   have hz2 : (l.map F9)[((i : Int) - 1).toNat]? = some (F9 z) := by rw [show ((i : Int) - 1).toNat = i - 1 by omega]; simp [hz1]
   have hup := W7 hz1 (x := x) (by rw [show i - 1 + 1 = i by omega]; exact hx)
   rw [hup, show i - 1 + 1 = i by omega] at hT
   have c := RX z x
   generalize HZ z x = q at *
   cases q
   ·simp only [F9] at c hx' hz2 ⊢
    repeat' (first | refine Al ?_ | (refine Ay ?_; first | refine AQ (by assumption) fun _ _ => ?_ | refine cz (c) ?_ | refine Ae 79 fun _ => ?_) | refine Ak ?_ | refine nc ?_ ?_ | (with_reducible intro _ <;> (try (exfalso; omega))) | refine Ad ?_ | (refine nd ?_ ?_ <;> intro hg <;> first | exact xo hg | rw [hg]))
    all_goals first | (rw [hT]; rfl) | trace_state
   ·simp only [F9] at c hx' hz2 ⊢
    repeat' (first | refine Al ?_ | (refine Ay ?_; first | refine AQ (by assumption) fun _ _ => ?_ | refine cz (c) ?_ | refine Ae 79 fun _ => ?_) | refine Ak ?_ | refine nc ?_ ?_ | (with_reducible intro _ <;> (try (exfalso; omega))) | refine Ad ?_ | (refine nd ?_ ?_ <;> intro hg <;> first | exact xo hg | rw [hg]))
    all_goals first | (refine Be () hi ?_ (AI); rw [hT, Bool.true_and, Nat.add_sub_cancel]) | trace_state
 ·repeat' (first | refine Al ?_ | refine Ak ?_ | refine nc ?_ ?_ | (with_reducible intro _ <;> (try (exfalso; omega))) | refine Ad ?_ | (refine nd ?_ ?_ <;> intro hg <;> first | exact xo hg | rw [hg]))
  all_goals first | (rw [hT, Uf]) | trace_state
theorem Lr (n : Int) : VP Tryz.prog 37 [AW n] (· = .ret (.lit (.bool (PG n)))) := by
 refine Am fun B => ?_
 repeat' (first | refine Al ?_ | refine Ak ?_ | refine nc ?_ ?_ | (with_reducible intro _ <;> (try (exfalso; omega))) | refine Ad ?_ | (refine nd ?_ ?_ <;> intro hg <;> first | exact xo hg | rw [hg]))
 all_goals rfl
theorem Oo (v : Vc) : VP Tryz.prog 41 [.agg (Hz v)] (· = .ret (.lit (.bool (D9 v)))) := by
 have c := KQ v
 refine Am fun B => ?_
 cases h : D9 v
 all_goals
  rw [h] at c
  simp only [Bool.false_eq_true, if_false, if_true] at c
  repeat' (first | refine Al ?_ | (refine Ay ?_; first | refine cz (c) ?_) | refine Ak ?_ | refine nc ?_ ?_ | (with_reducible intro _ <;> (try (exfalso; omega))) | refine Ad ?_ | (refine nd ?_ ?_ <;> intro hg <;> first | exact xo hg | rw [hg]))
 all_goals rfl
theorem Aag (f : Fr) (o : Bb) (hl : o.px.length ≤ 1000000) : VP Tryz.prog 43 [.agg (oD o), .pt (Bx f)] (· = .ret (.lit (.bool (Da o && (decide (f.si = 0) || decide (o.id.s = f.si)))))) := by
 have c := Ez o hl
 cases h : Da o
 all_goals
  rw [h] at c
  simp only [Bool.false_eq_true, if_false, if_true] at c
  simp only [oD, De] at c ⊢
  refine Am fun B => ?_
  repeat' (first | refine Al ?_ | (refine Ay ?_; first | refine cz (c) ?_) | refine Ak ?_ | refine nc ?_ ?_ | (with_reducible intro _ <;> (try (exfalso; omega))) | refine Ad ?_ | (refine nd ?_ ?_ <;> intro hg <;> first | exact xo hg | rw [hg]))
 all_goals first | rfl | (rename_i h0; rw [h0]; rfl) | (rename_i h0; simp [h0])

set_option maxRecDepth 20000
set_option maxRecDepth 10000
set_option maxHeartbeats 8000000
theorem YM {f : Fr} (h : f.k = 1) : Mv f = (BQ f.si && decide (0 ≤ f.ix) && decide (f.ix ≤ 64)) := by simp [Mv, h]
theorem YL {f : Fr} (h : f.k = 2) : Mv f = (BQ f.si && decide (1 ≤ f.my) && decide (f.my ≤ 64) && decide (0 ≤ f.ix) && decide (f.ix < f.my) && decide (1 ≤ f.bs.length) && decide (f.bs.length ≤ 256)) := by simp [Mv, h]
theorem YK {f : Fr} (h : f.k = 3) : Mv f = ((decide (f.si = 0) || BQ f.si) && decide (1 ≤ f.os.length) && decide (f.os.length ≤ 4) && f.os.all (fun o => Da o && (decide (f.si = 0) || decide (o.id.s = f.si))) && G7 f.os) := by simp [Mv, h]
theorem YJ {f : Fr} (h : f.k = 4) : Mv f = BQ f.si := by simp [Mv, h]
theorem YI {f : Fr} (h : f.k = 5) : Mv f = (decide (f.pr = 0) || decide (f.tl < f.pr)) := by simp [Mv, h]
theorem SK (f : Fr) (h : ¬ (1 ≤ f.k ∧ f.k ≤ 5)) : VP Tryz.prog 11 [.agg (Bx f)] (· = .ret (Ar 300)) := by
 have c := GR f.k
 have hw : Bp f.k = [] := by
  simp only [Bp]
  rw [if_neg (by omega), if_neg (by omega), if_neg (by omega), if_neg (by omega), if_neg (by omega)]
 rw [hw] at c
 refine Am fun B => ?_
 repeat' (first | refine Al ?_ | (refine Ay ?_; first | refine cz (c) ?_) | refine Ak ?_ | refine nc ?_ ?_ | (with_reducible intro _ <;> (try (exfalso; omega))) | refine Ad ?_ | (refine nd ?_ ?_ <;> intro hg <;> first | exact xo hg | rw [hg]))
 all_goals rfl
theorem V0 (f : Fr) (h : f.k = 1) : VP Tryz.prog 11 [.agg (Bx f)] (· = .ret (Ar (if Eb f then 0 else 300))) := by
 have c1 := GR f.k
 rw [show Bp f.k = Bp 1 by rw [h]] at c1
 simp only [Bp, Int.reduceEq, if_true, if_false] at c1
 have c2 := L0 (ca := []) (Q8 f) PG fun x _ => Lr x
 have c3 := Hh f (by omega)
 have c4 := Dx (Eo f) f
 have c5 := LZ (ca := []) [f.v, f.w] D9 fun x _ => Oo x
 have hbl := AA f.bs
 obtain ⟨r, hr⟩ : ∃ r, Eb f = r := ⟨_, rfl⟩
 rw [hr]
 rw [I4 (by omega), YM h] at hr
 simp only [Q8, List.map_cons, List.map_nil, PN, Hz] at c2 c5 hr
 generalize [(f.ep : Int), f.sn, f.fl, f.fq, f.pr, f.tl].all PG = b1 at *
 generalize hb2 : decide (Eo f = f) = b2 at *
 generalize [f.v, f.w].all D9 = b3 at *
 generalize Eo f = g at *
 clear hb2
 subst hr
 refine Am fun B => ?_
 cases b1 <;> cases b2 <;> cases b3
 all_goals
  repeat' (first | refine CW ?_ | refine GU ?_ | refine Al ?_ | (refine Ay ?_; first | refine cz (c1) ?_ | refine cz (c2) ?_ | refine cz (c3) ?_ | refine cz (c4) ?_ | refine cz (c5) ?_) | refine Ak ?_ | refine nc ?_ ?_ | (with_reducible intro _ <;> (try (exfalso; omega))) | refine Ad ?_ | (refine nd ?_ ?_ <;> intro hg <;> first | exact xo hg | rw [hg]))
 all_goals first
  | rfl
  | (rw [if_pos (by simp only [BQ, Bool.true_and, Bool.and_eq_true, decide_eq_true_eq]; omega)])
  | (rw [if_neg (by simp only [BQ, Bool.true_and, Bool.and_eq_true, decide_eq_true_eq]; omega)])
  | trace_state
theorem VZ (f : Fr) (h : f.k = 2) : VP Tryz.prog 11 [.agg (Bx f)] (· = .ret (Ar (if Eb f then 0 else 300))) := by
 have c1 := GR f.k
 rw [show Bp f.k = Bp 2 by rw [h]] at c1
 simp only [Bp, Int.reduceEq, if_true, if_false] at c1
 have c2 := L0 (ca := []) (Q8 f) PG fun x _ => Lr x
 have c3 := Hh f (by omega)
 have c4 := Dx (Eo f) f
 have c5 := LZ (ca := []) [f.v, f.w] D9 fun x _ => Oo x
 have hbl := AA f.bs
 obtain ⟨r, hr⟩ : ∃ r, Eb f = r := ⟨_, rfl⟩
 rw [hr]
 rw [I4 (by omega), YL h] at hr
 simp only [Q8, List.map_cons, List.map_nil, PN, Hz] at c2 c5 hr
 generalize [(f.ep : Int), f.sn, f.fl, f.fq, f.pr, f.tl].all PG = b1 at *
 generalize hb2 : decide (Eo f = f) = b2 at *
 generalize [f.v, f.w].all D9 = b3 at *
 generalize Eo f = g at *
 clear hb2
 subst hr
 refine Am fun B => ?_
 cases b1 <;> cases b2 <;> cases b3
 all_goals
  repeat' (first | refine CW ?_ | refine GU ?_ | refine Al ?_ | (refine Ay ?_; first | refine cz (c1) ?_ | refine cz (c2) ?_ | refine cz (c3) ?_ | refine cz (c4) ?_ | refine cz (c5) ?_) | refine Ak ?_ | refine nc ?_ ?_ | (with_reducible intro _ <;> (try (exfalso; omega))) | refine Ad ?_ | (refine nd ?_ ?_ <;> intro hg <;> first | exact xo hg | rw [hg]))
 all_goals first
  | rfl
  | (rw [if_pos (by simp only [BQ, Bool.true_and, Bool.and_eq_true, decide_eq_true_eq]; omega)])
  | (rw [if_neg (by simp only [BQ, Bool.true_and, Bool.and_eq_true, decide_eq_true_eq]; omega)])
  | trace_state
theorem VX (f : Fr) (h : f.k = 4) : VP Tryz.prog 11 [.agg (Bx f)] (· = .ret (Ar (if Eb f then 0 else 300))) := by
 have c1 := GR f.k
 rw [show Bp f.k = Bp 4 by rw [h]] at c1
 simp only [Bp, Int.reduceEq, if_true, if_false] at c1
 have c2 := L0 (ca := []) (Q8 f) PG fun x _ => Lr x
 have c3 := Hh f (by omega)
 have c4 := Dx (Eo f) f
 have c5 := LZ (ca := []) [f.v, f.w] D9 fun x _ => Oo x
 have hbl := AA f.bs
 obtain ⟨r, hr⟩ : ∃ r, Eb f = r := ⟨_, rfl⟩
 rw [hr]
 rw [I4 (by omega), YJ h] at hr
 simp only [Q8, List.map_cons, List.map_nil, PN, Hz] at c2 c5 hr
 generalize [(f.ep : Int), f.sn, f.fl, f.fq, f.pr, f.tl].all PG = b1 at *
 generalize hb2 : decide (Eo f = f) = b2 at *
 generalize [f.v, f.w].all D9 = b3 at *
 generalize Eo f = g at *
 clear hb2
 subst hr
 refine Am fun B => ?_
 cases b1 <;> cases b2 <;> cases b3
 all_goals
  repeat' (first | refine CW ?_ | refine GU ?_ | refine Al ?_ | (refine Ay ?_; first | refine cz (c1) ?_ | refine cz (c2) ?_ | refine cz (c3) ?_ | refine cz (c4) ?_ | refine cz (c5) ?_) | refine Ak ?_ | refine nc ?_ ?_ | (with_reducible intro _ <;> (try (exfalso; omega))) | refine Ad ?_ | (refine nd ?_ ?_ <;> intro hg <;> first | exact xo hg | rw [hg]))
 all_goals first
  | rfl
  | (rw [if_pos (by simp only [BQ, Bool.true_and, Bool.and_eq_true, decide_eq_true_eq]; omega)])
  | (rw [if_neg (by simp only [BQ, Bool.true_and, Bool.and_eq_true, decide_eq_true_eq]; omega)])
  | trace_state
theorem VV (f : Fr) (h : f.k = 5) : VP Tryz.prog 11 [.agg (Bx f)] (· = .ret (Ar (if Eb f then 0 else 300))) := by
 have c1 := GR f.k
 rw [show Bp f.k = Bp 5 by rw [h]] at c1
 simp only [Bp, Int.reduceEq, if_true, if_false] at c1
 have c2 := L0 (ca := []) (Q8 f) PG fun x _ => Lr x
 have c3 := Hh f (by omega)
 have c4 := Dx (Eo f) f
 have c5 := LZ (ca := []) [f.v, f.w] D9 fun x _ => Oo x
 have hbl := AA f.bs
 obtain ⟨r, hr⟩ : ∃ r, Eb f = r := ⟨_, rfl⟩
 rw [hr]
 rw [I4 (by omega), YI h] at hr
 simp only [Q8, List.map_cons, List.map_nil, PN, Hz] at c2 c5 hr
 generalize [(f.ep : Int), f.sn, f.fl, f.fq, f.pr, f.tl].all PG = b1 at *
 generalize hb2 : decide (Eo f = f) = b2 at *
 generalize [f.v, f.w].all D9 = b3 at *
 generalize Eo f = g at *
 clear hb2
 subst hr
 refine Am fun B => ?_
 cases b1 <;> cases b2 <;> cases b3
 all_goals
  repeat' (first | refine CW ?_ | refine GU ?_ | refine Al ?_ | (refine Ay ?_; first | refine cz (c1) ?_ | refine cz (c2) ?_ | refine cz (c3) ?_ | refine cz (c4) ?_ | refine cz (c5) ?_) | refine Ak ?_ | refine nc ?_ ?_ | (with_reducible intro _ <;> (try (exfalso; omega))) | refine Ad ?_ | (refine nd ?_ ?_ <;> intro hg <;> first | exact xo hg | rw [hg]))
 all_goals first
  | rfl
  | (rw [if_pos (by simp only [Bool.true_and, Bool.or_eq_true, decide_eq_true_eq]; omega)])
  | (rw [if_neg (by simp only [Bool.true_and, Bool.or_eq_true, decide_eq_true_eq]; omega)])
  | trace_state

end Go.Proofs.YtbgcjnfhadhjeaaGreat