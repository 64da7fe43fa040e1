/- Walks by data and names, part 43: The program's frames, by V: bytes and operations that are read. The program's frames, by V: how a part is laid; which parts a kind uses. The program's frames, by V: bytes and operations as parts; parts found by their names. -/
import Derived.Test.YtbgcjnfhadhjeaaGreatQk42
import Derived.Test.YtbgcjnfhadhjeaaGreatQk27
import Derived.Test.YtbgcjnfhadhjeaaGreatQk39
import Derived.Test.YtbgcjnfhadhjeaaGreatQk25
import Derived.Test.YtbgcjnfhadhjeaaGreatQk30
import Derived.Test.YtbgcjnfhadhjeaaGreatQk40
import Derived.Test.YtbgcjnfhadhjeaaGreatQk28
namespace Go.Proofs.YtbgcjnfhadhjeaaGreat
set_option maxRecDepth 20000
open Go.RowKit
set_option maxRecDepth 10000
set_option maxHeartbeats 4000000
abbrev Uk (b o : D) (x : Fr) : List V := ((Do b o x).map V.d) ++ [.d .any]
theorem YK (t : List UInt8) (h : 2 ≤ t.length) : AV (t.take 2) < 65536 := by
 have hm := HR (t.take 2)
 rw [show (t.take 2).length = 2 by rw [List.length_take]; omega] at hm
 exact hm
theorem Adg (b o : D) (x y : Fr) (t u : List UInt8) (ht : t.length ≤ 1000000) (h : Be x .bs t = some (y, u)) : Dk Tryz.prog 134 1 [.ptr 0 0] [.c 0 0 (A6 b o x t)] 1 (.ret (.tup [])) [.c 0 0 (A6 (.sl false true (AG y.bs)) o y u)] 1 := by
 simp only [Be, HP] at h
 split at h
 ·cases h
 ·rename_i m r hr
  split at hr
  ·rename_i h2
   cases hr
   split at h
   ·rename_i hm
    cases h
    have hlt := YK t h2
    have c1 := OX b o x t 2 (by omega) h2 ht
    have c2 := NL b o x (t.drop 2) (AV (t.take 2)) hm (by rw [List.length_drop]; omega)
    generalize AV (t.take 2) = m at *
    have hbl := Av ((t.drop 2).take m)
    have hml : ((t.drop 2).take m).length ≤ 65536 := by rw [List.length_take]; omega
    simp only [A6, Do, List.map_cons, List.map_nil, List.cons_append, List.nil_append, Int.cast_ofNat_Int] at c1 c2 ⊢
    generalize (t.drop 2).take m = bb at *
    refine AH fun B M => ?_
    repeat' (first | refine Ai ?_ | (refine As ?_; first | refine Am [(0, none)] c1 ?_ | refine Am [(0, none)] c2 ?_) | refine Ah ?_ | refine nc ?_ ?_ | (with_reducible intro _ <;> (try (exfalso; omega))) | refine Aa ?_ | (refine nd ?_ ?_ <;> intro hg <;> first | exact xo hg | rw [hg]))
    refine NJ 1 rfl ?_
    exact GE []
   ·cases h
  ·cases hr
theorem AbK (b o : D) (x : Fr) (t : List UInt8) (ht : t.length ≤ 1000000) (h : Be x .bs t = none) : Dk Tryz.prog 134 1 [.ptr 0 0] [.c 0 0 (A6 b o x t)] 1 (.panic (.d DM)) [.c 0 0 (Uk b o x)] 1 := by
 simp only [Be, HP] at h
 split at h
 ·rename_i hr
  split at hr
  ·cases hr
  ·rename_i h2
   have c1 := NK b o x t 2 h2
   simp only [A6, Uk, Do, List.map_cons, List.map_nil, List.cons_append, List.nil_append, Int.cast_ofNat_Int] at c1 ⊢
   refine AH fun B M => ?_
   repeat' (first | refine Ai ?_ | (refine As ?_; first | refine Am [(0, none)] c1 ?_) | refine Ah ?_ | refine nc ?_ ?_ | (with_reducible intro _ <;> (try (exfalso; omega))) | refine Aa ?_ | (refine nd ?_ ?_ <;> intro hg <;> first | exact xo hg | rw [hg]))
   all_goals first | exact Ay [] | trace_state
 ·rename_i m r hr
  split at hr
  ·rename_i h2
   cases hr
   split at h
   ·cases h
   ·rename_i hm
    have hlt := YK t h2
    have c1 := OX b o x t 2 (by omega) h2 ht
    have c2 := Rv b o x (t.drop 2) (AV (t.take 2)) hm
    generalize AV (t.take 2) = m at *
    simp only [A6, Uk, Do, List.map_cons, List.map_nil, List.cons_append, List.nil_append, Int.cast_ofNat_Int] at c1 c2 ⊢
    refine AH fun B M => ?_
    repeat' (first | refine Ai ?_ | (refine As ?_; first | refine Am [(0, none)] c1 ?_ | refine Am [(0, none)] c2 ?_) | refine Ah ?_ | refine nc ?_ ?_ | (with_reducible intro _ <;> (try (exfalso; omega))) | refine Aa ?_ | (refine nd ?_ ?_ <;> intro hg <;> first | exact xo hg | rw [hg]))
    all_goals first | exact Ay [] | trace_state
  ·cases hr
theorem Q9 : ∀ {n : Nat} {b : List UInt8} {e : Int}, Dp n b = .error e → e = 110 ∨ e = 290
 | 0, b, e, h => by cases h
 | n + 1, b, e, h => by
  simp only [Dp] at h
  split at h
  ·rename_i h1; cases h; exact PN h1
  ·rename_i h1
   split at h
   ·rename_i h2; cases h; exact Q9 h2
   ·cases h
theorem Xd {b : List UInt8} {e : Int} (h : EZ b = .error e) : e = 110 ∨ e = 290 := by
 cases b with
 | nil => cases h; exact .inl rfl
 | cons n b =>
  simp only [EZ] at h
  split at h
  ·exact Q9 h
  ·cases h; exact .inr rfl
theorem TK (b o : D) (x : Fr) (t u : List UInt8) (l : List A5) (ht : t.length ≤ 1000000) (h : EZ t = .ok (l, u)) : Dk Tryz.prog 139 1 [.ptr 0 0, .d (.lit (.func (.func 140) #[] #[]))] [.c 0 0 (A6 b o x t)] 1 (.ret (.d (.sl false true (l.map oM)))) [.c 0 0 (A6 b o x u)] 1 := by
 have c1 := My t ht
 have hb := (N0 h).2.2
 have hl : t.length = (D8 l).length + u.length := by rw [← hb, List.length_append]
 have e1 : Br t = (l, ((D8 l).length : Int), 0) := by unfold Br; rw [h]; simp only [Prod.mk.injEq, true_and]; exact ⟨by omega, trivial⟩
 rw [e1] at c1
 dsimp only at c1
 have hu : t.drop (D8 l).length = u := by rw [← hb, List.drop_left]
 have c2 := NL b o x t (D8 l).length (by omega) ht
 rw [hu] at c2
 generalize (D8 l).length = k at *
 simp only [A6, Do, List.map_cons, List.map_nil, List.cons_append, List.nil_append] at c2 ⊢
 refine AH fun B M => ?_
 repeat' (first | refine Ai ?_ | (refine As ?_; first | (refine AJ (A3 0) ?_; first | refine Ag (A3 0) ?_ | refine Ao (CL 0) ?_ | (refine Aj (A9 _ 0) ?_ ?_ <;> intro _ <;> (try (exfalso; omega))) | (refine Ap (A9 _ 0) ?_ ?_ <;> intro _)) | refine cz (c1) ?_ | refine Am [(0, none)] c2 ?_) | refine Ah ?_ | refine nc ?_ ?_ | (with_reducible intro _ <;> (try (exfalso; omega))) | refine Aa ?_ | (refine nd ?_ ?_ <;> intro hg <;> first | exact xo hg | rw [hg]))
 all_goals first | exact A8 [] | trace_state
theorem R6 (b o : D) (x : Fr) (t : List UInt8) (e : Int) (ht : t.length ≤ 1000000) (h : EZ t = .error e) : Dk Tryz.prog 139 1 [.ptr 0 0, .d (.lit (.func (.func 140) #[] #[]))] [.c 0 0 (A6 b o x t)] 1 (.panic (.d DM)) [.c 0 0 (A6 b o x t)] 1 := by
 have c1 := My t ht
 have he := Xd h
 have e1 : Br t = ([], 0, e) := by unfold Br; rw [h]
 rw [e1] at c1
 dsimp only at c1
 simp only [A6, Do, List.map_cons, List.map_nil, List.cons_append, List.nil_append] at c1 ⊢
 refine AH fun B M => ?_
 repeat' (first | refine Ai ?_ | (refine As ?_; first | (refine AJ (A3 0) ?_; first | refine Ag (A3 0) ?_ | refine Ao (CL 0) ?_ | (refine Aj (A9 _ 0) ?_ ?_ <;> intro _ <;> (try (exfalso; omega))) | (refine Ap (A9 _ 0) ?_ ?_ <;> intro _)) | refine cz (c1) ?_) | refine Ah ?_ | refine nc ?_ ?_ | (with_reducible intro _ <;> (try (exfalso; omega))) | refine Aa ?_ | (refine nd ?_ ?_ <;> intro hg <;> first | exact xo hg | rw [hg]))
 all_goals first | exact Ay [] | trace_state
theorem Adf (b o : D) (x y : Fr) (t u : List UInt8) (ht : t.length ≤ 1000000) (h : Be x .os t = some (y, u)) : Dk Tryz.prog 138 1 [.ptr 0 0] [.c 0 0 (A6 b o x t)] 1 (.ret (.tup [])) [.c 0 0 (A6 b (.sl false true (y.os.map oM)) y u)] 1 := by
 simp only [Be] at h
 split at h
 ·cases h
 ·rename_i l r hr
  cases h
  have c1 := TK b o x t u l ht hr
  simp only [A6, Do, List.map_cons, List.map_nil, List.cons_append, List.nil_append] at c1 ⊢
  refine AH fun B M => ?_
  repeat' (first | refine Ai ?_ | (refine As ?_; first | refine Am [(0, none)] c1 ?_) | refine Ah ?_ | refine nc ?_ ?_ | (with_reducible intro _ <;> (try (exfalso; omega))) | refine Aa ?_ | (refine nd ?_ ?_ <;> intro hg <;> first | exact xo hg | rw [hg]))
  all_goals first | exact A8 [] | trace_state
theorem AbI (b o : D) (x : Fr) (t : List UInt8) (ht : t.length ≤ 1000000) (h : Be x .os t = none) : Dk Tryz.prog 138 1 [.ptr 0 0] [.c 0 0 (A6 b o x t)] 1 (.panic (.d DM)) [.c 0 0 (Uk b o x)] 1 := by
 simp only [Be] at h
 split at h
 ·rename_i e hr
  have c1 := R6 b o x t e ht hr
  simp only [A6, Uk, Do, List.map_cons, List.map_nil, List.cons_append, List.nil_append] at c1 ⊢
  refine AH fun B M => ?_
  repeat' (first | refine Ai ?_ | (refine As ?_; first | refine Am [(0, none)] c1 ?_) | refine Ah ?_ | refine nc ?_ ?_ | (with_reducible intro _ <;> (try (exfalso; omega))) | refine Aa ?_ | (refine nd ?_ ?_ <;> intro hg <;> first | exact xo hg | rw [hg]))
  all_goals first | exact Ay [] | trace_state
 ·cases h

set_option maxRecDepth 20000
set_option maxRecDepth 10000
abbrev bxD (b : List UInt8) : D := .sl true false (AG b)
instance Adp {f : Bool} {x y : List (List D)} [hs : CO x y] : DL (.sl true f x) (.sl true false y) := ⟨fun B B' U w u k => by
 simp only [drep] at k ⊢
 obtain ⟨a, cap, cs, e1, e2, e3, e4, e5, ⟨sz, e6⟩, e0, e7, e8⟩ := k
 exact ⟨a, cap, cs, by rw [e1, hs.len], by rw [← hs.len]; exact e2, e3, fun h => by rw [← hs.len]; exact e4 h, e5, ⟨sz, hs.sz sz e6⟩, e0, e7.imp fun b h => ⟨h.1, fun h => by cases h⟩, hs.le _ _ _ _ _ e8⟩⟩
theorem Vw (a b : List UInt8) (h : a.length + b.length ≤ 100000000) (hb : 0 < b.length) : VP Tryz.prog 137 [bxD a, BD b, An 0] (· = .ret (.tup [.sl false true (AG (a ++ b)), An 0])) := by
 have hal := Av a
 have hbl := Av b
 rw [RQ]
 refine VP.le ?_
 refine Al fun B => ?_
 repeat' (first | refine Ai ?_ | refine Ah ?_ | refine nc ?_ ?_ | (with_reducible intro _ <;> (try (exfalso; omega))) | refine Aa ?_ | (refine nd ?_ ?_ <;> intro hg <;> first | exact xo hg | rw [hg]))
 all_goals first | exact A7 _ | trace_state
theorem Aas (n : Fl) (hn : n = .ep ∨ n = .sn ∨ n = .fl ∨ n = .fq ∨ n = .pr ∨ n = .tl) (b : List UInt8) (f : Fr) (hb : b.length ≤ 1000000) (h : CZ f n) : VP Tryz.prog 171 (BD b :: .agg (Cc f) :: FU n) (· = .ret (.tup [.sl true true (AG (b ++ Bm f n)), An 0])) := by
 have c := fun k (hk : k ≤ 4611686018427387904) => US b 8 k (by omega) (by omega) (by omega)
 simp only [Int.cast_ofNat_Int] at c
 rcases hn with rfl | rfl | rfl | rfl | rfl | rfl
 all_goals
  simp only [CZ] at h
  have c1 := c _ h
  simp only [FU, N8, Cc, Dn, Do, Bm]
  refine Al fun B => ?_
  repeat' (first | refine Ai ?_ | (refine As ?_; first | refine cz (c1) ?_ | refine Ae 126 fun _ => ?_ | refine Ae 129 fun _ => ?_ | refine Ae 143 fun _ => ?_ | refine Ae 144 fun _ => ?_ | refine Ae 145 fun _ => ?_ | refine Ae 146 fun _ => ?_) | refine Ah ?_ | refine nc ?_ ?_ | (with_reducible intro _ <;> (try (exfalso; omega))) | refine Aa ?_ | (refine nd ?_ ?_ <;> intro hg <;> first | exact xo hg | rw [hg]))
 all_goals first | rfl | trace_state
theorem Aat (n : Fl) (hn : n = .si ∨ n = .ix ∨ n = .my) (b : List UInt8) (f : Fr) (hb : b.length ≤ 1000000) (h : CZ f n) : VP Tryz.prog 174 (BD b :: .agg (Cc f) :: FU n) (· = .ret (.tup [.sl true true (AG (b ++ Bm f n)), An 0])) := by
 have c := fun (k : Int) (hk : 0 ≤ k ∧ k < 256) => US b 1 k.toNat (by omega) (by omega) (by omega)
 rcases hn with rfl | rfl | rfl
 all_goals
  simp only [CZ] at h
  have c1 := c _ h
  rw [Int.toNat_of_nonneg h.1] at c1
  simp only [Int.cast_ofNat_Int] at c1
  simp only [FU, N8, Cc, Dn, Do, Bm]
  refine Al fun B => ?_
  repeat' (first | refine Ai ?_ | (refine As ?_; first | refine cz (c1) ?_ | refine Ae 128 fun _ => ?_ | refine Ae 130 fun _ => ?_ | refine Ae 131 fun _ => ?_) | refine Ah ?_ | refine nc ?_ ?_ | (with_reducible intro _ <;> (try (exfalso; omega))) | refine Aa ?_ | (refine nd ?_ ?_ <;> intro hg <;> first | exact xo hg | rw [hg]))
 all_goals first | rfl | trace_state
theorem Aap (n : Fl) (hn : n = .v ∨ n = .w) (b : List UInt8) (f : Fr) (hb : b.length ≤ 1000000) (h : CZ f n) : VP Tryz.prog 188 (bxD b :: .agg (Cc f) :: FU n) (· = .ret (.tup [.sl false true (AG (b ++ Bm f n)), An 0])) := by
 have c := fun (v : Vc) (hv : Ej v = true) => RY v (by have := (Kl v).1 hv; exact ⟨by omega, by omega, by omega, by omega, by omega, by omega, by omega, by omega, by omega⟩)
 have d := fun (v : Vc) => Vw b (IL v) (by rw [Hd]; omega) (by rw [Hd]; omega)
 rcases hn with rfl | rfl
 all_goals
  simp only [CZ] at h
  have c1 := c _ h
  have c2 := d f.v
  have c3 := d f.w
  rw [h] at c1
  simp only [if_true] at c1
  simp only [FU, N8, Cc, Dn, Do, Bm]
  refine Al fun B => ?_
  repeat' (first | refine Ai ?_ | (refine As ?_; first | refine cz (c1) ?_ | refine cz (c2) ?_ | refine cz (c3) ?_ | refine Ae 142 fun _ => ?_ | refine Ae 147 fun _ => ?_) | refine Ah ?_ | refine nc ?_ ?_ | (with_reducible intro _ <;> (try (exfalso; omega))) | refine Aa ?_ | (refine nd ?_ ?_ <;> intro hg <;> first | exact xo hg | rw [hg]))
 all_goals first | rfl | trace_state

set_option maxRecDepth 20000
set_option maxRecDepth 10000
theorem Aar (b : List UInt8) (f : Fr) (hb : b.length ≤ 1000000) (h : CZ f .bs) : VP Tryz.prog 132 [BD b, .agg (Cc f)] (· = .ret (.tup [.sl true true (AG (b ++ Bm f .bs)), An 0])) := by
 simp only [CZ] at h
 have c := Z0 b f.bs hb h
 simp only [Cc, Dn, Do, Bm]
 refine Al fun B => ?_
 repeat' (first | refine Ai ?_ | (refine As ?_; first | refine cz (c) ?_) | refine Ah ?_ | refine nc ?_ ?_ | (with_reducible intro _ <;> (try (exfalso; omega))) | refine Aa ?_ | (refine nd ?_ ?_ <;> intro hg <;> first | exact xo hg | rw [hg]))
 all_goals first | rfl | trace_state
theorem Rq {l : List A5} (h : ∀ o ∈ l, Dr o = true) (hl : l.length ≤ 64) : 0 < (D8 l).length ∧ (D8 l).length ≤ 20000 := by
 have h1 : ∀ l : List A5, (∀ o ∈ l, Dr o = true) → (l.flatMap Fk).length ≤ 280 * l.length := fun l h => by
  induction l with
  | nil => simp
  | cons x l ih =>
   have h1 := XA (h x (by simp))
   have h2 := ih fun o ho => h o (by simp [ho])
   rw [List.flatMap_cons, List.length_append, List.length_cons]; omega
 have h2 := h1 l h
 unfold D8
 rw [List.length_append, AI]; omega
theorem Xy {l : List A5} (h : ∀ o ∈ l, Dr o = true) (hl : l.length ≤ 64) : Mi l = (D8 l, 0) := by
 unfold Mi
 rw [if_neg (by omega), if_pos (List.all_eq_true.2 h)]
theorem Aaq (b : List UInt8) (f : Fr) (hb : b.length ≤ 1000000) (hp : ∀ o ∈ f.os, o.px.length ≤ 1000000) (h : CZ f .os) : VP Tryz.prog 135 [bxD b, .agg (Cc f)] (· = .ret (.tup [.sl false true (AG (b ++ Bm f .os)), An 0])) := by
 simp only [CZ] at h
 have c := Z4 f.os hp
 rw [Xy h.1 h.2] at c
 have hl := Rq h.1 h.2
 have d := Vw b (D8 f.os) (by omega) hl.1
 simp only [Cc, Dn, Do, Bm]
 refine Al fun B => ?_
 repeat' (first | refine Ai ?_ | (refine As ?_; first | refine cz (c) ?_ | refine cz (d) ?_) | refine Ah ?_ | refine nc ?_ ?_ | (with_reducible intro _ <;> (try (exfalso; omega))) | refine Aa ?_ | (refine nd ?_ ?_ <;> intro hg <;> first | exact xo hg | rw [hg]))
 all_goals first | rfl | trace_state
theorem Vm (m n : Fl) : VP Tryz.prog 88 [.agg (Fv m), .pt [Je n]] (· = .ret (.lit (.bool (decide (m.nm = n.nm))))) := by
 cases m
 all_goals
  simp only [Fv, Ii, Ih, FU, N8]
  refine Al fun B => ?_
  repeat' (first | refine Ai ?_ | refine Ah ?_ | refine nc ?_ ?_ | (with_reducible intro _ <;> (try (exfalso; omega))) | refine Aa ?_ | (refine nd ?_ ?_ <;> intro hg <;> first | exact xo hg | rw [hg]))
 all_goals first | rfl | trace_state
instance AaL (m : Fl) : El (Fv m) (Fv m) := by cases m <;> (simp only [Fv, Ii, Ih, FU]; infer_instance)
instance AcQ (l : List Fl) : CO (l.map Fv) (l.map Fv) := BM l _ _ (fun _ => inferInstance) (fun _ => rfl)
theorem Bp (n : Fl) : VP Tryz.prog 87 [.sl false false (Co.map Fv), .fn 88 [] [.pt [Je n]]] (· = .ret (An (Dw (fun m : Fl => decide (m.nm = n.nm)) 0 Co))) := by
 generalize Co = l
 generalize hp : (fun m : Fl => decide (m.nm = n.nm)) = p
 refine Al fun B => ?_
 repeat' (first | refine Ai ?_ | refine Ah ?_ | refine nc ?_ ?_ | (with_reducible intro _ <;> (try (exfalso; omega))) | refine Aa ?_ | (refine nd ?_ ?_ <;> intro hg <;> first | exact xo hg | rw [hg]))
 refine Bo 0 l Fv (fun (i : Nat) (_ : Unit) => ⟨[(8, I .i64 i), (7, I .i64 (l.map Fv).length), (0, .d (.sl false false (l.map Fv))), (1, .d (.fn 88 [] [.pt [Je n]]))], [], 0⟩) (fun i _ => Dw p 0 l = Dw p i (l.drop i)) () (AE) rfl (fun i y x hT hi hx hx' hlt hlm hlen hdr => ?_) (fun y hT hlt hlm => ?_)
 ·rw [hdr] at hT
  have c := Vm x n
  rw [show decide (x.nm = n.nm) = p x by rw [← hp]] at c
  haveI := AaL x
  simp only [Fv] at hx' c this ⊢
  repeat' (first | refine Ai ?_ | (refine As ?_; first | refine cz (c) ?_) | refine Ah ?_ | refine nc ?_ ?_ | (with_reducible intro _ <;> (try (exfalso; omega))) | refine Aa ?_ | (refine nd ?_ ?_ <;> intro hg <;> first | exact xo hg | rw [hg]))
  ·rw [hT]; simp_all [Dw]
  ·refine Bd () hi ?_ (AE); rw [hT]; simp_all [Dw]
 ·repeat' (first | refine Ai ?_ | refine Ah ?_ | refine nc ?_ ?_ | (with_reducible intro _ <;> (try (exfalso; omega))) | refine Aa ?_ | (refine nd ?_ ?_ <;> intro hg <;> first | exact xo hg | rw [hg]))
  rw [hT, List.drop_of_length_le (Nat.le_refl _)]; rfl
def Fl.no : Fl → Nat
 | .ep => 0
 | .si => 1
 | .sn => 2
 | .ix => 3
 | .my => 4
 | .bs => 5
 | .os => 6
 | .v => 7
 | .fl => 8
 | .fq => 9
 | .pr => 10
 | .tl => 11
 | .w => 12
theorem E9 (n : Fl) : Dw (fun m : Fl => decide (m.nm = n.nm)) 0 Co = n.no := by cases n <;> rfl
theorem Cb (n : Fl) : (Co.map Fv)[(n.no : Int).toNat]? = some (Fv n) := by cases n <;> rfl

set_option maxRecDepth 20000
set_option maxRecDepth 10000
set_option maxHeartbeats 8000000
theorem VO (f : Fr) (h : f.k = 3) (hl : ∀ o ∈ f.os, o.px.length ≤ 1000000) : VP Tryz.prog 11 [.agg (Cc f)] (· = .ret (An (if GK f then 0 else 300))) := by
 have c1 := In f.k
 rw [show BX f.k = BX 3 by rw [h]] at c1
 simp only [BX, Int.reduceEq, if_true, if_false] at c1
 have c2 := LX (ca := []) (QN f) Pw fun x _ => Lt x
 have c3 := Hw f (by omega)
 have c4 := H0 (E6 f) f
 have c5 := LW (ca := []) [f.v, f.w] Ej fun x _ => Og x
 have c6 := AaQ (f := 43) (ca := [.pt (Cc f)]) f.os _ fun x hx => AaB f x (hl x hx)
 have c7 := Ub ((f.os.take 4).map (·.id))
 have hcut := Acw oD f.os 4
 rw [show ((4 : Nat) : Int) = 4 from rfl] at hcut
 have hol := Fj f.os
 have hm4 : (f.os.take 4).length ≤ 4 := by simp; omega
 have hris : (f.os.length : Int) ≤ 4 → K2 ((f.os.take 4).map (·.id)) = Hk f.os := fun h => by rw [List.take_of_length_le (by omega), Ud]
 obtain ⟨r, hr⟩ : ∃ r, GK f = r := ⟨_, rfl⟩
 rw [hr]
 rw [Jd (by omega), YS h, show decide (1 ≤ f.os.length) = decide ((1 : Int) ≤ (f.os.length : Int)) from decide_eq_decide.2 (by omega), show decide (f.os.length ≤ 4) = decide ((f.os.length : Int) ≤ 4) from decide_eq_decide.2 (by omega)] at hr
 simp only [QN, List.map_cons, List.map_nil, PD, Gv] at c2 c5 hr
 generalize [(f.ep : Int), f.sn, f.fl, f.fq, f.pr, f.tl].all Pw = b1 at *
 generalize hb2 : decide (E6 f = f) = b2 at *
 generalize [f.v, f.w].all Ej = b3 at *
 generalize E6 f = g at *
 clear hb2
 generalize f.os.all (fun o => Dr o && (decide (f.si = 0) || decide (o.id.s = f.si))) = b4 at *
 generalize Hk f.os = b5 at *
 generalize K2 ((f.os.take 4).map (·.id)) = b6 at *
 generalize f.os.take 4 = m at *
 refine Al fun B => ?_
 refine Io (fun _ : Unit => ⟨[(1, .ptr 0 0)], [.c 0 0 ((Cc f).map V.d)], 1⟩) (fun _ => True) ?_ fun _ _ => ?_
 ·repeat' (first | refine Ai ?_ | refine Ah ?_ | refine nc ?_ ?_ | (with_reducible intro _ <;> (try (exfalso; omega))) | refine Aa ?_ | (refine nd ?_ ?_ <;> intro hg <;> first | exact xo hg | rw [hg]))
  exact Fm () trivial (AE)
 refine Io (fun _ : Unit => ⟨[(3, .fn (.func 37) [] []), (1, .ptr 0 0)], [.c 0 0 ((Cc f).map V.d)], 1⟩) (fun _ => True) ?_ fun _ _ => ?_
 ·repeat' (first | refine Ai ?_ | refine Ah ?_ | refine nc ?_ ?_ | (with_reducible intro _ <;> (try (exfalso; omega))) | refine Aa ?_ | (refine nd ?_ ?_ <;> intro hg <;> first | exact xo hg | rw [hg]))
  exact Fm () trivial (AE)
 refine Io (fun _ : Unit => ⟨[(4, .d (.sl false true [[AK f.ep], [AK f.sn], [AK f.fl], [AK f.fq], [AK f.pr], [AK f.tl]])), (3, .fn (.func 37) [] []), (1, .ptr 0 0)], [.c 0 0 ((Cc f).map V.d)], 1⟩) (fun _ => True) ?_ fun _ _ => ?_
 ·repeat' (first | refine C7 ?_ | refine Ai ?_ | refine Ah ?_ | refine nc ?_ ?_ | (with_reducible intro _ <;> (try (exfalso; omega))) | refine Aa ?_ | (refine nd ?_ ?_ <;> intro hg <;> first | exact xo hg | rw [hg]))
  exact Fm () trivial (AE)
 refine Io (fun _ : Unit => ⟨[(1, .ptr 0 0)], [.c 0 0 ((Cc f).map V.d)], 1⟩) (fun _ => (b1 && b2 && b3) = true) ?_ fun _ hb => ?_
 ·clear c6 c7
  subst hr
  cases b1 <;> cases b2 <;> cases b3
  all_goals
   repeat' (first | refine C7 ?_ | refine Ha ?_ | refine Ai ?_ | (refine As ?_; first | refine cz (c1) ?_ | refine cz (c2) ?_ | refine cz (c3) ?_ | refine cz (c4) ?_ | refine cz (c5) ?_) | refine Ah ?_ | refine nc ?_ ?_ | (with_reducible intro _ <;> (try (exfalso; omega))) | refine Aa ?_ | (refine nd ?_ ?_ <;> intro hg <;> first | exact xo hg | rw [hg]))
  all_goals first | rfl | exact Fm () rfl (AE) | trace_state
 clear c1 c2 c3 c4 c5
 rw [hb, Bool.true_and] at hr
 refine Io (fun s : Bool => ⟨[(6, .d (.lit (.bool true))), (5, .d (.lit (.bool s))), (1, .ptr 0 0)], [.c 0 0 ((Cc f).map V.d)], 1⟩) (fun s => s = Cg f.si) ?_ fun s5 h5 => ?_
 ·repeat' (first | refine Ai ?_ | refine Ah ?_ | refine nc ?_ ?_ | (with_reducible intro _ <;> (try (exfalso; omega))) | refine Aa ?_ | (refine nd ?_ ?_ <;> intro hg <;> first | exact xo hg | rw [hg]))
  ·refine Fm (decide (f.si ≤ 8)) ?_ (AE)
   simp only [Cg]; rw [decide_eq_true (show 1 ≤ f.si by omega), Bool.true_and]
  ·refine Fm false ?_ (AE)
   simp only [Cg]; rw [decide_eq_false (show ¬ 1 ≤ f.si by omega), Bool.false_and]
 rw [← h5] at hr
 clear h5 hb
 repeat' (first | rw [hcut] | refine Ai ?_ | refine Ah ?_ | refine nc ?_ ?_ | (with_reducible intro _ <;> (try (exfalso; omega))) | refine Aa ?_ | (refine nd ?_ ?_ <;> intro hg <;> first | exact xo hg | rw [hg]))
 refine HI 7 64 3 rfl ?_
 refine Bo 128 m oD (fun (i : Nat) (_ : Unit) => ⟨[(130, I .i64 i), (129, I .i64 (m.map oD).length), (128, .d (Ek m)), (7, .row 1 0), (6, .d (.lit (.bool true))), (5, .d (.lit (.bool s5))), (1, .ptr 0 0)], [.r true true 1 0 64 3 ((m.take i).map fun o => GJ o.id), .c 0 0 ((Cc f).map V.d)], 2⟩) (fun i _ => True) () (AE) trivial (fun i y x hT hi hx hx' hlt hlm hlen hdr => ?_) (fun y hT hlt hlm => ?_)
 ·have htk : m.take (i + 1) = m.take i ++ [x] := by rw [List.take_add_one, hx]; rfl
  have htl : ((m.take i).map fun o => GJ o.id).length ≤ 4 := by simp; omega
  clear c6 c7 hr hris
  simp only [oD, C6, GJ] at hx' htl ⊢
  repeat' (first | refine Ai ?_ | refine Ah ?_ | refine nc ?_ ?_ | (with_reducible intro _ <;> (try (exfalso; omega))) | refine Aa ?_ | (refine nd ?_ ?_ <;> intro hg <;> first | exact xo hg | rw [hg]))
  refine Bd () hi trivial ?_
  simp only [htk, List.map_append, List.map_cons, List.map_nil]
  exact (Eo [(1, _, _)])
 ·rw [List.take_of_length_le (Nat.le_refl _)]
  have c7 : VP Tryz.prog 46 [.sl false false (m.map fun o => GJ o.id)] (· = .ret (.lit (.bool b6))) := by rw [List.map_map] at c7; exact c7
  haveI : CO (m.map fun o => GJ o.id) (m.map fun o => GJ o.id) := BM m _ _ (fun _ => inferInstance) (fun _ => rfl)
  repeat' (first | refine Ai ?_ | (refine As ?_; first | refine cz (c6) ?_ | refine cz (c7) ?_) | refine Ah ?_ | refine nc ?_ ?_ | (with_reducible intro _ <;> (try (exfalso; omega))) | refine Aa ?_ | (refine nd ?_ ?_ <;> intro hg <;> first | exact xo hg | rw [hg]))
  all_goals
   clear c6 c7 this hl hcut hol hT hlt hlm
   simp only [List.length_map] at *
   rw [← hr]
   clear hr
  all_goals
   by_cases p0 : f.si = 0 <;> by_cases p1 : (1 : Int) ≤ (f.os.length : Int) <;> by_cases p2 : (f.os.length : Int) ≤ 4
   all_goals first
    | (exfalso; omega)
    | (simp only [p0, p1, p2, decide_true, decide_false, Bool.true_or, Bool.false_or, Bool.true_and, Bool.and_true, Bool.false_and, Bool.and_false]; (try have e := hris p2); cases s5 <;> cases b4 <;> cases b6 <;> cases b5 <;> first | rfl | contradiction | (exfalso; revert e; decide) | (exfalso; clear hris h hm4; simp_all; fail_if_success (focus skip)))
    | trace_state
theorem EJ (f : Fr) (hl : ∀ o ∈ f.os, o.px.length ≤ 1000000) : VP Tryz.prog 11 [.agg (Cc f)] (· = .ret (An (if GK f then 0 else 300))) := by
 rcases Kx f.k with h | h | h | h | h | ⟨h1, h2, h3, h4, h5⟩
 ·exact VR f h
 ·exact VQ f h
 ·exact VO f h hl
 ·exact VN f h
 ·exact VK f h
 ·have hb : GK f = false := by
   cases hb : GK f with
   | false => rfl
   | true => have := (NP hb).1.2.1; exfalso; omega
  rw [hb]
  exact SE f (by omega)

set_option maxRecDepth 20000
theorem Ww {P : Program} {f : FuncId} {fn : Func} {c : Code} {B m : Nat} {vs : List V} {st : List E} {nb : Nat} {K : RC → List E → Nat → Prop} (hf : P.funcs[f]? = some fn) (hb : fn.body = some c) {N : Nat} (hN : fn.ntmps = N) {rs : List ResultVar} (hrs0 : fn.results = rs.toArray)
  (h : ∀ M, SO P f ⟨N, none, B, m, some M, []⟩ c ⟨CF 0 vs, st, nb⟩ (Hl P rs (mK m K))) (hle : Nat.ble vs.length N = true := by rfl) (hname : (fn.name == "runtime.NumGoroutine") = false := by kernel_rfl) : SP P f B m vs st nb K := by
 refine ⟨Bu hf hname (by rw [hb]; rfl), ?_⟩
 have hrs : fn.results.toList = rs := by rw [hrs0]
 intro g w us hs hi hus
 rw [← callsIn_wide (n := 0)]
 refine GX hf hb trivial ?_
 have hS : Dg ⟨N, none, B, m, some w.heap.size, []⟩ g { tmps := us.toArray ++ Array.replicate (fn.ntmps - us.toArray.size) undef, defers := [] } w ⟨CF 0 vs, st, nb⟩ := by
  rw [hN]
  have := Gr (N := N) (nb := nb) (M := some w.heap.size) (df := []) hus hle hs hi ⟨(fun _ h => by first | (cases h; fail_if_success (focus skip)) | (cases h; exact Nat.le_refl _)), [], [], rfl, by simp, by simp, rfl⟩
  exact ⟨this.size, this.tm, this.st, this.inv, this.defers⟩
 refine HH (h w.heap.size 0 g w g _ w (Ei.refl _ _ _ _) hS) ?_
 rintro e a' w' ⟨g', s', e', hE, hS', he, hq⟩
 have hE := hE.strict hi fun h => by cases h; exact Nat.le_refl _
 obtain ⟨_, bs, rr, hds, hnd, hbs0, hrr⟩ := hS'.defers
 have hbs : ∀ b ∈ bs, g'.prot b ∧ w.heap.size ≤ b ∧ w'.heap[b]? = some (.deferred (some [])) := fun b hb => by
  obtain ⟨h1, ⟨m, h2, h3⟩, h4⟩ := hbs0 b hb
  cases h2; exact ⟨h1, h3, h4⟩
 simp only [Mr] at hrr
 rw [hrr, List.append_nil] at hds
 have hown : ∀ {w2}, Left bs w' w2 → ∀ b, g'.own b → w2.heap[b]? = w'.heap[b]? := fun hl b hb => hl.block b fun hm => (hbs b hm).1 hb
 have hleft : ∀ {w2}, Left bs w' w2 → Ei False m g w g' w2 := fun {w2} hl =>
  ⟨hl.os.trans hE.os, hl.tape.trans hE.tape, hl.output.trans hE.output, by rw [hl.size]; exact hE.size, hE.bx, hE.rw, fun b hlt hp => ⟨(hE.blk b hlt hp).1, (hl.block b fun hm => by have := (hbs b hm).2.1; omega).trans (hE.blk b hlt hp).2⟩, hE.ex,
   fun b he _ => (hl.block b fun hm => by have := (hbs b hm).2.1; have := hi.exlt he; omega).trans (hE.exb b he), hE.pl, fun b hp hlt => by rw [hl.block b fun hm => by have := (hbs b hm).2.1; omega]; exact hE.blur b hp hlt⟩
 have hret : (∃ vs, Cr P s' rs vs ∧ (K (.ret (Dq vs)) s'.st s'.nb ∧ m ≤ s'.nb)) →
   LeavesInM Fence.wide 0 P fn a'.tmps (fun e w' => ∃ g' st' nb' r, Ei False m g w g' w' ∧ AC B g' w' st' ∧ CG B nb' g' w' ∧ Hb B g' w' r e ∧ K r st' nb' ∧ m ≤ nb') a'.defers .returning w' := by
  rintro ⟨vs, hv, hq, hmn⟩
  rw [hds]
  refine B9 (by simp) bs w' hnd (fun b hb => (hbs b hb).2.2) fun w2 hl => ?_
  have C := DR hl fun b hb => (hbs b hb).2.2
  obtain ⟨u, h1, h2⟩ := Cr.all (fn := fn) hS' (hown hl) (by rw [hrs]; exact hv)
  simp only [LeavesIn]
  exact ⟨u, h1, g', s'.st, s'.nb, .ret (Dq vs), hleft hl, De C hS'.st, hS'.inv.evo (by rw [hl.size]; exact Nat.le_refl _), ⟨u, rfl, BW C h2⟩, hq, hmn⟩
 cases e' with
 | normal => simp only [BV] at he; subst he; exact hret hq
 | ret => simp only [BV] at he; subst he; exact hret hq
 | panic v =>
  obtain ⟨u, rfl, hu⟩ := he
  simp only [bodyPostM]
  rw [hds]
  refine B9 (by simp) bs w' hnd (fun b hb => (hbs b hb).2.2) fun w2 hl => ?_
  have C := DR hl fun b hb => (hbs b hb).2.2
  simp only [LeavesIn]
  exact ⟨g', s'.st, s'.nb, .panic v, hleft hl, De C hS'.st, hS'.inv.evo (by rw [hl.size]; exact Nat.le_refl _), ⟨u, rfl, BW C hu⟩, hq.1, hq.2⟩
 | exit id => exact hq.elim
 | goto l => exact hq.elim
theorem Zf {P : Program} {f : FuncId} {fn : Func} {N : Nat} {rs : List ResultVar} {c : Code} [h : Fc P f fn N rs] {m : Nat} {vs : List V} {st : List E} {nb : Nat} {K : RC → List E → Nat → Prop} (k : ∀ B M, SO P f ⟨N, none, B, m, some M, []⟩ c ⟨CF 0 vs, st, nb⟩ (Hl P rs (mK m K))) (hb : fn.body = some c := by rfl) (hle : Nat.ble vs.length N = true := by rfl) (hn : (fn.name == "runtime.NumGoroutine") = false := by kernel_rfl) : VM P f m vs st nb K := fun B => Ww h.get hb h.tmps h.res (k B) hle hn

end Go.Proofs.YtbgcjnfhadhjeaaGreat