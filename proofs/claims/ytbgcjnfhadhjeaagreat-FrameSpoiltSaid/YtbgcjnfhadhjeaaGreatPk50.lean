/- Walks by data and names, part 50: The program's sums of bytes, by V: the table of Km bits, and a register that is fed. append of an array variable's slice to a row of its own. The program's sums of bytes, by V: Sum, Seal, Open. -/
import Derived.Test.YtbgcjnfhadhjeaaGreatPk48
import Derived.Test.YtbgcjnfhadhjeaaGreatPk49
import Derived.Test.YtbgcjnfhadhjeaaGreatPk38
import Derived.Test.YtbgcjnfhadhjeaaGreatPk25
import Derived.Test.YtbgcjnfhadhjeaaGreatPk29
import Derived.Test.YtbgcjnfhadhjeaaGreatPk28
import Derived.Test.YtbgcjnfhadhjeaaGreatPk47
namespace Go.Proofs.YtbgcjnfhadhjeaaGreat
set_option maxRecDepth 20000
open Go.RowKit
set_option maxRecDepth 10000
set_option maxHeartbeats 4000000
theorem Ox {n : Nat} (h : Jd n) : Ke .u32 n := ⟨by decide, h⟩
theorem WZ (r : Nat) : AO r = if (r ^^^ 0) % 2 ^ 1 = 1 then (r / 2 ^ 1) ^^^ 3988292384 else r / 2 ^ 1 := by
 rw [Nat.xor_zero]; rfl
theorem Aan (r : Nat) (h : Jd r) : VP Tryz.prog 234 [Ee r, Ee 0] (· = .ret (Ee (AO r : Nat))) := by
 have h1 := Ox h
 have h2 : Ke .u32 (r ^^^ 0) := by rw [Nat.xor_zero]; exact h1
 have h3 : Ke .u32 (r / 2 ^ 1) := QB h1 (Nat.lt_of_le_of_lt (Nat.div_le_self _ _) h1.2)
 rw [WZ]
 refine Am fun B => ?_
 repeat' (first | refine Ni ?_ | refine WF 1 ?_ | refine S8 ?_ | refine Al ?_ | refine Ak ?_ | refine nc ?_ ?_ | (with_reducible intro _ <;> (try (exfalso; omega))) | refine Ad ?_ | (refine nd ?_ ?_ <;> intro hg <;> first | exact xo hg | rw [hg]))
 ·rename_i hc; rw [if_pos (Int.ofNat_inj.1 hc)]
 ·rename_i hc; rw [if_neg fun e => hc (by rw [e]; rfl)]
abbrev Zn : Bool → List V
 | false => [Bf 0, NZ 0, Bf 0, Bf 0, Bf 0, Bf 0, Bf 0, Bf 0, Bf 0, Bf 0, Bf 0, Bf 0, Bf 0, Bf 0, Bf 0, Bf 0, Bf 0, Bf 0, Bf 0]
 | true => [Bf 1, NZ 0, Bf 0, Bf (DT 4 0 : Nat), Bf (DT 4 1 : Nat), Bf (DT 4 2 : Nat), Bf (DT 4 3 : Nat), Bf (DT 4 4 : Nat), Bf (DT 4 5 : Nat), Bf (DT 4 6 : Nat), Bf (DT 4 7 : Nat), Bf (DT 4 8 : Nat), Bf (DT 4 9 : Nat), Bf (DT 4 10 : Nat), Bf (DT 4 11 : Nat), Bf (DT 4 12 : Nat), Bf (DT 4 13 : Nat), Bf (DT 4 14 : Nat), Bf (DT 4 15 : Nat)]
abbrev atE (f : Nat → Nat) : List E := [.c 1 0 [.ptr 0 0], .c 0 0 [Bf 0, NZ 1, Bf 0, Bf (f 0 : Nat), Bf (f 1 : Nat), Bf (f 2 : Nat), Bf (f 3 : Nat), Bf (f 4 : Nat), Bf (f 5 : Nat), Bf (f 6 : Nat), Bf (f 7 : Nat), Bf (f 8 : Nat), Bf (f 9 : Nat), Bf (f 10 : Nat), Bf (f 11 : Nat), Bf (f 12 : Nat), Bf (f 13 : Nat), Bf (f 14 : Nat), Bf (f 15 : Nat)]]
theorem Abl (k a : Nat) : DT (k + 1) a = AO (DT k a) := HC k 1 a
def upF (f : Nat → Nat) (i n : Nat) : Nat → Nat := fun j => match Nat.beq j i with
 | true => n
 | false => f j
theorem Abe {f : Nat → Nat} {i : Nat} (h : ∀ j, j < i → f j = DT 4 j) : ∀ j, j < i + 1 → upF f i (DT 4 i) j = DT 4 j := fun j hj => by
 unfold upF
 cases hb : Nat.beq j i with
 | true => rw [Nat.eq_of_beq_eq_true hb]
 | false => exact h j (by have := Nat.ne_of_beq_eq_false hb; omega)
theorem Acn (B : Nat) : VC Tryz.prog 233 B [.ptr 1 0] [.c 0 1 [NZ 1], .c 1 0 [.ptr 0 0], .c 0 0 (Zn false)] 2 (fun r s n => r = .ret (.tup []) ∧ s = atE (DT 4) ∧ n = 2) := by
 refine Ym Tryz.func233 rfl Tryz.ntmps233 Tryz.results233 fun M => ?_
 repeat' (first | refine Al ?_ | refine Ak ?_ | refine nc ?_ ?_ | (with_reducible intro _ <;> (try (exfalso; omega))) | refine Ad ?_ | (refine nd ?_ ?_ <;> intro hg <;> first | exact xo hg | rw [hg]))
 refine BT (fun z : Nat × (Nat → Nat) => ⟨[(3, I .i64 z.1), (0, .ptr 1 0)], atE z.2, 2⟩) (fun z => z.1 ≤ 16 ∧ ∀ j, j < z.1 → z.2 j = DT 4 j) (fun z => 16 - z.1) (0, fun _ => 0) (AI) ⟨by simp only; omega, fun j h => absurd h (Nat.not_lt_zero _)⟩ fun ⟨i, f⟩ hT => ?_
 simp only at hT ⊢
 obtain ⟨hi, hf⟩ := hT
 rcases Nat.lt_or_ge i 16 with h | h
 ·have hu : Jd i := by simp only [Jd]; omega
  repeat' (first | refine Al ?_ | refine Ak ?_ | refine nc ?_ ?_ | (with_reducible intro _ <;> (try (exfalso; omega))) | refine Ad ?_ | (refine nd ?_ ?_ <;> intro hg <;> first | exact xo hg | rw [hg]))
  refine BT (fun z : Nat × Nat => ⟨[(8, I .i64 z.1), (2, .d (Ee z.2)), (1, I .i64 i), (3, I .i64 i), (0, .ptr 1 0)], atE f, 2⟩) (fun z => z.1 ≤ 4 ∧ z.2 = DT z.1 i) (fun z => 4 - z.1) (0, i) (AI) ⟨by simp only; omega, rfl⟩ fun ⟨k, y⟩ hT => ?_
  simp only at hT ⊢
  obtain ⟨hk, hy⟩ := hT
  rcases Nat.lt_or_ge k 4 with h4 | h4
  ·have c := Aan y (by rw [hy]; exact Jj k hu)
   repeat' (first | refine Al ?_ | (refine Ay ?_; first | refine cz (c) ?_) | refine Ak ?_ | refine nc ?_ ?_ | (with_reducible intro _ <;> (try (exfalso; omega))) | refine Ad ?_ | (refine nd ?_ ?_ <;> intro hg <;> first | exact xo hg | rw [hg]))
   refine AU (k + 1, AO y) ⟨by simp only; omega, by simp only; rw [Abl, hy]⟩ (by simp only; omega) (AI)
  ·obtain rfl : k = 4 := by omega
   subst hy
   repeat' (first | refine Al ?_ | refine Ak ?_ | refine nc ?_ ?_ | (with_reducible intro _ <;> (try (exfalso; omega))) | refine Ad ?_ | (refine nd ?_ ?_ <;> intro hg <;> first | exact xo hg | rw [hg]))
   have key := Abe hf
   have hs : i = 0 ∨ i = 1 ∨ i = 2 ∨ i = 3 ∨ i = 4 ∨ i = 5 ∨ i = 6 ∨ i = 7 ∨ i = 8 ∨ i = 9 ∨ i = 10 ∨ i = 11 ∨ i = 12 ∨ i = 13 ∨ i = 14 ∨ i = 15 := by omega
   clear hf hu hk h4
   generalize DT 4 i = y at *
   rcases hs with rfl | rfl | rfl | rfl | rfl | rfl | rfl | rfl | rfl | rfl | rfl | rfl | rfl | rfl | rfl | rfl
   all_goals
    repeat' (first | refine Al ?_ | refine Ak ?_ | refine nc ?_ ?_ | (with_reducible intro _ <;> (try (exfalso; omega))) | refine Ad ?_ | (refine nd ?_ ?_ <;> intro hg <;> first | exact xo hg | rw [hg]))
    refine AU (_, upF f _ y) ⟨by simp only; omega, key⟩ (by simp only; omega) (AI)
 ·obtain rfl : i = 16 := by omega
  have e : atE f = atE (DT 4) := by simp only [atE, hf _ (show 0 < 16 by omega), hf _ (show 1 < 16 by omega), hf _ (show 2 < 16 by omega), hf _ (show 3 < 16 by omega), hf _ (show 4 < 16 by omega), hf _ (show 5 < 16 by omega), hf _ (show 6 < 16 by omega), hf _ (show 7 < 16 by omega), hf _ (show 8 < 16 by omega), hf _ (show 9 < 16 by omega), hf _ (show 10 < 16 by omega), hf _ (show 11 < 16 by omega), hf _ (show 12 < 16 by omega), hf _ (show 13 < 16 by omega), hf _ (show 14 < 16 by omega), hf _ (show 15 < 16 by omega)]
  rw [e]
  repeat' (first | refine Al ?_ | refine Ak ?_ | refine nc ?_ ?_ | (with_reducible intro _ <;> (try (exfalso; omega))) | refine Ad ?_ | (refine nd ?_ ?_ <;> intro hg <;> first | exact xo hg | rw [hg]))
  exact ⟨rfl, rfl, rfl⟩
theorem Adh (z : Bool) (n : Nat) (hn : n < 16) : C6 Tryz.prog 205 1 [.ptr 0 0, .d (Ee n)] [.c 0 0 (Zn z)] 1 (.ret (.d (Ee (DT 4 n : Nat)))) [.c 0 0 (Zn true)] 1 := by
 have hs : n = 0 ∨ n = 1 ∨ n = 2 ∨ n = 3 ∨ n = 4 ∨ n = 5 ∨ n = 6 ∨ n = 7 ∨ n = 8 ∨ n = 9 ∨ n = 10 ∨ n = 11 ∨ n = 12 ∨ n = 13 ∨ n = 14 ∨ n = 15 := by omega
 cases z
 ·refine AJ fun B M => ?_
  repeat' (first | refine Al ?_ | (refine Ay ?_; first | refine Bs (hc := XE rfl rfl (Acn _) rfl rfl ?_)) | refine Ak ?_ | refine nc ?_ ?_ | (with_reducible intro _ <;> (try (exfalso; omega))) | refine Ad ?_ | (refine nd ?_ ?_ <;> intro hg <;> first | exact xo hg | rw [hg]))
  clear hn
  rcases hs with rfl | rfl | rfl | rfl | rfl | rfl | rfl | rfl | rfl | rfl | rfl | rfl | rfl | rfl | rfl | rfl
  all_goals repeat' (first | refine Al ?_ | refine Ak ?_ | refine nc ?_ ?_ | (with_reducible intro _ <;> (try (exfalso; omega))) | refine Ad ?_ | (refine nd ?_ ?_ <;> intro hg <;> first | exact xo hg | rw [hg]))
  all_goals exact A4 []
 ·refine AJ fun B M => ?_
  repeat' (first | refine Al ?_ | (refine Ay ?_; first | refine Bs (hc := XD rfl ?_)) | refine Ak ?_ | refine nc ?_ ?_ | (with_reducible intro _ <;> (try (exfalso; omega))) | refine Ad ?_ | (refine nd ?_ ?_ <;> intro hg <;> first | exact xo hg | rw [hg]))
  clear hn
  rcases hs with rfl | rfl | rfl | rfl | rfl | rfl | rfl | rfl | rfl | rfl | rfl | rfl | rfl | rfl | rfl | rfl
  all_goals repeat' (first | refine Al ?_ | refine Ak ?_ | refine nc ?_ ?_ | (with_reducible intro _ <;> (try (exfalso; omega))) | refine Ad ?_ | (refine nd ?_ ?_ <;> intro hg <;> first | exact xo hg | rw [hg]))
  all_goals exact A4 []
theorem Abj (r : Nat) (_ : Jd r) : DT 4 r = r / 2 ^ 4 ^^^ DT 4 (r % 2 ^ 4) := by
 have e : r = r % 2 ^ 4 ^^^ 2 ^ 4 * (r / 2 ^ 4) := by
  rw [← L9 _ _ _ (Nat.mod_lt _ (by decide)), Nat.mod_add_div]
 conv => lhs; rw [e]
 rw [HB, IC, Nat.xor_comm]
theorem Aam (z : Bool) (r : Nat) (x : UInt8) (hr : Jd r) : C6 Tryz.prog 159 2 [.ptr 0 0, .d (.lit (vb x))] [.c 1 0 (Zn z), .c 0 0 [.ptr 1 0, Bf (r : Nat)]] 2 (.ret (.tup [])) [.c 1 0 (Zn true), .c 0 0 [.ptr 1 0, Bf (YR r x : Nat)]] 2 := by
 have hx := x.toNat_lt
 have i1 := Ox hr
 have i2 : Ke .u32 x.toNat := Ox (by simp only [Jd]; omega)
 have hr0 : Jd (r ^^^ x.toNat) := Nat.xor_lt_two_pow (n := 32) hr i2.2
 have e2 : YR r x = DT 8 (r ^^^ x.toNat) := rfl
 rw [e2]
 simp only [vb]
 refine AJ fun B M => ?_
 repeat' (first | refine Ni ?_ | refine Al ?_ | refine Ak ?_ | refine nc ?_ ?_ | (with_reducible intro _ <;> (try (exfalso; omega))) | refine Ad ?_ | (refine nd ?_ ?_ <;> intro hg <;> first | exact xo hg | rw [hg]))
 generalize r ^^^ x.toNat = r0 at *
 refine BT (fun s : Nat × Bool × Nat => ⟨[(13, I .i64 s.1), (0, .ptr 0 0)], [.c 1 0 (Zn s.2.1), .c 0 0 [.ptr 1 0, Bf (s.2.2 : Nat)]], 2⟩) (fun s => s.1 ≤ 2 ∧ Jd s.2.2 ∧ DT (4 * (2 - s.1)) s.2.2 = DT 8 r0 ∧ (s.1 = 0 ∨ s.2.1 = true)) (fun s => 2 - s.1) (0, z, r0) (by cases z <;> exact (AI)) ⟨by simp only; omega, hr0, rfl, .inl rfl⟩ fun ⟨i, z, r⟩ hT => ?_
 simp only at hT ⊢
 obtain ⟨hi, hr, he, hz⟩ := hT
 rcases Nat.lt_or_ge i 2 with h | h
 ·have j1 := Ox hr
  have c := Adh z (r % 2 ^ 4) (Nat.mod_lt _ (by decide))
  have ht := Abj r hr
  have hl1 : Jd (r / 2 ^ 4) := Nat.lt_of_le_of_lt (Nat.div_le_self _ _) hr
  have hl2 : Jd (DT 4 (r % 2 ^ 4)) := Jj 4 (Nat.lt_of_le_of_lt (Nat.mod_le _ _) hr)
  have hnx : DT (4 * (2 - (i + 1))) (DT 4 r) = DT 8 r0 := by rw [← HC, ← he]; congr 1; omega
  have hl3 := Jj 4 hr
  have j2 := Ox hl1
  have j3 := Ox hl2
  rw [ht] at hnx hl3
  cases z
  all_goals
   repeat' (first | refine DU (by kernel_rfl) ?_ | refine Al ?_ | refine Ak ?_ | refine nc ?_ ?_ | (with_reducible intro _ <;> (try (exfalso; omega))) | refine Ad ?_ | (refine nd ?_ ?_ <;> intro hg <;> first | exact xo hg | rw [hg]))
   repeat' (first | refine DC ?_ (h := fun _ _ => Yv rfl rfl rfl rfl rfl) | refine DC ?_ (h := fun _ _ => US 4 rfl rfl rfl rfl j1 ⟨by decide, by decide⟩) | refine DC ?_ | refine Cn ?_)
   refine KN (v := ?_) (st' := ?_) (nb' := ?_) (fun tmX => ?_) ?_ ?_
   rotate_left 3
   ·repeat' (first | refine Al ?_ | (refine Ay ?_; first | refine Aj [(1, none)] c ?_) | refine Ak ?_ | refine nc ?_ ?_ | (with_reducible intro _ <;> (try (exfalso; omega))) | refine Ad ?_ | (refine nd ?_ ?_ <;> intro hg <;> first | exact xo hg | rw [hg]))
    exact CZ
   ·repeat' (first | refine DC ?_ (h := fun _ _ => Yu rfl rfl rfl rfl j2 j3) | refine DC ?_)
    refine Aa7 (st' := ?_) (nb' := ?_) (fun tmX => ?_) ?_ ?_
    rotate_left 2
    ·repeat' (first | refine Al ?_ | refine Ak ?_ | refine nc ?_ ?_ | (with_reducible intro _ <;> (try (exfalso; omega))) | refine Ad ?_ | (refine nd ?_ ?_ <;> intro hg <;> first | exact xo hg | rw [hg]))
     exact O2
    ·refine Ba ?_
     repeat' (first | refine Al ?_ | refine Ak ?_ | refine nc ?_ ?_ | (with_reducible intro _ <;> (try (exfalso; omega))) | refine Ad ?_ | (refine nd ?_ ?_ <;> intro hg <;> first | exact xo hg | rw [hg]))
     refine AU (i + 1, true, _) ⟨by simp only; omega, hl3, hnx, .inr rfl⟩ (by simp only; omega) (AI)
    ·repeat' (first | exact trivial | exact rfl | refine ⟨?_, ?_⟩)
   ·repeat' (first | exact trivial | exact rfl | refine ⟨?_, ?_⟩)
 ·obtain rfl : i = 2 := by omega
  obtain rfl : z = true := by simpa using hz
  have he2 : r = DT 8 r0 := he
  rw [← he2]
  repeat' (first | refine Al ?_ | refine Ak ?_ | refine nc ?_ ?_ | (with_reducible intro _ <;> (try (exfalso; omega))) | refine Ad ?_ | (refine nd ?_ ?_ <;> intro hg <;> first | exact xo hg | rw [hg]))
  exact A4 []

set_option maxRecDepth 20000
theorem OD {B nb k : Nat} {g : G} {w : World} {st : List E} (hS : AG B g w st) {b : Nat} (hb : g.bx k = some b) : ∀ {us : List Value} {off : Nat}, AM k off st us.length = some (us.map fun u => .d (.lit u)) → Gk w (some ⟨b, off, none⟩) us
 | [], _, _ => fun j u hj => by simp at hj
 | u0 :: us, off, h => fun j u hj => by
  simp only [List.length_cons, AM, List.map_cons] at h
  split at h
  ·cases h
  ·rename_i x hx
   split at h
   ·cases h
   ·rename_i ys hy
    simp only [Option.some.injEq, List.cons.injEq] at h
    obtain ⟨rfl, rfl⟩ := h
    cases j with
    | zero =>
     simp only [List.getElem?_cons_zero, Option.some.injEq] at hj
     subst hj
     obtain ⟨b', v, e1, e2, e3, e4⟩ := FV hS hx
     rw [hb] at e1; cases e1
     simp only [vrep, drep] at e4
     subst e4
     exact ⟨b, off, rfl, by simpa using e2⟩
    | succ j =>
     simp only [List.getElem?_cons_succ] at hj
     obtain ⟨b', o', e1, e2⟩ := OD (nb := nb) hS hb hy j u hj
     cases e1
     exact ⟨b, off, rfl, by rw [show off + (j + 1) = off + 1 + j by omega]; exact e2⟩
theorem JX {B : Nat} {U : Nat → Prop} {w : World} : ∀ (us : List Value), drepss B U w (us.map fun u => [.lit u]) us
 | [] => by simp only [List.map_nil, drepss]
 | u :: us => by simp only [List.map_cons, drepss]; exact ⟨[u], us, rfl, by simp only [dreps, drep]; exact ⟨u, [], rfl, rfl, rfl⟩, JX us⟩
section
variable {P : Program} {cx : Cx} {s : St}
theorem WT {t ty e : TypeId} {x y : Operand} {k ver by_ : Nat} {l : List (List D)} {nw : Bool} {kk off n c : Nat} {us : List Value} [hE : EU P t e 1 by_] (hx : Af s x = some (.row k ver)) (hr : AB k s.st = some (true, nw, ver, e, 1, l)) (hy : Af s y = some (.sv kk off n c 1)) (hc : AM kk off s.st us.length = some (us.map fun u => .d (.lit u))) (hn : us.length = n) (h1 : ∀ u ∈ us, u.oneCell' = true)
  (hb : (l.length + us.length) * by_ ≤ 140737488355328) (h0 : 0 < by_) : YX P cx (.call { callee := .builtin .append, args := #[x, y], argTypes := #[t, t] }) ty s (.row k (ver + 1)) (.r true nw k (ver + 1) e 1 (l ++ us.map fun u => [.lit u]) :: s.st) s.nb := fun g a w hS => by
 have hx' := hS.eval hx
 simp only [vrep] at hx'
 have hy' := hS.eval hy
 simp only [vrep] at hy'
 obtain ⟨b1, y1, y2, y3, y4⟩ := hy'
 obtain ⟨v, xs, r1, r2, r3, r4, r5⟩ := hS.st.row hr
 rw [hx'.1] at r1; cases r1
 rcases r5 with ⟨_, r5, r6⟩ | ⟨h, _⟩
 ·have s1 : C8 w (a.eval y) us.length us := ⟨some ⟨b1, off, none⟩, c, by rw [y2, hn], by omega, y4, (fun h => by cases h), OD (nb := s.nb) hS.st y1 hc⟩
  have s2 : ∀ {U : Nat → Prop} {w : World}, drepss cx.B U w (us.map fun u => [.lit u]) us := JX us
  have hml : l.length + us.length ≤ maxLen := by
   have := Nat.le_mul_of_pos_right (l.length + us.length) h0
   unfold maxLen; omega
  obtain ⟨v', w', hrun, h1', h2, h3⟩ := EW (ty := ty) hE.elem r5 s1 (by simp) h1 hml hb
  have hold : ∀ b, b < w.heap.size → g.prot b → (g.prot b ∧ some b ≠ v'.ownBlock) ∧ w'.heap[b]? = w.heap[b]? := fun b hb' hp => by
   refine ⟨⟨hp, fun he => ?_⟩, h2.block b hb' fun he => hp (.inr (.inr ⟨k, r6.trans he.symm⟩))⟩
   rcases h3 b he.symm with h | h
   ·exact hp (.inr (.inr ⟨k, r6.trans h⟩))
   ·omega
  obtain ⟨m1, m2, m3, m4⟩ := GX hS.inv hS.st hr hx'.1 r6 h2 (Fk (AL (Nat.le_refl _) hold r2) (s2 (w := w')))
   ⟨fun x hx => (List.mem_append.1 hx).elim (r3.1 x) (fun h => by obtain ⟨u, _, rfl⟩ := List.mem_map.1 h; rfl), fun u hu => (List.mem_append.1 hu).elim (r3.2.1 u) (h1 u)⟩ (by rw [List.length_append, List.length_map]; exact h1') h3 (.inr rfl)
  exact ⟨v', _, w', EB hrun, m1, m2, m3, m4⟩
 ·cases h
end
section
variable {P : Program} {cx : Cx} {tm : List (Nat × V)} {st : List E} {nb : Nat} {Q : VE → St → Prop} {ops rest : List Oper}
def O7 : List V → Option (List Value)
 | [] => some []
 | .d (.lit u) :: l => (O7 l).map (u :: ·)
 | _ => none
theorem O6 : ∀ {l : List V} {us : List Value}, O7 l = some us → l = us.map fun u => .d (.lit u)
 | [], us, h => by simp only [O7, Option.some.injEq] at h; subst h; rfl
 | .d (.lit u) :: l, us, h => by
  simp only [O7, Option.map_eq_some_iff] at h
  obtain ⟨r, h, rfl⟩ := h
  rw [O6 h]; rfl
theorem Te {d : Tmp} {t ty e : TypeId} {x y : Operand} {k ver by_ : Nat} {l : List (List D)} {nw : Bool} {kk off n c : Nat} {us : List Value} {vs : List V} {pos : String} {af : Array Edge} {gd : Option (Nat × Bool)} [hE : EU P t e 1 by_]
  (kq : VL P cx ops rest ⟨(d, .row k (ver + 1)) :: tm, .r true nw k (ver + 1) e 1 (l ++ us.map fun u => [.lit u]) :: st, nb⟩ Q)
  (hx : Af ⟨tm, st, nb⟩ x = some (.row k ver) := by rfl) (hr : AB k st = some (true, nw, ver, e, 1, l) := by rfl) (hy : Af ⟨tm, st, nb⟩ y = some (.sv kk off n c 1) := by rfl) (hc : AM kk off st n = some vs := by rfl) (hu : O7 vs = some us := by rfl) (hn : us.length = n := by rfl) (h1 : us.all (·.oneCell') = true := by rfl)
  (hb : (l.length + us.length) * by_ ≤ 140737488355328 := by first | omega | (simp; omega)) (h0 : 0 < by_ := by decide) (hd : Nat.blt d cx.N = true := by rfl) (hw : Wd ops tm gd := by first | exact trivial | exact A9 rfl rfl (by with_reducible rfl)) :
  VL P cx ops (⟨some d, .call { callee := .builtin .append, args := #[x, y], argTypes := #[t, t] }, ty, pos, af, gd⟩ :: rest) ⟨tm, st, nb⟩ Q :=
 HV kq (Zo (h := WT hx hr hy (by rw [hn, hc, O6 hu]) hn (fun u h => List.all_eq_true.1 h1 u h) hb h0) (hd := hd) (hw := hw))
end

set_option maxRecDepth 10000
theorem Aaw (r : Nat) (b : List UInt8) (x : UInt8) : I8 r (b ++ [x]) = YR (I8 r b) x := by simp [I8]
theorem TP (b : List UInt8) (hb : b.length ≤ 1000000) : VP Tryz.prog 64 [.sl false false [[CV b]]] (· = .ret (Ee (E7 b : Nat))) := by
 have hbl := AA b
 have j0 := Ox (n := 0) (by decide)
 refine Am fun B => ?_
 repeat' (first | refine Tc ?_ | refine Al ?_ | (refine Ay ?_; first | refine Ae 105 fun _ => ?_ | refine Ae 158 fun _ => ?_ | refine Ae 160 fun _ => ?_) | refine Ak ?_ | refine nc ?_ ?_ | (with_reducible intro _ <;> (try (exfalso; omega))) | refine Ad ?_ | (refine nd ?_ ?_ <;> intro hg <;> first | exact xo hg | rw [hg]))
 refine GS fun R T hOk => ?_
 refine Cm fun M2 => ?_
 repeat' (first | refine Al ?_ | refine Ak ?_ | refine nc ?_ ?_ | (with_reducible intro _ <;> (try (exfalso; omega))) | refine Ad ?_ | (refine nd ?_ ?_ <;> intro hg <;> first | exact xo hg | rw [hg]))
 refine AF 2 ?_
 repeat' (first | refine Al ?_ | refine Ak ?_ | refine nc ?_ ?_ | (with_reducible intro _ <;> (try (exfalso; omega))) | refine Ad ?_ | (refine nd ?_ ?_ <;> intro hg <;> first | exact xo hg | rw [hg]))
 refine Bi 13 b (fun x => [.lit (vb x)]) (fun (i : Nat) (z : Bool × Nat) => ⟨[(15, I .i64 i), (14, I .i64 (AH b).length), (13, .d (CV b)), (9, I .i64 0), (8, I .i64 1), (7, .d (.sl false false [[CV b]])), (0, .yl 4), (1, .ptr 3 0)],
   [.y 4 (some R) T [(24, .yl 4), (6, .ptr 2 0), (5, .ptr 1 0)], .c 3 0 [.d (.sl false false [[CV b]])], .c 2 0 [.fn (.func 159) [.ptr 1 0] []], .c 1 0 [.ptr 0 0, Bf (z.2 : Nat)], .c 0 0 (Zn z.1)], 5⟩) (fun i z => Jd z.2 ∧ z.2 = I8 cF (b.take i)) (false, 2 ^ Wp .u32 - 1 - 0) (AI) ⟨by decide, rfl⟩ (fun i y x hT hi hx hx' hlt hlm hlen hdr => ?_) (fun y hT hlt hlm => ?_)
 ·obtain ⟨z, r⟩ := y
  obtain ⟨hr, hrb⟩ := hT
  simp only at hr hrb ⊢
  have htk : b.take (i + 1) = b.take i ++ [x] := by rw [List.take_add_one, hx]; rfl
  have hnx : YR r x = I8 cF (b.take (i + 1)) := by rw [htk, Aaw, ← hrb]
  have hnr : Jd (YR r x) := by rw [hnx]; exact N9 _ (by decide)
  have c := Aam z r x hr
  generalize YR r x = r' at *
  simp only [vb] at hx' c
  cases z
  all_goals
   repeat' (first | refine Al ?_ | (refine Ay ?_; first | refine AQ (by assumption) fun _ _ => ?_ | refine Aj [(1, none), (0, none)] c ?_) | refine Ak ?_ | refine nc ?_ ?_ | (with_reducible intro _ <;> (try (exfalso; omega))) | refine Ad ?_ | (refine nd ?_ ?_ <;> intro hg <;> first | exact xo hg | rw [hg]))
   refine Be (true, r') hi ⟨hnr, hnx⟩ (AI)
 ·obtain ⟨z, r⟩ := y
  obtain ⟨hr, hrb⟩ := hT
  simp only at hr hrb ⊢
  have j1 := Ox hr
  repeat' (first | refine Tc ?_ | refine Al ?_ | refine Ak ?_ | refine nc ?_ ?_ | (with_reducible intro _ <;> (try (exfalso; omega))) | refine Ad ?_ | (refine nd ?_ ?_ <;> intro hg <;> first | exact xo hg | rw [hg]))
  rw [hrb, List.take_of_length_le (Nat.le_refl _)]; rfl
 ·rename_i h; exact absurd (by simp) h
theorem R3 (w : Nat) (hw : Jd w) : VP Tryz.prog 63 [Ee w] (· = .ret (.agg [.lit (vb (UInt8.ofNat w)), .lit (vb (UInt8.ofNat (w / 256))), .lit (vb (UInt8.ofNat (w / 65536))), .lit (vb (UInt8.ofNat (w / 16777216)))])) := by
 refine Am fun B => ?_
 repeat' (first | refine S8 ?_ | refine Al ?_ | refine Ak ?_ | refine nc ?_ ?_ | (with_reducible intro _ <;> (try (exfalso; omega))) | refine Ad ?_ | (refine nd ?_ ?_ <;> intro hg <;> first | exact xo hg | rw [hg]))
 simp only [u8w, Nat.reducePow]
 rw [Ou (w / 16777216) (by simp only [Jd] at hw; omega)]
abbrev YN (w : Nat) : D := .agg [.lit (vb (UInt8.ofNat w)), .lit (vb (UInt8.ofNat (w / 256))), .lit (vb (UInt8.ofNat (w / 65536))), .lit (vb (UInt8.ofNat (w / 16777216)))]
theorem ID (b : List UInt8) (hb : b.length ≤ 1000000) : VP Tryz.prog 30 [CV b] (· = .own 5 1 (AH (AS b))) := by
 have c1 := TP b hb
 have c2 := R3 (E7 b) (N7 b)
 have hbl := AA b
 have hf := Pn (E7 b)
 unfold AS
 rw [Dz, LS]
 generalize E7 b = s at *
 refine Am fun B => ?_
 repeat' (first | refine CW ?_ | refine Om ?_ | refine Te ?_ | refine Al ?_ | (refine Ay ?_; first | refine cz (c1) ?_ | refine cz (c2) ?_) | refine Ak ?_ | refine nc ?_ ?_ | (with_reducible intro _ <;> (try (exfalso; omega))) | refine Ad ?_ | (refine nd ?_ ?_ <;> intro hg <;> first | exact xo hg | rw [hg]))
 all_goals rfl
theorem U8 (b : List UInt8) (h : b.length < 4) : VP Tryz.prog 29 [CV b] (· = .ret (.tup [.sl false true (AH []), Ar 120])) := by
 have hbl := AA b
 refine VP.le ?_
 refine Am fun B => ?_
 repeat' (first | refine Al ?_ | refine Ak ?_ | refine nc ?_ ?_ | (with_reducible intro _ <;> (try (exfalso; omega))) | refine Ad ?_ | (refine nd ?_ ?_ <;> intro hg <;> first | exact xo hg | rw [hg]))
 all_goals (simp only [HN, AH, List.map_nil]; infer_instance)
theorem XA (b : List UInt8) (hb : b.length ≤ 1000000) : VP Tryz.prog 29 [CV b] (· = .ret (.tup [.sl false true (AH ((DN b).getD [])), Ar (if (DN b).isSome then 0 else 120)])) := by
  rcases Nat.lt_or_ge b.length 4 with h4 | h4
  · rw [show DN b = none by unfold DN; rw [if_pos h4]]; exact U8 b h4
  · obtain ⟨hd, x0, x1, x2, x3, hbe, hhd, hdr⟩ := AbX h4
    have ho : DN b = if [x0, x1, x2, x3] = Km (E7 hd) then some hd else none := by unfold DN; rw [if_neg (by omega), hdr, ← hhd]
    rw [ho]
    have hbl := AA b
    have hlen : b.length = hd.length + 4 := by rw [hbe]; simp
    have hcut : Fv none (some (((AH b).length : Int) - 4)) (AH b) = AH hd := by
      rw [show ((AH b).length : Int) - 4 = ((b.length - 4 : Nat) : Int) by omega, QK, ← hhd]
    have hcut2 : Fv (some (((AH b).length : Int) - 4)) none (AH b) = AH [x0, x1, x2, x3] := by
      rw [show ((AH b).length : Int) - 4 = ((b.length - 4 : Nat) : Int) by omega, Aau, hdr]
    have hdl : hd.length ≤ 1000000 := by omega
    have c1 := TP hd hdl
    have c2 := R3 (E7 hd) (N7 hd)
    have hhl := AA hd
    obtain ⟨y0, y1, y2, y3, hf⟩ : ∃ y0 y1 y2 y3, Km (E7 hd) = [y0, y1, y2, y3] := ⟨_, _, _, _, rfl⟩
    have hfd : YN (E7 hd) = .agg [.lit (vb y0), .lit (vb y1), .lit (vb y2), .lit (vb y3)] := by
      have := LS (E7 hd)
      rw [hf] at this
      simp only [AH, List.map_cons, List.map_nil, List.cons.injEq, and_true, D.lit.injEq] at this
      simp only [YN, this]
    rw [hf]
    rw [show (D.agg [.lit (vb (UInt8.ofNat (E7 hd))), .lit (vb (UInt8.ofNat (E7 hd / 256))), .lit (vb (UInt8.ofNat (E7 hd / 65536))), .lit (vb (UInt8.ofNat (E7 hd / 16777216)))]) = _ from hfd] at c2
    clear hfd hf
    generalize E7 hd = s at *
    refine VP.le ?_
    refine Am fun B => ?_
    obtain ⟨ys, hyl, hys, g0, g1, g2, g3⟩ : ∃ ys : List (List D), ys.length = 4 ∧ AH [x0, x1, x2, x3] = ys ∧ ys[(0 : Int).toNat]? = some [.lit (vb x0)] ∧ ys[((0 : Int) + 1).toNat]? = some [.lit (vb x1)] ∧ ys[((0 : Int) + 1 + 1).toNat]? = some [.lit (vb x2)] ∧ ys[((0 : Int) + 1 + 1 + 1).toNat]? = some [.lit (vb x3)] := ⟨_, rfl, rfl, rfl, rfl, rfl, rfl⟩
    rw [hys] at hcut2
    repeat' (first | rw [hcut] | rw [hcut2] | refine CW ?_ | refine GU ?_ | refine Al ?_ | (refine Ay ?_; first | refine cz (c1) ?_ | refine cz (c2) ?_ | refine Ae 16 fun _ => ?_ | refine Bg ?_ | refine On ?_) | refine Ak ?_ | refine nc ?_ ?_ | (with_reducible intro _ <;> (try (exfalso; omega))) | refine Ad ?_ | (refine nd ?_ ?_ <;> intro hg <;> first | exact xo hg | rw [hg]))
    refine AF 5 ?_
    repeat' (first | rw [hcut] | refine WK ?_ (h := fun _ => Ry rfl rfl (by omega) (by omega)) | refine Al ?_ | refine Ak ?_ | refine nc ?_ ?_ | (with_reducible intro _ <;> (try (exfalso; omega))) | refine Ad ?_ | (refine nd ?_ ?_ <;> intro hg <;> first | exact xo hg | rw [hg]))
    all_goals first
      | (exfalso; omega)
      | (rename_i hne; rw [if_neg (fun h => hne (by simp only [List.cons.injEq, and_true] at h; obtain ⟨h0, h1, h2, h3⟩ := h; first | rw [h0] | rw [h1] | rw [h2] | rw [h3]))]; simp only [HN, Option.getD_none, Option.isSome_none, Bool.false_eq_true, if_false, AH, List.map_nil]; infer_instance)
      | (rename_i q0 _ q1 _ q2 _ q3 _
         rw [if_pos (by rw [ME q0, ME q1, ME q2, ME q3])]
         exact AP _)
      | trace_state

set_option maxRecDepth 20000
set_option maxRecDepth 10000
set_option maxHeartbeats 8000000
theorem MN (c : List UInt8) (hc : c.length ≤ 900000) : VM Tryz.prog 59 1 [.ptr 0 0] [.c 0 0 (A2 E4 E4 Fr.zero c)] 1 (Uo c) := by
 cases c with
 | nil => exact Su
 | cons k c => exact Xb k c (by simp at hc; omega)
theorem Ul {c : List UInt8} {f : Fr} (hc : c.length ≤ 900000) (h : Gr c = some f) : C6 Tryz.prog 59 1 [.ptr 0 0] [.c 0 0 (A2 E4 E4 Fr.zero c)] 1 (.ret (.tup [])) [.c 0 0 (A2 (YW f.bs) (Yz f.os) f [])] 1 := VM.sub1 (VM.mono (MN c hc) fun _ _ _ k => k.1 f h)
theorem Um {c : List UInt8} (hc : c.length ≤ 900000) (h : Gr c = none) : C6 Tryz.prog 59 1 [.ptr 0 0] [.c 0 0 (A2 E4 E4 Fr.zero c)] 1 (.panic (.d DA)) [.c 0 0 Nf] 1 := VM.sub1 (VM.mono (MN c hc) fun _ _ _ k => k.2 h)
theorem U9 {b c : List UInt8} (h : DN b = some c) : c.length ≤ b.length := by
 unfold DN at h
 split at h
 ·cases h
 ·split at h
  ·cases h; rw [List.length_take]; omega
  ·cases h
theorem Jp (b : List UInt8) (hb : b.length ≤ 900000) : VP Tryz.prog 23 [CV b] (· = .ret (.tup [.agg (Gl (CY b).1), Ar (CY b).2])) := by
 have co := XA b (by omega)
 refine VP.le ?_
 unfold CY
 cases ho : DN b with
 | none =>
  rw [ho] at co
  simp only [Option.getD_none, Option.isSome_none, Bool.false_eq_true, if_false] at co
  refine Tg fun B => AN (fd := 58) Tryz.func23 rfl Tryz.ntmps23 Tryz.results23 fun M => ?_
  repeat' (first | (refine DU (by kernel_rfl) ?_; repeat' (first | refine Ba ?_ | refine DC ?_ | refine Cn ?_ | refine Bt ?_ | refine Ct ?_)) | refine Al ?_ | (refine Ay ?_; first | refine cz (co) ?_) | refine Ak ?_ | refine nc ?_ ?_ | (with_reducible intro _ <;> (try (exfalso; omega))) | refine Ad ?_ | (refine nd ?_ ?_ <;> intro hg <;> first | exact xo hg | rw [hg]) | refine AR Tryz.func58 rfl Tryz.ntmps58 Tryz.results58 ?_ | refine Jh ?_)
  all_goals (refine ⟨_, rfl, ?_⟩; simp only [HN, Gl, Cj, Fr.zero, Vc.zero, AH, List.map_nil]; first | exact AP _ | infer_instance | trace_state)
 | some c =>
  have hc := U9 ho
  rw [ho] at co
  simp only [Option.getD_some, Option.isSome_some, if_true] at co
  cases hr : Gr c with
  | none =>
   have c1 := Um (by omega) hr
   simp only [A2, Db, List.map_cons, List.map_nil, List.cons_append, List.nil_append] at c1
   refine Tg fun B => AN (fd := 58) Tryz.func23 rfl Tryz.ntmps23 Tryz.results23 fun M => ?_
   repeat' (first | (refine DU (by kernel_rfl) ?_; repeat' (first | refine Ba ?_ | refine DC ?_ | refine Cn ?_ | refine Bt ?_ | refine Ct ?_)) | refine Al ?_ | (refine Ay ?_; first | refine cz (co) ?_ | refine Aj [(2, none)] c1 ?_) | refine Ak ?_ | refine nc ?_ ?_ | (with_reducible intro _ <;> (try (exfalso; omega))) | refine Ad ?_ | (refine nd ?_ ?_ <;> intro hg <;> first | exact xo hg | rw [hg]) | refine AR Tryz.func58 rfl Tryz.ntmps58 Tryz.results58 ?_ | refine Jh ?_)
   all_goals (refine ⟨_, rfl, ?_⟩; simp only [HN, Gl, Cj, Fr.zero, Vc.zero, AH, List.map_nil, hr]; first | exact AP _ | infer_instance | trace_state)
  | some f =>
   have c1 := Ul (by omega) hr
   simp only [A2, Db, List.map_cons, List.map_nil, List.cons_append, List.nil_append] at c1
   refine Tg fun B => AN (fd := 58) Tryz.func23 rfl Tryz.ntmps23 Tryz.results23 fun M => ?_
   repeat' (first | (refine DU (by kernel_rfl) ?_; repeat' (first | refine Ba ?_ | refine DC ?_ | refine Cn ?_ | refine Bt ?_ | refine Ct ?_)) | refine Al ?_ | (refine Ay ?_; first | refine cz (co) ?_ | refine Aj [(2, none)] c1 ?_) | refine Ak ?_ | refine nc ?_ ?_ | (with_reducible intro _ <;> (try (exfalso; omega))) | refine Ad ?_ | (refine nd ?_ ?_ <;> intro hg <;> first | exact xo hg | rw [hg]) | refine AR Tryz.func58 rfl Tryz.ntmps58 Tryz.results58 ?_ | refine Jh ?_)
   all_goals (refine ⟨_, rfl, ?_⟩; simp only [HN, Gl, Cj, YW, Yz, AH, hr]; first | exact AP _ | infer_instance | trace_state)

end Go.Proofs.YtbgcjnfhadhjeaaGreat