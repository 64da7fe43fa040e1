/- Lay, Split and their references in one contract each; s[:k] of rows of numbers. -/
import Derived.Test.YtpooakhmpfbmgaaOctInc
import Derived.Test.YtpooakhmpfbmgaaOctRows
import Derived.Test.YtpooakhmpfbmgaaOctRSplit
namespace Go.Proofs.Ytpooakhmpfbmgaa
open Go.RowKit

def layBs (xs : List Int) (ns : List Nat) : List UInt8 := if layRNo xs ns = 0 then layR xs ns else []
def splitV (xs : List Int) (bs : List UInt8) : List Nat := if splitNo xs bs.length = 0 then splitR xs bs else []
theorem layRNo_zero {xs : List Int} {ns : List Nat} (h : layRNo xs ns = 0) : allW xs = true ∧ ns.length = xs.length ∧ fitsR xs ns = true := by
  unfold layRNo at h
  split at h
  · split at h
    · split at h
      · exact ⟨by assumption, by assumption, by assumption⟩
      · cases h
    · cases h
  · cases h

theorem lay_any (v1 v2 : Value) (xs : List Int) (ns : List Nat) (w : World) (hx : IntsS w v1 xs) (hn : U64S w v2 ns) (hl : xs.length ≤ 1000) (h64 : ∀ n ∈ ns, n < 18446744073709551616) :
    Calls Try.prog 29 #[v1, v2] w fun e w' => ∃ a c, e = .returned (.tuple #[.slice a (layBs xs ns).length c, .int .i64 (layRNo xs ns)]) ∧ OwnB w.heap.size w' (.slice a (layBs xs ns).length c) (layBs xs ns) ∧ Below w.heap.size w w' := by
  unfold layBs
  by_cases h0 : layRNo xs ns = 0
  · rw [if_pos h0, h0]
    obtain ⟨g1, g2, g3⟩ := layRNo_zero h0
    refine (lay_yes v1 v2 xs ns w hx hn hl g1 g2 g3).mono ?_
    rintro e w' ⟨a, m, c, rfl, ho, hb⟩
    obtain rfl := ho.bytes.at
    exact ⟨a, c, rfl, ho, hb⟩
  · rw [if_neg h0]
    refine (lay_no v1 v2 xs ns w hx hn hl h64 h0).mono ?_
    rintro e w' ⟨rfl, hb⟩
    exact ⟨_, _, rfl, World.ownsRow_nil _ _ _ _, hb⟩
theorem rrows_any (v1 v2 : Value) (xs : List Int) (ns : List Nat) (w : World) (hx : IntsS w v1 xs) (hn : U64S w v2 ns) (hl : xs.length ≤ 1000) (h64 : ∀ n ∈ ns, n < 18446744073709551616) :
    Calls Try.prog 30 #[v1, v2] w fun e w' => ∃ a c, e = .returned (.tuple #[.slice a (layBs xs ns).length c, .int .i64 (layRNo xs ns)]) ∧ OwnB w.heap.size w' (.slice a (layBs xs ns).length c) (layBs xs ns) ∧ Below w.heap.size w w' := by
  unfold layBs
  by_cases h0 : layRNo xs ns = 0
  · rw [if_pos h0, h0]
    obtain ⟨g1, g2, g3⟩ := layRNo_zero h0
    refine (rrows_yes v1 v2 xs ns w hx hn hl h64 g1 g2 g3).mono ?_
    rintro e w' ⟨a, m, c, rfl, ho, hb⟩
    obtain rfl := ho.bytes.at
    exact ⟨a, c, rfl, ho, hb⟩
  · rw [if_neg h0]
    refine (rrows_no v1 v2 xs ns w hx hn hl h64 h0).mono ?_
    rintro e w' ⟨rfl, hb⟩
    exact ⟨_, _, rfl, World.ownsRow_nil _ _ _ _, hb⟩
theorem U64S.at {w : World} {a : Option Addr} {n c : Nat} {l : List Nat} (h : U64S w (.slice a n c) l) : n = l.length := by
  obtain ⟨a', c', e, _⟩ := h
  cases e; rfl
theorem IntsS.at {w : World} {a : Option Addr} {n c : Nat} {l : List Int} (h : IntsS w (.slice a n c) l) : n = l.length := by
  obtain ⟨a', c', e, _⟩ := h
  cases e; rfl
theorem split_any (v1 v2 : Value) (xs : List Int) (bs : List UInt8) (w : World) (hx : IntsS w v1 xs) (hb : Bytes w v2 bs) (hl : xs.length ≤ 1000) :
    Calls Try.prog 31 #[v1, v2] w fun e w' => ∃ a c, e = .returned (.tuple #[.slice a (splitV xs bs).length c, .int .i64 (splitNo xs bs.length)]) ∧ OwnU w.heap.size w' (.slice a (splitV xs bs).length c) (splitV xs bs) ∧ Below w.heap.size w w' := by
  unfold splitV
  by_cases h0 : splitNo xs bs.length = 0
  · rw [if_pos h0, h0]
    obtain ⟨g1, g2⟩ := splitNo_zero h0
    refine (split_yes v1 v2 xs bs w hx hb hl g1 g2).mono ?_
    rintro e w' ⟨a, m, c, rfl, ho, hb⟩
    obtain rfl := ho.sl.at
    exact ⟨a, c, rfl, ho, hb⟩
  · rw [if_neg h0]
    refine (split_no v1 v2 xs bs w hx hb hl h0).mono ?_
    rintro e w' ⟨rfl, hb⟩
    exact ⟨_, _, rfl, World.ownsRow_nil _ _ _ _, hb⟩
theorem rsplit_any (v1 v2 : Value) (xs : List Int) (bs : List UInt8) (w : World) (hx : IntsS w v1 xs) (hb : Bytes w v2 bs) (hl : xs.length ≤ 1000) :
    Calls Try.prog 32 #[v1, v2] w fun e w' => ∃ a c, e = .returned (.tuple #[.slice a (splitV xs bs).length c, .int .i64 (splitNo xs bs.length)]) ∧ OwnU w.heap.size w' (.slice a (splitV xs bs).length c) (splitV xs bs) ∧ Below w.heap.size w w' := by
  unfold splitV
  by_cases h0 : splitNo xs bs.length = 0
  · rw [if_pos h0, h0]
    obtain ⟨g1, g2⟩ := splitNo_zero h0
    refine (rsplit_yes v1 v2 xs bs w hx hb hl g1 g2).mono ?_
    rintro e w' ⟨a, m, c, rfl, ho, hb⟩
    obtain rfl := ho.sl.at
    exact ⟨a, c, rfl, ho, hb⟩
  · rw [if_neg h0]
    refine (rsplit_no v1 v2 xs bs w hx hb hl h0).mono ?_
    rintro e w' ⟨rfl, rfl⟩
    exact ⟨_, _, rfl, World.ownsRow_nil _ _ _ _, Below.refl _ _⟩

/-- s[:k] of a slice of elements of one cell -/
theorem slicedH (a : Option Addr) (n c k : Nat) (hk : k ≤ n) (hc : n ≤ c) : ∃ a' c', sliced a 0 k c 1 = .slice a' k c' ∧ ∀ (W : World) (cs : List Value), IsSl W (.slice a n c) n cs → cs.length = n → IsSl W (.slice a' k c') k (cs.take k) := by
  refine ⟨_, _, rfl, ?_⟩
  intro W cs ⟨a0, c0, e, q1, q2, q3, q4⟩ hl
  cases e
  refine ⟨_, _, rfl, by omega, Nat.le_trans (Nat.sub_le _ _) q2, ?_, ?_⟩
  · intro hn
    split at hn
    · rename_i e; omega
    · cases a with
      | none => have := q3 rfl; omega
      | some x => simp at hn
  · intro j u hu
    have hj : j < k := by have := (List.getElem?_eq_some_iff.1 hu).1; simp at this; omega
    have hu' : cs[j]? = some u := by rw [← hu, List.getElem?_take, if_pos hj]
    obtain ⟨b, o, e1, hc⟩ := q4 j u hu'
    subst e1
    rw [if_neg (by omega)]
    exact ⟨b, o, by simp [Addr.add], hc⟩

section
variable {ops : Array Oper} {Q : Exit → Act → World → Prop} {C : World → Prop} {Qq : Act → Prop} {rest : List Oper} {a : Act} {w : World} {dst : Option Tmp} {p q : Operand} {t ty : TypeId} {pos : String} {af : Array Edge} {g : Option (Nat × Bool)} {ad : Option Addr} {n c : Nat}
theorem op_slice_hT (ev : Operand → Value) (k : Nat) (ht : Try.prog.underlying t = some (.slice (Try.prog.elem t))) (hsz : ∀ w, (sizeOf (Try.prog.elem t)).run Try.prog w = .ok 1 w) (hp : ev p = .slice ad n c) (hq : ev q = .int .i64 k) (hk : k ≤ n) (hc : n ≤ c) (v : Value) (hv : sliced ad 0 k c 1 = v) (w : World) :
    (execOp ev ⟨dst, .slice t p none (some q) none, ty, pos, af, g⟩).run Try.prog w = .ok (.value v) w := by
  have h := run_slice_h (P := Try.prog) (w := w) t ad n c ht .i64 (k : Int) (by omega) (by omega)
  rw [hsz] at h
  simp only [Int.toNat_natCast, Result.andThen_ok, hv] at h
  simp only [execOp, Option.map_some, Option.map_none, hp, hq, Sem.run_bind, run_sliceAt_slice (P := Try.prog) (w := w) t _ _ _ _ ht, h, Result.andThen_ok, Sem.run_pure]
theorem wq_slice_hT (k : Nat) (ht : Try.prog.underlying t = some (.slice (Try.prog.elem t))) (hsz : ∀ w, (sizeOf (Try.prog.elem t)).run Try.prog w = .ok 1 w)
    (hw : Region.wanted ⟨dst, .slice t p none (some q) none, ty, pos, af, g⟩ (yielded ops a.tmps) = true) (hp : a.eval p = .slice ad n c) (hq : a.eval q = .int .i64 k) (hk : k ≤ n) (hc : n ≤ c)
    (h : ∀ a' c', (∀ (W : World) (cs : List Value), IsSl W (.slice ad n c) n cs → cs.length = n → IsSl W (.slice a' k c') k (cs.take k)) → wpQuiet Try.prog ops C Qq rest (a.put dst (.slice a' k c'))) : wpQuiet Try.prog ops C Qq (⟨dst, .slice t p none (some q) none, ty, pos, af, g⟩ :: rest) a := by
  obtain ⟨a', c', e, hU⟩ := slicedH ad n c k hk hc
  exact wq_of hw (fun w _ => op_slice_hT _ k ht hsz hp hq hk hc _ e w) (h a' c' hU)
theorem wl_slice_hT (k : Nat) (ht : Try.prog.underlying t = some (.slice (Try.prog.elem t))) (hsz : ∀ w, (sizeOf (Try.prog.elem t)).run Try.prog w = .ok 1 w)
    (hw : Region.wanted ⟨dst, .slice t p none (some q) none, ty, pos, af, g⟩ (yielded ops a.tmps) = true) (hp : a.eval p = .slice ad n c) (hq : a.eval q = .int .i64 k) (hk : k ≤ n) (hc : n ≤ c)
    (h : ∀ a' c', (∀ (W : World) (cs : List Value), IsSl W (.slice ad n c) n cs → cs.length = n → IsSl W (.slice a' k c') k (cs.take k)) → wpList Try.prog ops Q rest (a.put dst (.slice a' k c')) w) : wpList Try.prog ops Q (⟨dst, .slice t p none (some q) none, ty, pos, af, g⟩ :: rest) a w := by
  obtain ⟨a', c', e, hU⟩ := slicedH ad n c k hk hc
  exact wl_of hw (op_slice_hT _ k ht hsz hp hq hk hc _ e w) (h a' c' hU)
end
theorem sz_int (w : World) : (sizeOf (Try.prog.elem 50)).run Try.prog w = .ok 1 w := by kernel_rfl
theorem sz_u64 (w : World) : (sizeOf (Try.prog.elem 51)).run Try.prog w = .ok 1 w := by kernel_rfl
theorem ht_int : Try.prog.underlying 50 = some (.slice (Try.prog.elem 50)) := by kernel_rfl
theorem ht_u64 : Try.prog.underlying 51 = some (.slice (Try.prog.elem 51)) := by kernel_rfl
theorem IntsS.cut {W : World} {ad a' : Option Addr} {n c k c' : Nat} {l : List Int} (hU : ∀ (W : World) (cs : List Value), IsSl W (.slice ad n c) n cs → cs.length = n → IsSl W (.slice a' k c') k (cs.take k)) (h : IntsS W (.slice ad n c) l) (hk : k ≤ l.length) : IntsS W (.slice a' k c') (l.take k) := by
  obtain rfl := h.at
  have := hU W _ h (by simp)
  unfold IntsS
  rw [List.length_take, Nat.min_eq_left hk, List.map_take]
  exact this
theorem U64S.cut {W : World} {ad a' : Option Addr} {n c k c' : Nat} {l : List Nat} (hU : ∀ (W : World) (cs : List Value), IsSl W (.slice ad n c) n cs → cs.length = n → IsSl W (.slice a' k c') k (cs.take k)) (h : U64S W (.slice ad n c) l) (hk : k ≤ l.length) : U64S W (.slice a' k c') (l.take k) := by
  obtain rfl := h.at
  have := hU W _ h (by simp)
  unfold U64S
  rw [List.length_take, Nat.min_eq_left hk, List.map_take]
  exact this
theorem w_equalI (l : List Int) (v1 v2 : Value) (w : World) (h1 : IntsS w v1 l) (h2 : IntsS w v2 l) :
    Calls Try.prog 34 #[v1, v2] w fun e w' => e = .returned (.bool true) ∧ Below w.heap.size w w' := by
  refine (equal_int v1 v2 l l w h1 h2).mono ?_
  rintro e w' ⟨rfl, hb⟩
  exact ⟨by simp, hb⟩

end Go.Proofs.Ytpooakhmpfbmgaa
