/- Words for what an operation of a drawn region has made: a variable, a row of constants, bytes of its own. -/
import Derived.Test.YtpooakhmpfbmgaaRG
namespace Go.Proofs.Ytpooakhmpfbmgaa
open Go.RowKit

theorem ownsRow_block {w w' : World} {base : Nat} {e : TypeId} {size : Nat} {v : Value} {n : Nat} {xs : List Value} (h : w.ownsRow base e size v n xs) (hb : ∀ g, v.ownBlock = some g → w'.heap[g]? = w.heap[g]?) : w'.ownsRow base e size v n xs := by
  refine ⟨h.1, ?_⟩
  rcases h.2 with h2 | ⟨g, cap, cur, hv, hg, hh, r⟩
  · exact .inl h2
  · exact .inr ⟨g, cap, cur, hv, hg, (hb g (by rw [hv]; rfl)).trans hh, r⟩

section
variable {v : Value} {w w' : World} {lo hi B : Nat}
/-- a row of the operation's own -/
def RowΦ (e : TypeId) (size n : Nat) (xs : List Value) (v : Value) (W : World) (lo hi : Nat) : Prop := W.ownsRow lo e size v n xs ∧ ∀ g, v.ownBlock = some g → g < hi
theorem RowΦ.kb {e : TypeId} {size n : Nat} {xs : List Value} (h : RowΦ e size n xs v w lo hi) (hh : hi ≤ w.heap.size) (hb : KBut (fun k => B ≤ k ∧ (k < lo ∨ hi ≤ k)) w w') : RowΦ e size n xs v w' lo hi :=
  ⟨ownsRow_block h.1 (fun g hg => hb.block g (by have := h.2 g hg; omega) (by have := h.2 g hg; have := (h.1.lt g hg).1; omega)), h.2⟩
theorem RowΦ.below {e : TypeId} {size n : Nat} {xs : List Value} (h : RowΦ e size n xs v w lo hi) (hh : hi ≤ w.heap.size) (hb : Below w.heap.size w w') : RowΦ e size n xs v w' lo hi :=
  ⟨ownsRow_block h.1 (fun g hg => hb.block g (by have := h.2 g hg; omega)), h.2⟩
theorem RowΦ.mk {e : TypeId} {size n : Nat} {xs : List Value} (h : w.ownsRow lo e size v n xs) : RowΦ e size n xs v w lo w.heap.size := ⟨h, fun g hg => (h.lt g hg).2⟩
/-- a variable of the operation's own -/
def VarΦ (cs : Array Value) (t : TypeId) (v : Value) (W : World) (lo hi : Nat) : Prop := ∃ b, v = .pointer (some ⟨b, 0, none⟩) ∧ lo ≤ b ∧ b < hi ∧ Blk W b cs t
theorem VarΦ.kb {cs : Array Value} {t : TypeId} (h : VarΦ cs t v w lo hi) (hh : hi ≤ w.heap.size) (hb : KBut (fun k => B ≤ k ∧ (k < lo ∨ hi ≤ k)) w w') : VarΦ cs t v w' lo hi := by
  obtain ⟨b, h1, h2, h3, h4⟩ := h
  exact ⟨b, h1, h2, h3, (hb.block b (by omega) (by omega)).trans h4⟩
theorem VarΦ.below {cs : Array Value} {t : TypeId} (h : VarΦ cs t v w lo hi) (hh : hi ≤ w.heap.size) (hb : Below w.heap.size w w') : VarΦ cs t v w' lo hi := by
  obtain ⟨b, h1, h2, h3, h4⟩ := h
  exact ⟨b, h1, h2, h3, (hb.block b (by omega)).trans h4⟩
/-- a row of constants of the operation's own -/
def LitΦ (cs : Array Value) (t : TypeId) (n : Nat) (v : Value) (W : World) (lo hi : Nat) : Prop := ∃ b, v = .slice (some ⟨b, 0, none⟩) n n ∧ lo ≤ b ∧ b < hi ∧ Blk W b cs t
theorem LitΦ.kb {cs : Array Value} {t : TypeId} {n : Nat} (h : LitΦ cs t n v w lo hi) (hh : hi ≤ w.heap.size) (hb : KBut (fun k => B ≤ k ∧ (k < lo ∨ hi ≤ k)) w w') : LitΦ cs t n v w' lo hi := by
  obtain ⟨b, h1, h2, h3, h4⟩ := h
  exact ⟨b, h1, h2, h3, (hb.block b (by omega) (by omega)).trans h4⟩
theorem LitΦ.below {cs : Array Value} {t : TypeId} {n : Nat} (h : LitΦ cs t n v w lo hi) (hh : hi ≤ w.heap.size) (hb : Below w.heap.size w w') : LitΦ cs t n v w' lo hi := by
  obtain ⟨b, h1, h2, h3, h4⟩ := h
  exact ⟨b, h1, h2, h3, (hb.block b (by omega)).trans h4⟩
end

section
variable {P : Program} {Q : Exit → Act → World → Prop} {a : Act} {W : World} {dst : Option Tmp} {ty : TypeId} {pos : String} {af : Array Edge} {g : Option (Nat × Bool)} {Ψ : Value → World → Nat → Nat → Prop}
/-- a new variable -/
theorem rg_var {T : TypeId} {z : Value} (hz : (zeroValue T).run P W = .ok z W) : (⟨dst, .alloc T, ty, pos, af, g⟩ : Oper).wp P a W (RGp W a dst (VarΦ z.cells T)) Q :=
  rg_alloc hz (fun b hb => ⟨b, rfl, Nat.le_refl _, Nat.lt_succ_self _, by subst hb; exact Blk.new W _ _⟩)
/-- a row of constants -/
theorem rg_lit {T t : TypeId} {n : Nat} {items : Array (Nat × Operand)} {cs : Array Value} (hrun : ∀ w : World, (execOp a.eval ⟨dst, .buildSlice T n items, ty, pos, af, g⟩).run P w = .ok (.value (.slice (some ⟨w.heap.size, 0, none⟩) n n)) (w.alloc (.cells cs t))) :
    (⟨dst, .buildSlice T n items, ty, pos, af, g⟩ : Oper).wp P a W (RGp W a dst (LitΦ cs t n)) Q :=
  rg_val (hrun W) (Below.new W _) ⟨W.heap.size, rfl, Nat.le_refl _, by simp, Blk.new W _ _⟩
end

/-- append, as a run -/
theorem op_append {P : Program} (ev : Operand → Value) {w : World} {dst : Option Tmp} {s x : Operand} {t ty : TypeId} {pos : String} {af : Array Edge} {g : Option (Nat × Bool)}
    {e : TypeId} {size bytes : Nat} (base : Nat) (hE : Elem P t e size bytes) {v : Value} {n : Nat} {xs : List Value} {vx : Value} {m : Nat} {news : List Value}
    (hs : ev s = v) (hx : ev x = vx) (hown : w.ownsRow base e size v n xs) (hsl : IsSl w vx m news) (hl : news.length = m * size) (h1 : ∀ u ∈ news, u.oneCell' = true)
    (h63 : n + m ≤ maxLen) (hbytes : (n + m) * bytes ≤ 140737488355328) (hbase : base ≤ w.heap.size) :
    ∃ v' w', (execOp ev ⟨dst, .call { callee := .builtin .append, args := #[s, x], argTypes := #[t, t] }, ty, pos, af, g⟩).run P w = .ok (.value v') w' ∧ w'.ownsRow base e size v' (n + m) (xs ++ news) ∧ w.grownBy w' v.ownBlock := by
  obtain ⟨ht, ⟨i, z, hi, hz, hsz, hby, hzs⟩, hp⟩ := hE
  obtain ⟨ad, c, rfl, hmc, hcm, hnil, hr⟩ := hsl
  cases ad with
  | none =>
    obtain rfl : c = 0 := hnil rfl
    obtain rfl : m = 0 := by omega
    obtain rfl : news = [] := List.eq_nil_of_length_eq_zero (by simpa using hl)
    have hrun := run_append_owned_none (P := P) (w := w) base t ty e i size ht hi v n xs hown
    refine ⟨v, w, ?_, by simpa using hown, gb_refl _ _⟩
    simp [execOp, resolve, invoke, builtin, hs, hx, hrun, Result.andThen]
  | some ad =>
    have key : ∀ ad', ad' = ad → (∀ j u, news[j]? = some u → w.cell? (ad'.add j) = some u) → ∃ v' w', (execOp ev ⟨dst, .call { callee := .builtin .append, args := #[s, x], argTypes := #[t, t] }, ty, pos, af, g⟩).run P w = .ok (.value v') w' ∧ w'.ownsRow base e size v' (n + m) (xs ++ news) ∧ w.grownBy w' v.ownBlock := by
      rintro ad' rfl hnews
      obtain ⟨v', w', hrun, h2, h3, h4⟩ := run_append_own (P := P) w base t ty e i z size bytes ht hi hz hsz hby hzs hp v n xs hown ad' m c news hl hnews h1 h63 hbytes hbase
      refine ⟨v', w', ?_, h2, h3⟩
      simp only [execOp, resolve, invoke, builtin, Sem.run_bind, Sem.run_pure, Result.andThen_ok, List.map_toArray, List.map_cons, List.map_nil, hs, hx, hrun]
    refine key ad rfl fun j u hu => ?_
    obtain ⟨b, o, e1, hc⟩ := hr j u hu
    cases e1
    have hadd : (⟨b, o, none⟩ : Addr).add j = ⟨b, o + j, none⟩ := by unfold Addr.add; split <;> simp_all
    rw [hadd]; exact hc

/-- append of bytes to what another operation has made -/
theorem rg_append_bytes {Q : Exit → Act → World → Prop} {a : Act} {W : World} {dst : Option Tmp} {s x : Operand} {ty : TypeId} {pos : String} {af : Array Edge} {g : Option (Nat × Bool)} {Ψ : Value → World → Nat → Nat → Prop} {j : Nat} {lo hi : Nat → Nat} {v v2 : Value} {l m : List UInt8}
    (hs : a.eval s = v) (hx : a.eval x = v2) (h2 : RowΦ 5 1 l.length (l.map vb) v W (lo j) (hi j)) (hm : Bytes W v2 m) (hlen : l.length + m.length ≤ 1000000) (b2 : lo j ≤ hi j) (b3 : hi j ≤ W.heap.size)
    (h : ∀ v' W', Bytes W' v' (l ++ m) → Ψ v' W' W.heap.size W'.heap.size) :
    (⟨dst, .call { callee := .builtin .append, args := #[s, x], argTypes := #[22, 22] }, ty, pos, af, g⟩ : Oper).wp Try.prog a W (RGpost W a dst (ofB [j] lo hi) Ψ) Q := by
  obtain ⟨v', w', hrun, ho, hg⟩ := op_append (P := Try.prog) a.eval (dst := dst) (ty := ty) (pos := pos) (af := af) (g := g) (lo j) elem_byte hs hx h2.1 hm (by simp) (one_bytes m) (by unfold maxLen; omega) (by omega) (by omega)
  unfold Oper.wp
  rw [hrun]
  refine ⟨v', rfl, KBut.of_grown hg (fun k hk => ⟨j, by simp, (h2.1.lt k hk).1, h2.2 k hk⟩), h v' w' ?_⟩
  have ho' : OwnB (lo j) w' v' (l ++ m) := by
    unfold OwnB
    rw [List.length_append, List.map_append]
    exact ho
  exact ho'.bytes

theorem LitΦ.bytes {cs : Array Value} {n : Nat} {v : Value} {W : World} {lo hi : Nat} {t : TypeId} (h : LitΦ cs t n v W lo hi) (l : List UInt8) (hl : l.length = n) (hc : cs.toList = l.map vb) (hm : n ≤ maxLen) : Bytes W v l := by
  obtain ⟨b, rfl, _, _, hb⟩ := h
  subst hl
  refine ⟨_, l.length, rfl, Nat.le_refl _, hm, by simp, fun j u hu => ⟨b, 0, rfl, ?_⟩⟩
  rw [Nat.zero_add, hb.cell]
  rw [← hc] at hu
  simpa using hu

end Go.Proofs.Ytpooakhmpfbmgaa
