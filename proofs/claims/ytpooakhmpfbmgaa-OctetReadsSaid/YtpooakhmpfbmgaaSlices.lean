/- Slices as rows of cells; append in one law. -/
import Derived.Test.YtpooakhmpfbmgaaFence
import Derived.Maps.AppendAt
import Derived.WalkSpells
namespace Go.Proofs.Ytpooakhmpfbmgaa
open Go.RowKit

/-- from address a on, cells can be read -/
def Reads (w : World) (a : Option Addr) (cs : List Value) : Prop := ∀ j u, cs[j]? = some u → ∃ b o, a = some ⟨b, o, none⟩ ∧ w.cell? ⟨b, o + j, none⟩ = some u

/-- a slice value of n elements that reads as these cells -/
def IsSl (w : World) (v : Value) (n : Nat) (cs : List Value) : Prop := ∃ a c, v = .slice a n c ∧ n ≤ c ∧ c ≤ maxLen ∧ (a = none → c = 0) ∧ Reads w a cs

theorem Reads.below {w w' : World} {a : Option Addr} {cs : List Value} (h : Reads w a cs) (hb : Below w.heap.size w w') : Reads w' a cs := fun j u hu => by
  obtain ⟨b, o, rfl, hc⟩ := h j u hu
  exact ⟨b, o, rfl, (hb.cell (p := ⟨b, o + j, none⟩) (World.block_lt_of_cell? w _ hc)).trans hc⟩
theorem IsSl.below {w w' : World} {v : Value} {n : Nat} {cs : List Value} (h : IsSl w v n cs) (hb : Below w.heap.size w w') : IsSl w' v n cs := by
  obtain ⟨a, c, h1, h2, h3, h4, h5⟩ := h
  exact ⟨a, c, h1, h2, h3, h4, h5.below hb⟩
theorem Reads.take {w : World} {a : Option Addr} {cs : List Value} (h : Reads w a cs) (k : Nat) : Reads w a (cs.take k) := fun j u hu => by
  rw [List.getElem?_take] at hu; split at hu
  · exact h j u hu
  · cases hu
theorem Reads.nil (w : World) (a : Option Addr) : Reads w a [] := fun j u hu => by simp at hu
theorem IsSl.nil (w : World) : IsSl w (.slice none 0 0) 0 [] := ⟨none, 0, rfl, Nat.le_refl _, by unfold maxLen; omega, fun _ => rfl, Reads.nil _ _⟩

/-- cells, written out -/
def CellsL (w : World) (b : Nat) : Nat → List Value → Prop
  | _, [] => True
  | o, x :: xs => w.cell? ⟨b, o, none⟩ = some x ∧ CellsL w b (o + 1) xs
theorem CellsL.get {w : World} {b : Nat} : ∀ {o : Nat} {xs : List Value}, CellsL w b o xs → ∀ j u, xs[j]? = some u → w.cell? ⟨b, o + j, none⟩ = some u
  | _, [], _, j, u, h => by simp at h
  | o, x :: xs, ⟨h0, h⟩, 0, u, hu => by simp at hu; subst hu; exact h0
  | o, x :: xs, ⟨_, h⟩, j + 1, u, hu => by
    have := CellsL.get h j u (by simpa using hu)
    rw [show o + (j + 1) = o + 1 + j from by omega]
    exact this
/-- a slice over cells that are written out -/
theorem IsSl.lit {w : World} {b n c : Nat} {xs : List Value} (h : CellsL w b 0 xs) (hn : n ≤ c) (hc : c ≤ maxLen) : IsSl w (.slice (some ⟨b, 0, none⟩) n c) n xs :=
  ⟨_, c, rfl, hn, hc, by simp, fun j u hu => ⟨b, 0, rfl, h.get j u hu⟩⟩

/-- a slice over a block that was made just before -/
theorem IsSl.new {W : World} {n k : Nat} {cs : Array Value} {t : TypeId} (hn : n = W.heap.size) (hk : k ≤ maxLen) : IsSl (W.alloc (.cells cs t)) (.slice (some ⟨n, 0, none⟩) k k) k cs.toList := by
  subst hn
  refine ⟨_, k, rfl, Nat.le_refl _, hk, by simp, fun j u hu => ⟨_, 0, rfl, ?_⟩⟩
  rw [Nat.zero_add, World.cell?_alloc_new]
  simpa using hu

/-- what a call owns can be read -/
theorem IsSl.of_own {w : World} {base : Nat} {e : TypeId} {size : Nat} {v : Value} {n : Nat} {xs : List Value} (h : w.ownsRow base e size v n xs) : IsSl w v n xs := by
  rcases h.2 with ⟨rfl, rfl⟩ | ⟨g, cap, cur, rfl, _, hg, hnc, hcm, hcs, htake⟩
  · have : xs = [] := List.eq_nil_of_length_eq_zero (by simpa using h.1)
    subst this
    exact IsSl.nil w
  · refine ⟨_, cap, rfl, hnc, hcm, by simp, fun j u hu => ⟨g, 0, rfl, ?_⟩⟩
    rw [Nat.zero_add, cell_of_row w g j cur e (0, 0) hg]
    rw [← htake, List.getElem?_take] at hu
    split at hu
    · simpa using hu
    · cases hu

theorem ownsRow_len {w : World} {base : Nat} {e : TypeId} {size : Nat} {v : Value} {n : Nat} {xs : List Value} (h : w.ownsRow base e size v n xs) : xs.length = n * size := h.1
theorem ownsRow_slice {w : World} {base : Nat} {e : TypeId} {size : Nat} {v : Value} {n : Nat} {xs : List Value} (h : w.ownsRow base e size v n xs) : ∃ a c, v = .slice a n c ∧ n ≤ c ∧ c ≤ maxLen := by
  rcases h.2 with ⟨rfl, rfl⟩ | ⟨g, cap, cur, rfl, _, hg, hnc, hcm, _⟩
  · exact ⟨none, 0, rfl, Nat.le_refl _, Nat.zero_le _⟩
  · exact ⟨_, cap, rfl, hnc, hcm⟩
theorem ownsRow_below {w w' : World} {base : Nat} {e : TypeId} {size : Nat} {v : Value} {n : Nat} {xs : List Value} {B : Nat} (h : w.ownsRow base e size v n xs) (hb : Below B w w') (hB : w.heap.size ≤ B) : w'.ownsRow base e size v n xs :=
  h.kept (row := none) ⟨hb.os, hb.tape, hb.output, hb.size, fun k hk _ => hb.block k (by omega)⟩ (by cases v.ownBlock <;> simp)

/-- an element type's row of the table -/
structure Elem (P : Program) (t e : TypeId) (size bytes : Nat) : Prop where
  und : P.underlying t = some (.slice e)
  info : ∃ i z, P.info? e = some i ∧ i.zero = some z ∧ i.size = size ∧ i.bytes = bytes ∧ z.cells.size = size
  pos : 0 < size

theorem Elem.mk' {P : Program} {t e : TypeId} {size bytes : Nat} {z : Value} (h : P.underlying t = some (.slice e)) (hi : (P.info? e).map (fun i => (i.zero, i.size, i.bytes)) = some (some z, size, bytes)) (hz : z.cells.size = size) (hp : 0 < size) : Elem P t e size bytes := by
  obtain ⟨i, a, b, c, d⟩ := info_parts hi
  exact ⟨h, ⟨i, z, a, b, c, d, hz⟩, hp⟩

/-- append in one law: onto a row of the call's own (nil too), whatever readable slice is behind it (nil too) -/
theorem wl_append {P : Program} {ops : Array Oper} {Q : Exit → Act → World → Prop} {rest : List Oper} {a : Act} {w : World} {dst : Option Tmp} {s x : Operand} {t ty : TypeId} {pos : String} {af : Array Edge} {g : Option (Nat × Bool)}
    {e : TypeId} {size bytes : Nat} (base : Nat) (hE : Elem P t e size bytes) {v : Value} {n : Nat} {xs : List Value} {vx : Value} {m : Nat} {news : List Value}
    (hw : Region.wanted ⟨dst, .call { callee := .builtin .append, args := #[s, x], argTypes := #[t, t] }, ty, pos, af, g⟩ (yielded ops a.tmps) = true)
    (hs : a.eval s = v) (hx : a.eval x = vx) (hown : w.ownsRow base e size v n xs) (hsl : IsSl w vx m news) (hl : news.length = m * size) (h1 : ∀ u ∈ news, u.oneCell' = true)
    (h63 : n + m ≤ maxLen) (hbytes : (n + m) * bytes ≤ 140737488355328) (hbase : base ≤ w.heap.size)
    (h : ∀ v' w', w'.ownsRow base e size v' (n + m) (xs ++ news) → w.grownBy w' v.ownBlock → wpList P ops Q rest (a.put dst v') w') :
    wpList P ops Q (⟨dst, .call { callee := .builtin .append, args := #[s, x], argTypes := #[t, t] }, ty, pos, af, g⟩ :: rest) a w := by
  obtain ⟨ht, ⟨i, z, hi, hz, hsz, hby, hzs⟩, hp⟩ := hE
  obtain ⟨ad, c, rfl, hmc, hcm, hnil, hr⟩ := hsl
  cases ad with
  | none =>
    obtain rfl : c = 0 := hnil rfl
    obtain rfl : m = 0 := by omega
    obtain rfl : news = [] := List.eq_nil_of_length_eq_zero (by simpa using hl)
    have hrun := run_append_owned_none (P := P) (w := w) base t ty e i size ht hi v n xs hown
    refine wl_of hw ?_ (h v w (by simpa using hown) (gb_refl _ _))
    simp [execOp, resolve, invoke, builtin, hs, hx, hrun, Result.andThen]
  | some ad =>
    by_cases hm : m = 0
    · subst hm
      obtain rfl : news = [] := List.eq_nil_of_length_eq_zero (by simpa using hl)
      obtain ⟨v', w', hrun, h2, h3, h4⟩ := run_append_own (P := P) w base t ty e i z size bytes ht hi hz hsz hby hzs hp v n xs hown ad 0 c [] hl (by simp) h1 h63 hbytes hbase
      refine wl_of hw ?_ (h v' w' h2 h3)
      simp only [execOp, resolve, invoke, builtin, Sem.run_bind, Sem.run_pure, Result.andThen_ok, List.map_toArray, List.map_cons, List.map_nil, hs, hx, hrun]
    · have hpos : 0 < news.length := by rw [hl]; exact Nat.mul_pos (by omega) hp
      obtain ⟨b, o, e1, _⟩ := hr 0 news[0] (by simp [hpos])
      cases e1
      have hnews : ∀ j u, news[j]? = some u → w.cell? ((⟨b, o, none⟩ : Addr).add j) = some u := fun j u hu => by
        obtain ⟨b', o', e2, hc⟩ := hr j u hu
        cases e2
        have hadd : (⟨b, o, none⟩ : Addr).add j = ⟨b, o + j, none⟩ := by unfold Addr.add; split <;> simp_all
        rw [hadd]; exact hc
      obtain ⟨v', w', hrun, h2, h3, h4⟩ := run_append_own (P := P) w base t ty e i z size bytes ht hi hz hsz hby hzs hp v n xs hown ⟨b, o, none⟩ m c news hl hnews h1 h63 hbytes hbase
      refine wl_of hw ?_ (h v' w' h2 h3)
      simp only [execOp, resolve, invoke, builtin, Sem.run_bind, Sem.run_pure, Result.andThen_ok, List.map_toArray, List.map_cons, List.map_nil, hs, hx, hrun]

/-- what an append to a row of the call's own leaves of the old heap -/
theorem below_append {w0 w w' : World} {base : Nat} {e : TypeId} {size : Nat} {v : Value} {n : Nat} {xs : List Value} {B : Nat} (hb : Below B w0 w) (hB : B ≤ base) (hB2 : B ≤ w.heap.size) (hown : w.ownsRow base e size v n xs) (hg : w.grownBy w' v.ownBlock) : Below B w0 w' :=
  hb.grown hg hB2 (fun k hk => Nat.le_trans hB (hown.lt k hk).1)

theorem own_ne {w : World} {base : Nat} {e : TypeId} {size : Nat} {v : Value} {n : Nat} {xs : List Value} (h : w.ownsRow base e size v n xs) {b : Nat} (hb : b < base) : some b ≠ v.ownBlock := fun e' => by
  have := (h.lt b e'.symm).1
  omega
/-- behind an append: an old block that is not the row's own lies as it lay -/
theorem Blk.append {w w1 : World} {base b : Nat} {e t : TypeId} {size : Nat} {v : Value} {n : Nat} {xs : List Value} {cs : Array Value} (h : Blk w b cs t) (hr : w.ownsRow base e size v n xs) (hg : w.grownBy w1 v.ownBlock) (hb : b < base) : Blk w1 b cs t := h.grown hg (own_ne hr hb)
theorem Blk.drewN {w : World} {b : Nat} {cs : Array Value} {t : TypeId} (h : Blk w b cs t) (n : Nat) : Blk (w.drewN n) b cs t := h

/-! ### bytes -/
theorem elem_byte : Elem Try.prog 22 5 1 1 := Elem.mk' (z := .int .u8 0) Try.underlying22 (by kernel_rfl) rfl (by decide)

def Bytes (w : World) (v : Value) (l : List UInt8) : Prop := IsSl w v l.length (l.map vb)
/-- bytes in a row of the call's own -/
def OwnB (base : Nat) (w : World) (v : Value) (l : List UInt8) : Prop := w.ownsRow base 5 1 v l.length (l.map vb)
theorem OwnB.bytes {base : Nat} {w : World} {v : Value} {l : List UInt8} (h : OwnB base w v l) : Bytes w v l := IsSl.of_own h
theorem Bytes.below {w w' : World} {v : Value} {l : List UInt8} (h : Bytes w v l) (hb : Below w.heap.size w w') : Bytes w' v l := IsSl.below h hb
theorem one_bytes (l : List UInt8) : ∀ u ∈ l.map vb, u.oneCell' = true := by
  intro u hu
  obtain ⟨x, _, rfl⟩ := List.mem_map.1 hu
  rfl

set_option maxHeartbeats 400000 in
theorem equal_bytes (v1 v2 : Value) (l1 l2 : List UInt8) (w : World) (h1 : Bytes w v1 l1) (h2 : Bytes w v2 l2) :
    Calls Try.prog 19 #[v1, v2] w fun e w' => e = .returned (.bool (decide (l1 = l2))) ∧ Below w.heap.size w w' := by
  obtain ⟨a1, c1, rfl, hc1, hm1, _, r1⟩ := h1
  obtain ⟨a2, c2, rfl, hc2, hm2, _, r2⟩ := h2
  unfold maxLen at hm1 hm2
  by_cases hlen : l1.length = l2.length
  · have HL := Lib.hid hlen
    have hb : ((l1.length : Int) != (l2.length : Int)) = false := by simp; omega
    clear hlen
    go_enter Try.func19, Try.ntmps19
    go_wp2
    go_loopw [13] (fun i wr => ∃ k : Nat, k ≤ l1.length ∧ i = .int .i64 k ∧ l1.take k = l2.take k ∧ Below w.heap.size w wr) (fun i _ => l1.length - (intOf i).toNat)
    case atStart => exact ⟨0, by omega, rfl, by simp, Below.refl _ _⟩
    case round =>
      obtain ⟨k, hk, rfl, heq, hB⟩ := hrel
      by_cases hlt : k < l1.length
      · have hlt2 : k < l2.length := by have := HL.out; omega
        obtain ⟨b1, o1, rfl, e1⟩ := r1 k (vb l1[k]) (by simp [hlt])
        obtain ⟨b2, o2, rfl, e2⟩ := r2 k (vb l2[k]) (by simp [hlt2])
        have e1' := (hB.cell (p := ⟨b1, o1 + k, none⟩) (World.block_lt_of_cell? w _ e1)).trans e1
        have e2' := (hB.cell (p := ⟨b2, o2 + k, none⟩) (World.block_lt_of_cell? w _ e2)).trans e2
        have HE := Lib.hid heq
        clear e1 e2 heq r1 r2
        by_cases hx : l1[k] = l2[k]
        · have hxb : (((l1[k].toNat : Int)) != (l2[k].toNat : Int)) = false := by rw [hx]; simp
          have HX := Lib.hid hx
          clear hx
          go_wp2
          go_quiet (fail)
          go_wp2
          go_roundw
          case rel => exact ⟨k + 1, by omega, by go_num, by rw [List.take_succ_eq_append_getElem hlt, List.take_succ_eq_append_getElem hlt2, HE.out, HX.out], hB.trans (below_drewN _ _ _)⟩
          case measure => simp only [intOf]; omega
        · have hxb : (((l1[k].toNat : Int)) != (l2[k].toNat : Int)) = true := by simp [vb_inj, hx]
          go_wp2
          go_quiet (fail)
          go_wp2
          go_ret
          refine ⟨?_, hB.trans (below_drewN _ _ _)⟩
          have : ¬ l1 = l2 := fun h => hx (by subst h; rfl)
          simp [this]
      · obtain rfl : k = l1.length := by omega
        have : l1 = l2 := by rw [List.take_of_length_le (Nat.le_refl _), List.take_of_length_le (by have := HL.out; omega)] at heq; exact heq
        have HT := Lib.hid this
        clear this heq
        go_wp2
        go_ret
        exact ⟨by rw [HT.out]; simp, hB⟩
  · have hb : ((l1.length : Int) != (l2.length : Int)) = true := by simp; omega
    have : ¬ l1 = l2 := fun h => hlen (by rw [h])
    go_enter Try.func19, Try.ntmps19
    go_wp2
    go_ret
    exact ⟨by simp [this], Below.refl _ _⟩

end Go.Proofs.Ytpooakhmpfbmgaa
