/- More small laws: min, parts of slices. -/
import Derived.Test.YtpooakhmpfbmgaaOpen
namespace Go.Proofs.Ytpooakhmpfbmgaa
open Go.RowKit

/-- what comes later has all that was there: an order on worlds -/
theorem Below.up {a b c : World} (h : Below a.heap.size a b) (k : Below b.heap.size b c) : Below a.heap.size a c := h.trans (k.mono h.size)
theorem Below.upA {a b : World} (h : Below a.heap.size a b) (o : Obj) : Below a.heap.size a (b.alloc o) := h.alloc h.size o
theorem Below.new (w : World) (o : Obj) : Below w.heap.size w (w.alloc o) := (Below.refl _ _).alloc (Nat.le_refl _) o
theorem Blk.up {w w' : World} {b : Nat} {cs : Array Value} {t : TypeId} (h : Blk w b cs t) (hb : Below w.heap.size w w') : Blk w' b cs t := h.below hb h.lt

/-- the world of a call is taken as a variable of which this is known -/
theorem gen_calls {P : Program} {f : FuncId} {args : Array Value} {Q : Ending → World → Prop} {w : World} (F : World → Prop) (hF : F w) (h : ∀ W, F W → Calls P f args W Q) : Calls P f args w Q := h w hF

/-- min of two, as a number k that is one of them -/
theorem wl_min {P : Program} {ops : Array Oper} {Q : Exit → Act → World → Prop} {rest : List Oper} {a : Act} {w : World} {dst : Option Tmp} {p q : Operand} {t1 t2 ty : TypeId} {pos : String} {af : Array Edge} {g : Option (Nat × Bool)} (n m : Nat)
    (hw : Region.wanted ⟨dst, .call { callee := .builtin .min, args := #[p, q], argTypes := #[t1, t2] }, ty, pos, af, g⟩ (yielded ops a.tmps) = true) (hp : a.eval p = .int .i64 n) (hq : a.eval q = .int .i64 m)
    (h : ∀ k : Nat, k ≤ n → k ≤ m → Hid (k = min n m) → wpList P ops Q rest (a.put dst (.int .i64 k)) w) :
    wpList P ops Q (⟨dst, .call { callee := .builtin .min, args := #[p, q], argTypes := #[t1, t2] }, ty, pos, af, g⟩ :: rest) a w := by
  refine wl_of hw ?_ (h (min n m) (Nat.min_le_left _ _) (Nat.min_le_right _ _) (Lib.hid rfl))
  have hmin : ∀ ats ty, (Builtin.min_ ats ty #[.int .i64 n, .int .i64 m]).run P w = .ok (.int .i64 ((min n m : Nat) : Int)) w := by
    intro ats ty
    simp [Builtin.min_, Builtin.min2]
    split <;> omega
  simp only [execOp, resolve, invoke, builtin, Sem.run_bind, Sem.run_pure, Result.andThen_ok, List.map_toArray, List.map_cons, List.map_nil, hp, hq, hmin]

/-- the same in a region that draws its order -/
theorem wq_min {P : Program} {ops : Array Oper} {C : World → Prop} {Q : Act → Prop} {rest : List Oper} {a : Act} {dst : Option Tmp} {p q : Operand} {t1 t2 ty : TypeId} {pos : String} {af : Array Edge} {g : Option (Nat × Bool)} (n m : Nat)
    (hw : Region.wanted ⟨dst, .call { callee := .builtin .min, args := #[p, q], argTypes := #[t1, t2] }, ty, pos, af, g⟩ (yielded ops a.tmps) = true) (hp : a.eval p = .int .i64 n) (hq : a.eval q = .int .i64 m)
    (h : ∀ k : Nat, k ≤ n → k ≤ m → Hid (k = min n m) → wpQuiet P ops C Q rest (a.put dst (.int .i64 k))) :
    wpQuiet P ops C Q (⟨dst, .call { callee := .builtin .min, args := #[p, q], argTypes := #[t1, t2] }, ty, pos, af, g⟩ :: rest) a := by
  refine wq_of hw (fun w _ => ?_) (h (min n m) (Nat.min_le_left _ _) (Nat.min_le_right _ _) (Lib.hid rfl))
  have hmin : ∀ ats ty, (Builtin.min_ ats ty #[.int .i64 n, .int .i64 m]).run P w = .ok (.int .i64 ((min n m : Nat) : Int)) w := by
    intro ats ty
    simp [Builtin.min_, Builtin.min2]
    split <;> omega
  simp only [execOp, resolve, invoke, builtin, Sem.run_bind, Sem.run_pure, Result.andThen_ok, List.map_toArray, List.map_cons, List.map_nil, hp, hq, hmin]

theorem IsSl.part {w : World} {a : Option Addr} {n n' c k : Nat} {cs cs' : List Value} (h : IsSl w (.slice a n c) n' cs) (hk : k ≤ n) (hcs : ∀ (j : Nat) (u : Value), cs'[j]? = some u → cs[j]? = some u) : IsSl w (.slice a k c) k cs' := by
  obtain ⟨a', c', e, h1, h2, h3, h4⟩ := h
  cases e
  exact ⟨a, c, rfl, by omega, h2, h3, fun j u hu => h4 j u (hcs j u hu)⟩

theorem Bytes.part {w : World} {a : Option Addr} {n c k : Nat} {l : List UInt8} (h : Bytes w (.slice a n c) l) (hk : k ≤ l.length) : Bytes w (.slice a k c) (l.take k) := by
  have h' := h
  obtain ⟨a', c', e, h1, h2, h3, h4⟩ := h'
  cases e
  have := IsSl.part (k := k) (cs' := (l.take k).map vb) h hk (fun j u hu => by
    rw [List.map_take, List.getElem?_take] at hu
    split at hu
    · exact hu
    · cases hu)
  unfold Bytes
  rw [List.length_take, Nat.min_eq_left hk]
  exact this

end Go.Proofs.Ytpooakhmpfbmgaa
