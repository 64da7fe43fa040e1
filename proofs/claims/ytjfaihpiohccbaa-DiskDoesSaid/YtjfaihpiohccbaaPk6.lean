/- Walks by data and names, part 6: append, in walks. Slices in walks: lengths, parts, elements; and other values' parts. Loops in walks: the state at the head, said again in each round; rows are named anew there, and what is no longer used is forgotten. -/
import Derived.Test.YtjfaihpiohccbaaPk5
namespace Go.Proofs.Ytjfaihpiohccbaa
open Go.RowKit

/-- what is behind a slice that is read whole -/
inductive SrcV (st : List E) (sz : Nat) : V → List (List D) → Prop where
  | sl {c f : Bool} {l : List (List D)} (h : ∀ x ∈ l, x.length = sz) : SrcV st sz (.d (.sl c f l)) l
  | row {k ver : Nat} {o nw : Bool} {e : TypeId} {l : List (List D)} (h : rowAt k st = some (o, nw, ver, e, sz, l)) : SrcV st sz (.row k ver) l
  | nil : SrcV st sz (.d (.lit (.slice none 0 0))) []

theorem IsSl.of_drep {B : Nat} {U : Nat → Prop} {w : World} {c f : Bool} {l : List (List D)} {u : Value} (h : drep B U w (.sl c f l) u) {sz : Nat} (hz : ∀ x ∈ l, x.length = sz) : ∃ us, IsSl w u l.length us ∧ drepss B U w l us ∧ us.length = l.length * sz ∧ ∀ u ∈ us, u.oneCell' = true := by
  simp only [drep] at h
  obtain ⟨a, cap, cs, e1, e2, e3, e4, e5, ⟨sz', e6⟩, e0, e7, e8⟩ := h
  refine ⟨cs, ⟨a, cap, e1, e2, e3, e5, fun j u hj => ?_⟩, e8, drepss_len hz e8, e0⟩
  obtain ⟨b, o, k1, _, k2⟩ := e7 j u hj
  exact ⟨b, o, k1, k2⟩
theorem SrcV.rep {B : Nat} {g : G} {w : World} {st : List E} (hs : SimS B g w st) {sz : Nat} {v : V} {l : List (List D)} (h : SrcV st sz v l) {u : Value} (hu : vrep B g w v u) : ∃ us, IsSl w u l.length us ∧ drepss B g.prot w l us ∧ us.length = l.length * sz ∧ (∀ u ∈ us, u.oneCell' = true) ∧ ∀ x ∈ l, x.length = sz := by
  cases h with
  | sl h =>
    simp only [vrep] at hu
    obtain ⟨us, h1, h2, h3, h4⟩ := IsSl.of_drep hu h
    exact ⟨us, h1, h2, h3, h4, h⟩
  | row h =>
    simp only [vrep] at hu
    obtain ⟨v, xs, r1, r2, r3, r4, r5⟩ := hs.row h
    rw [hu.1] at r1; cases r1
    rcases r5 with ⟨_, r5, _⟩ | ⟨_, _, r5⟩
    · exact ⟨xs, IsSl.of_own r5, r2, drepss_len r3.1 r2, r3.2.1, r3.1⟩
    · obtain ⟨us, h1, h2, h3, h4⟩ := IsSl.of_drep r5 r3.1
      exact ⟨us, h1, h2, h3, h4, r3.1⟩
  | nil => simp only [vrep, drep] at hu; subst hu; exact ⟨[], IsSl.nil w, by simp only [drepss], by simp, by simp, by simp⟩

section
variable {P : Program} {w : World}
/-- what a growing append makes -/
theorem grown_own {e : TypeId} {size : Nat} {z : Value} {need cap : Nat} {xs : List Value} (hz : z.cells.size = size) (hl : xs.length = need * size) (h1 : need ≤ cap) (h2 : cap ≤ maxLen) :
    (w.drew.alloc (.cells (xs.toArray ++ Builtin.zeroCells z.cells (cap - need)) e)).ownsRow w.heap.size e size (.slice (some ⟨w.heap.size, 0, none⟩) need cap) need xs := by
  refine ⟨hl, .inr ⟨w.heap.size, cap, _, rfl, Nat.le_refl _, heap_alloc_new w.drew _, h1, h2, ?_, ?_⟩⟩
  · simp only [Array.size_append, List.size_toArray, size_zeroCells, hz, hl, ← Nat.add_mul]
    congr 1; omega
  · simp only [Array.toList_append]
    rw [← hl]; exact List.take_left
theorem below_grown (w : World) (o : Obj) : Below w.heap.size w (w.drew.alloc o) := ⟨rfl, rfl, rfl, by simp, fun k hk => Below.heap_alloc w.drew o k hk⟩

theorem run_append_v {t ty e : TypeId} {size bytes : Nat} (hE : Elem P t e size bytes) {v : Value} {n : Nat} {xs : List Value} (hown : w.ownsRow 0 e size v n xs) {x : Value} {m : Nat} {news : List Value} (hsl : IsSl w x m news) (hl : news.length = m * size) (h1 : ∀ u ∈ news, u.oneCell' = true)
    (h63 : n + m ≤ maxLen) (hbytes : (n + m) * bytes ≤ 140737488355328) :
    ∃ v' w', (Builtin.append_ #[t, t] ty #[v, x]).run P w = .ok v' w' ∧ w'.ownsRow 0 e size v' (n + m) (xs ++ news) ∧ w.grownBy w' v.ownBlock ∧ ∀ b, v'.ownBlock = some b → v.ownBlock = some b ∨ w.heap.size ≤ b := by
  obtain ⟨ht, ⟨i, z, hi, hz, rfl, rfl, hzs⟩, hp⟩ := hE
  obtain ⟨ad, c, rfl, hmc, hcm, hnil, hrd⟩ := hsl
  cases ad with
  | none =>
    obtain rfl : c = 0 := hnil rfl
    obtain rfl : m = 0 := by omega
    obtain rfl : news = [] := List.eq_nil_of_length_eq_zero (by simpa using hl)
    exact ⟨v, w, run_append_owned_none w 0 t ty e i i.size ht hi v n xs hown, by simpa using hown, gb_refl _ _, fun b hb => .inl hb⟩
  | some ad =>
    have hsmall : n + m ≤ 9223372036854775807 := by simp only [maxLen] at h63; omega
    have hlen : (xs ++ news).length = (n + m) * i.size := by rw [List.length_append, hown.1, hl, Nat.add_mul]
    by_cases hm : m = 0
    · subst hm
      obtain rfl : news = [] := List.eq_nil_of_length_eq_zero (by simpa using hl)
      have hnews : ∀ (j : Nat) u, ([] : List Value)[j]? = some u → w.cell? (ad.add j) = some u := fun j u hj => by simp at hj
      rcases hown.2 with ⟨rfl, rfl⟩ | ⟨g, cap, cur, rfl, hbg, hg, hnc, hcm', hcs, htake⟩
      · have hx : xs = [] := List.eq_nil_of_length_eq_zero (by simpa using hown.1)
        subst hx
        refine ⟨.slice none 0 0, w, ?_, World.ownsRow_nil w 0 e i.size, gb_refl _ _, fun b hb => by simp [Value.ownBlock] at hb⟩
        simp [Builtin.append_, run_underlying ht, sizeOf, typeInfo, hi, Builtin.lenOf, Builtin.firstCells, loadCells, loadCellsFrom]
      · have hfit : n * i.size + ([] : List Value).length ≤ cur.size := by rw [hcs]; simpa using Nat.mul_le_mul_right _ hnc
        have hr := run_append_room (P := P) w t ty e i ht hi g n cap cur hg ad 0 c [] (by simp) hnews (by simp) (by omega) hfit
        refine ⟨_, _, hr, ⟨hlen, .inr ⟨g, cap, _, rfl, hbg, setRow_heap w g cur _ e _ hg, by omega, hcm', ?_, ?_⟩⟩, grownBy_setRow w g _, fun b hb => .inl hb⟩
        · simp only [List.size_toArray, List.length_append, List.length_take, List.length_drop, Array.length_toList, List.length_nil] at hfit ⊢
          omega
        · rw [htake, ← hlen]
          exact List.take_left
    · have hpos : 0 < news.length := by rw [hl]; exact Nat.mul_pos (by omega) hp
      obtain ⟨b0, o0, e1, _⟩ := hrd 0 news[0] (by simp [hpos])
      cases e1
      have hnews : ∀ (j : Nat) u, news[j]? = some u → w.cell? ((⟨b0, o0, none⟩ : Addr).add j) = some u := fun j u hu => by
        obtain ⟨b', o', e2, hc⟩ := hrd j u hu
        cases e2
        have hadd : (⟨b0, o0, none⟩ : Addr).add j = ⟨b0, o0 + j, none⟩ := by unfold Addr.add; split <;> simp_all
        rw [hadd]; exact hc
      rcases hown.2 with ⟨rfl, rfl⟩ | ⟨g, cap, cur, rfl, hbg, hg, hnc, hcm', hcs, htake⟩
      · have hx : xs = [] := List.eq_nil_of_length_eq_zero (by simpa using hown.1)
        subst hx
        have hr := run_append_nil (P := P) w t ty e i z ht hi hz ⟨b0, o0, none⟩ m c news hl hnews (by omega) (by omega) (by have hb := hbytes; simp only [Nat.zero_add] at hb; omega)
        have hgo := grown_own (w := w) (e := e) hzs hl (grownCap_ge w m 0 e) (grownCap_le_maxLen w m 0 e (by omega))
        refine ⟨_, _, hr, by simpa using ownsRow_base hgo (Nat.zero_le _), ⟨rfl, rfl, rfl, by simp, fun k hk _ => Below.heap_alloc w.drew _ k hk⟩, fun b hb => .inr ?_⟩
        simp [Value.ownBlock] at hb; omega
      · by_cases hroom : n + m ≤ cap
        · have hfit : n * i.size + news.length ≤ cur.size := by rw [hl, hcs, ← Nat.add_mul]; exact Nat.mul_le_mul_right _ hroom
          have hr := run_append_room (P := P) w t ty e i ht hi g n cap cur hg ⟨b0, o0, none⟩ m c news hl hnews h1 hroom hfit
          refine ⟨_, _, hr, ⟨hlen, .inr ⟨g, cap, _, rfl, hbg, setRow_heap w g cur _ e _ hg, hroom, hcm', ?_, ?_⟩⟩, grownBy_setRow w g _, fun b hb => .inl hb⟩
          · simp only [List.size_toArray, List.length_append, List.length_take, List.length_drop, Array.length_toList]
            omega
          · rw [htake, ← hlen]
            exact List.take_left
        · have holds : ∀ (j : Nat) u, xs[j]? = some u → w.cell? ((⟨g, 0, none⟩ : Addr).add j) = some u := hown.cells (g := g) rfl
          have hr := run_append_grow (P := P) w t ty e i z ht hi hz ⟨g, 0, none⟩ n cap xs hown.1 holds ⟨b0, o0, none⟩ m c news hl hnews (by omega) (by omega) (growslice_fits (by omega) hbytes)
          have hgo := grown_own (w := w) (e := e) hzs hlen (grownCap_ge w (n + m) cap e) (grownCap_le_maxLen w (n + m) cap e h63)
          refine ⟨_, _, hr, by simpa using ownsRow_base hgo (Nat.zero_le _), ⟨rfl, rfl, rfl, by simp, fun k hk _ => Below.heap_alloc w.drew _ k hk⟩, fun b hb => .inr ?_⟩
          simp [Value.ownBlock] at hb; omega
end

section
variable {P : Program} {cx : Cx} {s : St} {Q : VE → St → Prop} {ops rest : List Oper}
theorem exec_append {a : Act} {w : World} {x y : Operand} {t ty : TypeId} {u w'} (h : (Builtin.append_ #[t, t] ty #[a.eval x, a.eval y]).run P w = .ok u w') : (execOp a.eval (bare (.call { callee := .builtin .append, args := #[x, y], argTypes := #[t, t] }) ty)).run P w = .ok (.value u) w' := by
  simp [execOp, resolve, invoke, builtin, h]
/-- to a row of its own -/
theorem v_app {t ty e : TypeId} {x y : Operand} {k ver sz by_ : Nat} {l l2 : List (List D)} {nw : Bool} {v2 : V} [hE : SlI P t e sz by_] (hx : evalV s x = some (.row k ver)) (hr : rowAt k s.st = some (true, nw, ver, e, sz, l)) (hy : evalV s y = some v2) (hsrc : SrcV s.st sz v2 l2)
    (hb : (l.length + l2.length) * by_ ≤ 140737488355328) (h0 : 0 < by_) : OpV P cx (.call { callee := .builtin .append, args := #[x, y], argTypes := #[t, t] }) ty s (.row k (ver + 1)) (.r true nw k (ver + 1) e sz (l ++ l2) :: s.st) s.nb := fun g a w hS => by
  have hx' := hS.eval hx
  simp only [vrep] at hx'
  obtain ⟨v, xs, r1, r2, r3, r4, r5⟩ := hS.st.row hr
  rw [hx'.1] at r1; cases r1
  rcases r5 with ⟨_, r5, r6⟩ | ⟨h, _⟩
  · obtain ⟨us, s1, s2, s3, s4, s5⟩ := hsrc.rep hS.st (hS.eval hy)
    have hml : l.length + l2.length ≤ maxLen := by
      have := Nat.le_mul_of_pos_right (l.length + l2.length) h0
      unfold maxLen; omega
    obtain ⟨v', w', hrun, h1, h2, h3⟩ := run_append_v (ty := ty) hE.elem r5 s1 s3 s4 hml hb
    have hold : ∀ b, b < w.heap.size → g.prot b → (g.prot b ∧ some b ≠ v'.ownBlock) ∧ w'.heap[b]? = w.heap[b]? := fun b hb' hp => by
      refine ⟨⟨hp, fun he => ?_⟩, h2.block b hb' fun he => hp (.inr (.inr ⟨k, r6.trans he.symm⟩))⟩
      rcases h3 b he.symm with h | h
      · exact hp (.inr (.inr ⟨k, r6.trans h⟩))
      · omega
    obtain ⟨m1, m2, m3, m4⟩ := turn_row hS.inv hS.st hr hx'.1 r6 h2 (drepss_app (drepss_mono (Nat.le_refl _) hold r2) (drepss_mono (Nat.le_refl _) hold s2))
      ⟨fun x hx => (List.mem_append.1 hx).elim (r3.1 x) (s5 x), fun u hu => (List.mem_append.1 hu).elim (r3.2.1 u) (s4 u)⟩ (by rw [List.length_append]; exact h1) h3 (.inr rfl)
    exact ⟨v', _, w', exec_append hrun, m1, m2, m3, m4⟩
  · cases h
/-- to nothing -/
theorem r_appn {t ty e : TypeId} {x y : Operand} {sz by_ k : Nat} {l2 : List (List D)} {v2 : V} {tm : List (Nat × V)} {st : List E} [hE : SlI P t e sz by_] (hx : evalV ⟨tm, st, 0⟩ x = some (.d (.lit (.slice none 0 0)))) (hy : evalV ⟨tm, st, 0⟩ y = some v2) (hsrc : SrcV st sz v2 l2)
    (hb : l2.length * by_ ≤ 140737488355328) (h0 : 0 < by_) : OpR P cx (.call { callee := .builtin .append, args := #[x, y], argTypes := #[t, t] }) ty tm st (.row k 0) k (.r true true k 0 e sz l2) := fun nb g a w hk hf hS => by
  have hx : evalV ⟨tm, st, nb⟩ x = some (.d (.lit (.slice none 0 0))) := by cases x <;> exact hx
  have hy : evalV ⟨tm, st, nb⟩ y = some v2 := by cases y <;> exact hy
  have hx' := hS.eval hx
  simp only [vrep, drep] at hx'
  obtain ⟨us, s1, s2, s3, s4, s5⟩ := hsrc.rep hS.st (hS.eval hy)
  have hml : 0 + l2.length ≤ maxLen := by
    have := Nat.le_mul_of_pos_right l2.length h0
    unfold maxLen; omega
  have h00 : w.ownsRow 0 e sz (a.eval x) 0 [] := by rw [hx']; exact World.ownsRow_nil w 0 e sz
  obtain ⟨v', w', hrun, h1, h2, h3⟩ := run_append_v (ty := ty) hE.elem h00 s1 s3 s4 hml (by rw [Nat.zero_add]; exact hb)
  rw [hx'] at h2 h3
  simp only [Value.ownBlock] at h2 h3
  have hbel : Below w.heap.size w w' := ⟨h2.os, h2.tape, h2.output, h2.size, fun b hb' => h2.block b hb' (by simp)⟩
  have hown : w'.ownsRow w.heap.size e sz v' l2.length us := by
    simp only [Nat.zero_add, List.nil_append] at h1
    refine ⟨h1.1, ?_⟩
    rcases h1.2 with h | ⟨gb, cap, cur, hv', _, rest⟩
    · exact .inl h
    · refine .inr ⟨gb, cap, cur, hv', ?_, rest⟩
      rcases h3 gb (by rw [hv']) with h | h
      · cases h
      · exact h
  obtain ⟨m1, m2, m3, m4⟩ := new_row hS.inv hf hk hbel (e := e) (sz := sz) (drepss_mono (Nat.le_refl _) (fun b hb' hp => ⟨⟨hp, fun he => by have := (hown.lt b he.symm).1; omega⟩, hbel.block b hb'⟩) s2) ⟨s5, s4⟩ hown
  exact ⟨v', _, w', exec_append hrun, m1, m2, m3, m4⟩
/-! ### to a slice with no room -/
theorem run_append_full {t ty e : TypeId} {size bytes : Nat} {w : World} (hE : Elem P t e size bytes) {a : Option Addr} {n : Nat} {xs : List Value} (hsl0 : IsSl w (.slice a n n) n xs) (hl0 : xs.length = n * size) {x : Value} {m : Nat} {news : List Value} (hsl : IsSl w x m news) (hl : news.length = m * size)
    (hm : 0 < m) (h63 : n + m ≤ maxLen) (hbytes : (n + m) * bytes ≤ 140737488355328) :
    ∃ v' w', (Builtin.append_ #[t, t] ty #[.slice a n n, x]).run P w = .ok v' w' ∧ w'.ownsRow w.heap.size e size v' (n + m) (xs ++ news) ∧ Below w.heap.size w w' := by
  obtain ⟨ht, ⟨i, z, hi, hz, rfl, rfl, hzs⟩, hp⟩ := hE
  obtain ⟨ad, c, rfl, hmc, hcm, hnil, hrd⟩ := hsl
  obtain ⟨a', c', e1, _, _, hnil0, hrd0⟩ := hsl0
  cases e1
  have hsmall : n + m ≤ 9223372036854775807 := by simp only [maxLen] at h63; omega
  have hlen : (xs ++ news).length = (n + m) * i.size := by rw [List.length_append, hl0, hl, Nat.add_mul]
  have hpos : 0 < news.length := by rw [hl]; exact Nat.mul_pos hm hp
  have hreads : ∀ {a : Option Addr} {cs : List Value}, Reads w a cs → ∀ b, a = some b → ∀ (j : Nat) u, cs[j]? = some u → w.cell? (b.add j) = some u := fun {a cs} h b hb j u hu => by
    obtain ⟨b', o', e2, hc⟩ := h j u hu
    rw [hb] at e2; cases e2
    have hadd : (⟨b', o', none⟩ : Addr).add j = ⟨b', o' + j, none⟩ := by unfold Addr.add; split <;> simp_all
    rw [hadd]; exact hc
  obtain ⟨b0, o0, e1, _⟩ := hrd 0 news[0] (by simp [hpos])
  have hnews := hreads hrd _ e1
  subst e1
  cases a with
  | none =>
    obtain rfl : n = 0 := hnil0 rfl
    obtain rfl : xs = [] := List.eq_nil_of_length_eq_zero (by simpa using hl0)
    have hr := run_append_nil (P := P) w t ty e i z ht hi hz ⟨b0, o0, none⟩ m c news hl hnews hm (by omega) (by have hb := hbytes; simp only [Nat.zero_add] at hb; omega)
    have hgo := grown_own (w := w) (e := e) hzs hl (grownCap_ge w m 0 e) (grownCap_le_maxLen w m 0 e (by omega))
    exact ⟨_, _, hr, by simpa using hgo, below_grown w _⟩
  | some b =>
    have hr := run_append_grow (P := P) w t ty e i z ht hi hz b n n xs hl0 (hreads hrd0 b rfl) ⟨b0, o0, none⟩ m c news hl hnews (by omega) (by omega) (growslice_fits (by omega) hbytes)
    have hgo := grown_own (w := w) (e := e) hzs hlen (grownCap_ge w (n + m) n e) (grownCap_le_maxLen w (n + m) n e h63)
    exact ⟨_, _, hr, by simpa using hgo, below_grown w _⟩
/-- what is clipped -/
inductive ClipV (st : List E) (sz : Nat) : V → List (List D) → Prop where
  | sl {f : Bool} {l : List (List D)} (hz : ∀ x ∈ l, x.length = sz) : ClipV st sz (.d (.sl true f l)) l
  | rv {k ver n e : Nat} {nw : Bool} {l : List (List D)} (hr : rowAt k st = some (true, nw, ver, e, sz, l)) (hn : n ≤ l.length) : ClipV st sz (.rv k ver n) (l.take n)
theorem ClipV.rep {B : Nat} {g : G} {w : World} {st : List E} (hs : SimS B g w st) {sz : Nat} {v : V} {l : List (List D)} (h : ClipV st sz v l) {u : Value} (hu : vrep B g w v u) :
    ∃ a us, u = .slice a l.length l.length ∧ IsSl w u l.length us ∧ drepss B g.prot w l us ∧ us.length = l.length * sz ∧ (∀ u ∈ us, u.oneCell' = true) ∧ ∀ x ∈ l, x.length = sz := by
  cases h with
  | sl hz =>
    simp only [vrep] at hu
    have hu0 := hu
    obtain ⟨us, h1, h2, h3, h4⟩ := IsSl.of_drep hu hz
    simp only [drep] at hu0
    obtain ⟨a, cap, cs, e1, _, _, e4, _⟩ := hu0
    have := e4 trivial
    subst this
    exact ⟨a, us, e1, h1, h2, h3, h4, hz⟩
  | @rv k ver n e nw l hr hn =>
    simp only [vrep] at hu
    obtain ⟨a, m, c, k1, rfl⟩ := hu
    obtain ⟨v, xs, r1, r2, r3, r4, r5⟩ := hs.row hr
    rw [k1] at r1; cases r1
    have hlen : (l.take n).length = n := by simp [hn]
    rcases r5 with ⟨_, r5, r6⟩ | ⟨h, _⟩
    · obtain ⟨a', c', e1, q2, q3, q4, q5⟩ := IsSl.of_own r5
      cases e1
      have hp := drepss_part r3.1 r2 n
      refine ⟨a, xs.take (n * sz), by rw [hlen], ⟨a, n, by rw [hlen], by rw [hlen]; exact Nat.le_refl _, by omega, fun h => by have := q4 h; omega, q5.take _⟩, hp.1, ?_, fun u hu => r3.2.1 u (List.mem_of_mem_take hu), fun x hx => r3.1 x (List.mem_of_mem_take hx)⟩
      rw [hlen, List.length_take, r5.1]
      exact Nat.min_eq_left (Nat.mul_le_mul_right _ hn)
    · cases h
theorem r_appc {t ty e : TypeId} {x y : Operand} {sz by_ k : Nat} {l l2 : List (List D)} {v v2 : V} {tm : List (Nat × V)} {st : List E} [hE : SlI P t e sz by_] (hx : evalV ⟨tm, st, 0⟩ x = some v) (hc : ClipV st sz v l) (hy : evalV ⟨tm, st, 0⟩ y = some v2) (hsrc : SrcV st sz v2 l2)
    (hm : 0 < l2.length) (hb : (l.length + l2.length) * by_ ≤ 140737488355328) (h0 : 0 < by_) : OpR P cx (.call { callee := .builtin .append, args := #[x, y], argTypes := #[t, t] }) ty tm st (.row k 0) k (.r true true k 0 e sz (l ++ l2)) := fun nb g a w hk hf hS => by
  have hx : evalV ⟨tm, st, nb⟩ x = some v := by cases x <;> exact hx
  have hy : evalV ⟨tm, st, nb⟩ y = some v2 := by cases y <;> exact hy
  obtain ⟨ad, us0, q1, q2, q3, q4, q5, q6⟩ := hc.rep hS.st (hS.eval hx)
  obtain ⟨us, s1, s2, s3, s4, s5⟩ := hsrc.rep hS.st (hS.eval hy)
  have hml : l.length + l2.length ≤ maxLen := by
    have := Nat.le_mul_of_pos_right (l.length + l2.length) h0
    unfold maxLen; omega
  rw [q1] at q2
  obtain ⟨v', w', hrun, h1, hbel⟩ := run_append_full (ty := ty) hE.elem q2 q4 s1 s3 hm hml hb
  rw [← q1] at hrun
  have hold : ∀ b, b < w.heap.size → g.prot b → (g.prot b ∧ some b ≠ v'.ownBlock) ∧ w'.heap[b]? = w.heap[b]? := fun b hb' hp => ⟨⟨hp, fun he => by have := (h1.lt b he.symm).1; omega⟩, hbel.block b hb'⟩
  obtain ⟨m1, m2, m3, m4⟩ := new_row hS.inv hf hk hbel (e := e) (sz := sz) (drepss_app (drepss_mono (Nat.le_refl _) hold q3) (drepss_mono (Nat.le_refl _) hold s2)) ⟨fun x hx => (List.mem_append.1 hx).elim (q6 x) (s5 x), fun u hu => (List.mem_append.1 hu).elim (q5 u) (s4 u)⟩ (by rw [List.length_append]; exact h1)
  exact ⟨v', _, w', exec_append hrun, m1, m2, m3, m4⟩
end

end Go.Proofs.Ytjfaihpiohccbaa

namespace Go.Proofs.Ytjfaihpiohccbaa
open Go.RowKit

/-- a slice that nobody writes to -/
def slV (st : List E) : V → Option (Bool × Bool × List (List D))
  | .d (.sl c f l) => some (c, f, l)
  | .row k ver => match rowAt k st with
    | some (o, nw, v, _, _, l) => (match o with
      | true => none
      | false => (match Nat.beq ver v with
        | true => some (false, nw, l)
        | false => none))
    | none => none
  | _ => none
/-- how long a slice is -/
def lenV (st : List E) : V → Option Nat
  | .d (.sl _ _ l) => some l.length
  | .d (.lit v) => match v with
    | .slice none 0 0 => some 0
    | _ => none
  | .row k ver => match rowAt k st with
    | some (_, _, v, _, _, l) => (match Nat.beq ver v with
      | true => some l.length
      | false => none)
    | none => none
  | _ => none
section
variable {B : Nat} {g : G} {w : World} {st : List E}
theorem slV_rep (h : SimS B g w st) {v : V} {c f : Bool} {l : List (List D)} (hv : slV st v = some (c, f, l)) {u : Value} (hu : vrep B g w v u) : drep B g.prot w (.sl c f l) u := by
  unfold slV at hv
  split at hv
  · cases hv; simp only [vrep] at hu; exact hu
  · split at hv
    · rename_i o nw v' e sz l' hr
      cases o with
      | true => simp at hv
      | false =>
        simp only at hv
        split at hv
        · rename_i hb
          have := Nat.eq_of_beq_eq_true hb
          subst this
          cases hv
          simp only [vrep] at hu
          obtain ⟨v', xs, h1, h2, h3, _, h4⟩ := h.row hr
          rw [hu.1] at h1; cases h1
          rcases h4 with ⟨h4, _⟩ | ⟨_, h4, h5⟩
          · cases h4
          · exact h5
        · cases hv
    · cases hv
  · cases hv
theorem lenV_rep (h : SimS B g w st) {v : V} {n : Nat} (hv : lenV st v = some n) {u : Value} (hu : vrep B g w v u) : ∃ a cap, u = .slice a n cap := by
  unfold lenV at hv
  split at hv
  · cases hv
    simp only [vrep, drep] at hu
    obtain ⟨a, cap, cs, e, _⟩ := hu
    exact ⟨a, cap, e⟩
  · split at hv
    · cases hv; simp only [vrep, drep] at hu; exact ⟨none, 0, hu⟩
    · cases hv
  · split at hv
    · rename_i o nw v' e sz l' hr
      split at hv
      · rename_i hb
        have := Nat.eq_of_beq_eq_true hb
        subst this
        cases hv
        simp only [vrep] at hu
        obtain ⟨v', xs, h1, h2, h3, _, h4⟩ := h.row hr
        rw [hu.1] at h1; cases h1
        rcases h4 with ⟨_, h4, _⟩ | ⟨_, _, h4⟩
        · rcases h4.2 with ⟨rfl, h5⟩ | ⟨gb, cap, cur, rfl, _⟩
          · exact ⟨none, 0, by rw [h5]⟩
          · exact ⟨_, cap, rfl⟩
        · simp only [drep] at h4
          obtain ⟨a, cap, cs, e, _⟩ := h4
          exact ⟨a, cap, e⟩
      · cases hv
    · cases hv
  · cases hv
end

section
variable {P : Program} {cx : Cx} {s : St} {Q : VE → St → Prop} {ops rest : List Oper}
theorem q_len {t ty e : TypeId} {x : Operand} {v : V} {n sz by_ : Nat} [hE : SlI P t e sz by_] (hx : evalV s x = some v) (hn : lenV s.st v = some n) : OpQ P cx (.call { callee := .builtin .len, args := #[x], argTypes := #[t] }) ty s (I .i64 (n : Int)) := fun g a w hS => by
  obtain ⟨ad, cap, h⟩ := lenV_rep hS.st hn (hS.eval hx)
  refine ⟨.int .i64 n, ?_, by simp only [vrep, drep]⟩
  simp [execOp, resolve, invoke, builtin, Builtin.len_, h, run_underlying hE.elem.und w, goInt]
theorem q_min {ty : TypeId} {x y : Operand} {tys : Array TypeId} {k : IntKind} {a b : Int} (hx : evalV s x = some (I k a)) (hy : evalV s y = some (I k b)) : OpQ P cx (.call { callee := .builtin .min, args := #[x, y], argTypes := tys }) ty s (I k (min a b)) := fun g ac w hS => by
  have h1 := hS.eval hx
  have h2 := hS.eval hy
  simp only [vrep, drep] at h1 h2
  refine ⟨.int k (min a b), ?_, by simp only [vrep, drep]⟩
  have : (if b < a then b else a) = min a b := by simp only [Int.min_def]; split <;> split <;> omega
  simp [execOp, resolve, invoke, builtin, Builtin.min_, Builtin.min2, h1, h2, this]
theorem q_max {ty : TypeId} {x y : Operand} {tys : Array TypeId} {k : IntKind} {a b : Int} (hx : evalV s x = some (I k a)) (hy : evalV s y = some (I k b)) : OpQ P cx (.call { callee := .builtin .max, args := #[x, y], argTypes := tys }) ty s (I k (max a b)) := fun g ac w hS => by
  have h1 := hS.eval hx
  have h2 := hS.eval hy
  simp only [vrep, drep] at h1 h2
  refine ⟨.int k (max a b), ?_, by simp only [vrep, drep]⟩
  have : (if a < b then b else a) = max a b := by simp only [Int.max_def]; split <;> split <;> omega
  simp [execOp, resolve, invoke, builtin, Builtin.max_, Builtin.max2, h1, h2, this]
theorem q_ext {x : Operand} {ty : TypeId} {i : Nat} {l : List V} {v : V} (hx : evalV s x = some (.tup l)) (hl : l[i]? = some v) : OpQ P cx (.extract x i) ty s v := fun g a w hS => by
  have h1 := hS.eval hx
  simp only [vrep] at h1
  obtain ⟨cs, h1, h2⟩ := h1
  obtain ⟨u, k1, k2⟩ := vreps_get h2 hl
  exact ⟨u, by simp [execOp, Instr.extract, h1, k1], k2⟩
theorem q_extd {x : Operand} {ty : TypeId} {i : Nat} {l : List D} {v : D} (hx : evalV s x = some (.d (.tup l))) (hl : l[i]? = some v) : OpQ P cx (.extract x i) ty s (.d v) := fun g a w hS => by
  have h1 := hS.eval hx
  simp only [vrep, drep] at h1
  obtain ⟨cs, h1, h2⟩ := h1
  obtain ⟨u, k1, k2⟩ := dreps_get h2 hl
  exact ⟨u, by simp [execOp, Instr.extract, h1, k1], by simp only [vrep]; exact k2⟩
theorem q_mkf {ty : TypeId} {fn : Fn} {fi ca : Array Operand} {v1 v2 : List V} (h1 : evalVs s fi.toList = some v1) (h2 : evalVs s ca.toList = some v2) : OpQ P cx (.makeFunc fn fi ca) ty s (.fn fn v1 v2) := fun g a w hS => by
  have k1 := hS.evals h1
  have k2 := hS.evals h2
  refine ⟨.func fn (fi.map a.eval) (ca.map a.eval), by simp [execOp, Instr.makeFunc], ?_⟩
  simp only [vrep]
  exact ⟨_, _, by rw [← Array.toList_map, ← Array.toList_map, Array.toArray_toList, Array.toArray_toList], k1, k2⟩

theorem q_mki {t ty : TypeId} {x : Operand} {v : V} [ht : NIfI P t] (hx : evalV s x = some v) : OpQ P cx (.makeInterface t x) ty s (.ifc t v) := fun g a w hS => by
  obtain ⟨d, h1, h2⟩ := Option.map_eq_some_iff.1 ht.und
  refine ⟨.iface t (a.eval x), ?_, by simp only [vrep]; exact ⟨_, rfl, hS.eval hx⟩⟩
  have : (Instr.makeInterface t (a.eval x)).run P w = .ok (.iface t (a.eval x)) w := by
    unfold Instr.makeInterface
    rw [Sem.run_bind, run_underlying h1 w]
    cases d <;> simp_all [ifcD]
  simp [execOp, this]
theorem p_panic {x : Operand} {ty t : TypeId} {v : V} (hx : evalV s x = some (.ifc t v)) : OpP P cx (.panic x) ty s (.ifc t v) := fun g a w hS => by
  have h1 := hS.eval hx
  have h0 := h1
  simp only [vrep] at h1
  obtain ⟨y, h1, h2⟩ := h1
  exact ⟨a.eval x, by simp [execOp, Instr.panic, h1, goPanic, Sem.run], h0⟩
theorem p_panicd {x : Operand} {ty t : TypeId} {v : D} (hx : evalV s x = some (.d (.ifc t v))) : OpP P cx (.panic x) ty s (.d (.ifc t v)) := fun g a w hS => by
  have h1 := hS.eval hx
  have h0 := h1
  simp only [vrep, drep] at h1
  obtain ⟨y, h1, h2⟩ := h1
  exact ⟨a.eval x, by simp [execOp, Instr.panic, h1, goPanic, Sem.run], h0⟩

/-! ### addresses of elements -/
/-- an element's address -/
theorem q_idx {t ty e : TypeId} {x y : Operand} {k : IntKind} {i : Int} {v : V} {c f : Bool} {l : List (List D)} {sz by_ : Nat} {cs : List D} [hE : SlI P t e sz by_] (hx : evalV s x = some v) (hv : slV s.st v = some (c, f, l)) (hy : evalV s y = some (I k i)) (h0 : 0 ≤ i) (hl : l[i.toNat]? = some cs) (hc : cs.length = sz) :
    OpQ P cx (.indexAddr t x y) ty s (.ep cs) := fun g a w hS => by
  have h1 := slV_rep hS.st hv (hS.eval hx)
  have h2 := hS.eval hy
  simp only [vrep, drep] at h1 h2
  obtain ⟨ad, cap, us, h1, e2, e3, e4, e5, ⟨sz', e6⟩, e0, e7, e8⟩ := h1
  have hlt := (List.getElem?_eq_some_iff.1 hl).1
  obtain rfl : sz' = sz := by rw [← hc]; exact (e6 cs (List.mem_of_getElem? hl)).symm
  have hpos := hE.elem.pos
  have hd := drepss_get e6 e8 hl
  have hulen := drepss_len e6 e8
  have hd' : ∃ u, us[i.toNat * sz']? = some u := by
    have : i.toNat * sz' < us.length := by rw [hulen]; exact (Nat.mul_lt_mul_right hpos).2 hlt
    exact ⟨us[i.toNat * sz'], List.getElem?_eq_getElem this⟩
  obtain ⟨u0, hu0⟩ := hd'
  obtain ⟨b, o, rfl, _, _⟩ := e7 _ u0 hu0
  have hadd : (⟨b, o, none⟩ : Addr).add (i.toNat * sz') = ⟨b, o + i.toNat * sz', none⟩ := by unfold Addr.add; split <;> simp_all
  refine ⟨.pointer (some ⟨b, o + i.toNat * sz', none⟩), ?_, ?_⟩
  · have hi : (i < (l.length : Int)) := by omega
    simp [execOp, h1, h2, Instr.indexAt, asIntOf, run_underlying hE.elem.und w, run_sizeOf_e hE.elem, h0, hi, hadd]
  · simp only [vrep]
    refine ⟨b, o + i.toNat * sz', _, rfl, fun j u hj => ?_, hd⟩
    rw [List.getElem?_take] at hj
    split at hj
    · rw [List.getElem?_drop] at hj
      obtain ⟨b', o', e, hp, hcell⟩ := e7 _ u hj
      cases e
      exact ⟨b, _, rfl, hp.1, by rw [Nat.add_assoc]; exact hcell⟩
    · cases hj
theorem q_idxp {t ty e : TypeId} {x y : Operand} {k0 : IntKind} {i : Int} {k off n sz : Nat} [hA : ArrI P t n e sz] (hx : evalV s x = some (.ptr k off)) (hy : evalV s y = some (I k0 i)) (h0 : 0 ≤ i) (h1 : i < (n : Int)) : OpQ P cx (.indexAddr t x y) ty s (.ptr k (off + i.toNat * sz)) := fun g a w hS => by
  have hx' := hS.eval hx
  have hy' := hS.eval hy
  simp only [vrep, drep] at hx' hy'
  obtain ⟨b, hb, hx'⟩ := hx'
  obtain ⟨hu, ie, hie, hsz⟩ := hA.get
  have hadd : (⟨b, off, none⟩ : Addr).add (i.toNat * sz) = ⟨b, off + i.toNat * sz, none⟩ := by unfold Addr.add; split <;> simp_all
  refine ⟨.pointer (some ⟨b, off + i.toNat * sz, none⟩), ?_, by simp only [vrep]; exact ⟨b, hb, rfl⟩⟩
  have hs : (sizeOf e).run P w = .ok sz w := by simp [sizeOf, typeInfo, hie, hsz]
  simp [execOp, hx', hy', Instr.indexAt, asIntOf, run_underlying hu w, hs, h0, h1, hadd, Instr.sureAddr]
theorem q_idxr {t ty e e' : TypeId} {x y : Operand} {k0 : IntKind} {i : Int} {k ver sz by_ : Nat} {nw : Bool} {l : List (List D)} [hE : SlI P t e sz by_] (hx : evalV s x = some (.row k ver)) (hy : evalV s y = some (I k0 i)) (hr : rowAt k s.st = some (true, nw, ver, e', sz, l)) (h0 : 0 ≤ i) (h1 : i < (l.length : Int)) :
    OpQ P cx (.indexAddr t x y) ty s (.rp k ver sz i.toNat 0) := fun g a w hS => by
  have hx' := hS.eval hx
  have hy' := hS.eval hy
  simp only [vrep, drep] at hx' hy'
  obtain ⟨v, xs, r1, r2, r3, r4, r5⟩ := hS.st.row hr
  rw [hx'.1] at r1; cases r1
  rcases r5 with ⟨_, r5, _⟩ | ⟨h, _⟩
  · rcases r5.2 with ⟨_, h5⟩ | ⟨b, cap, cur, h5, _⟩
    · omega
    · have hadd : (⟨b, 0, none⟩ : Addr).add (i.toNat * sz) = ⟨b, i.toNat * sz, none⟩ := by unfold Addr.add; split <;> simp_all
      refine ⟨.pointer (some ⟨b, i.toNat * sz, none⟩), ?_, ?_⟩
      · simp [execOp, h5, hy', Instr.indexAt, asIntOf, run_underlying hE.elem.und w, run_sizeOf_e hE.elem, h0, h1, hadd]
      · simp only [vrep]
        exact ⟨b, l.length, cap, by rw [hx'.1, h5], rfl⟩
  · cases h

/-! ### rows: loads and stores -/
theorem row_elem {B : Nat} {g : G} {w : World} {st : List E} (hs : SimS B g w st) {k ver : Nat} {nw : Bool} {e : TypeId} {sz : Nat} {l : List (List D)} (hr : rowAt k st = some (true, nw, ver, e, sz, l)) {i j : Nat} {cs : List D} (hl : l[i]? = some cs) {b n c : Nat} (hv : g.rw k ver = some (.slice (some ⟨b, 0, none⟩) n c)) :
    ∃ cur us, w.heap[b]? = some (.cells cur e (0, 0)) ∧ dreps B g.prot w (cs.drop j) us ∧ (∀ (m : Nat) u, us[m]? = some u → cur[i * sz + j + m]? = some u) ∧ (i + 1) * sz ≤ cur.size ∧ cs.length = sz := by
  obtain ⟨v, xs, r1, r2, r3, r4, r5⟩ := hs.row hr
  rw [hv] at r1; cases r1
  rcases r5 with ⟨_, r5, _⟩ | ⟨h, _⟩
  · rcases r5.2 with ⟨h5, _⟩ | ⟨b', cap, cur, h5, _, hh, hn, _, hsz, ht⟩
    · cases h5
    · cases h5
      have hd := drepss_get r3.1 r2 hl
      have hlt := (List.getElem?_eq_some_iff.1 hl).1
      have hcs := r3.1 cs (List.mem_of_getElem? hl)
      have hlen := dreps_len hd
      refine ⟨cur, (((xs.drop (i * sz)).take sz).drop j), hh, ?_, fun m u hm => ?_, ?_, hcs⟩
      · refine dreps_mk (by simp at hlen ⊢; omega) fun m x y hx hy => ?_
        rw [List.getElem?_drop] at hx hy
        obtain ⟨y', e1, k1⟩ := dreps_get hd hx
        rw [hy] at e1; cases e1; exact k1
      · rw [List.getElem?_drop, List.getElem?_take] at hm
        split at hm
        · rw [List.getElem?_drop] at hm
          rw [← ht, List.getElem?_take] at hm
          split at hm
          · rw [Nat.add_assoc]; simpa using hm
          · cases hm
        · cases hm
      · rw [hsz]; exact Nat.mul_le_mul_right _ (by omega)
  · cases h
theorem q_loadr {t ty e : TypeId} {x : Operand} {k ver sz i j sz1 : Nat} {z : List Value} {nw : Bool} {l : List (List D)} {cs : List D} {d : D} [hT : TyI P t false sz1 z] (hx : evalV s x = some (.rp k ver sz i j)) (hr : rowAt k s.st = some (true, nw, ver, e, sz, l)) (hl : l[i]? = some cs) (hd : cs[j]? = some d) : OpQ P cx (.load t x) ty s (.d d) := fun g a w hS => by
  have hx' := hS.eval hx
  simp only [vrep] at hx'
  obtain ⟨b, n, c, h1, h2⟩ := hx'
  obtain ⟨cur, us, k1, k2, k3, _⟩ := row_elem hS.st hr (j := j) hl h1
  obtain ⟨u, m1, m2⟩ := dreps_get k2 (i := 0) (x := d) (by rw [List.getElem?_drop]; simpa using hd)
  refine ⟨u, ?_, by simp only [vrep]; exact m2⟩
  have := run_loadVar_leaf (P := P) (hT := hT) (w := w) (a := ⟨b, i * sz + j, none⟩) (u := u) (by rw [cell_of_row w b _ cur e (0, 0) k1]; exact k3 0 u m1)
  simp [execOp, h2, Instr.loadAt, Instr.sureAddr, this]
theorem q_loadrs {t ty e : TypeId} {x : Operand} {k ver sz i j sz1 : Nat} {z : List Value} {nw : Bool} {l : List (List D)} {cs : List D} [hT : TyI P t true sz1 z] (hx : evalV s x = some (.rp k ver sz i j)) (hr : rowAt k s.st = some (true, nw, ver, e, sz, l)) (hl : l[i]? = some cs) (hd : j + sz1 ≤ cs.length) : OpQ P cx (.load t x) ty s (.agg (((cs.drop j).take sz1).map .d)) := fun g a w hS => by
  have hx' := hS.eval hx
  simp only [vrep] at hx'
  obtain ⟨b, n, c, h1, h2⟩ := hx'
  obtain ⟨cur, us, k1, k2, k3, _⟩ := row_elem hS.st hr (j := j) hl h1
  have hlen := dreps_len k2
  refine ⟨.agg (us.take sz1).toArray, ?_, ?_⟩
  · have := run_loadVar_agg (P := P) (hT := hT) (w := w) (b := b) (o := i * sz + j) (us := us.take sz1) (by simp at hlen ⊢; omega) (fun m u hm => by
      rw [List.getElem?_take] at hm
      split at hm
      · rw [cell_of_row w b _ cur e (0, 0) k1]; exact k3 m u hm
      · cases hm)
    simp [execOp, h2, Instr.loadAt, Instr.sureAddr, this]
  · simp only [vrep]
    refine ⟨_, rfl, vreps_d ?_⟩
    refine dreps_mk (by simp at hlen ⊢; omega) fun m x y hx hy => ?_
    rw [List.getElem?_take] at hx hy
    split at hx
    · rename_i hlt
      rw [if_pos hlt] at hy
      obtain ⟨y', e1, q1⟩ := dreps_get k2 hx
      rw [hy] at e1; cases e1; exact q1
    · cases hx
end

end Go.Proofs.Ytjfaihpiohccbaa

namespace Go.Proofs.Ytjfaihpiohccbaa
open Go.RowKit

theorem blt_lt {k n : Nat} (h : Nat.blt k n = true) : k < n := Nat.le_of_ble_eq_true h
section
variable {B : Nat} {g : G} {w : World}
theorem cellsAt_get {k : Nat} {st : List E} : ∀ {n o : Nat} {vs : List V}, cellsAt k o st n = some vs → ∀ {i : Nat} {v : V}, vs[i]? = some v → cellAt k (o + i) st = some v
  | 0, o, vs, h, i, v, hv => by simp only [cellsAt, Option.some.injEq] at h; subst h; simp at hv
  | n + 1, o, vs, h, i, v, hv => by
    simp only [cellsAt] at h
    split at h
    · cases h
    · rename_i x hx
      split at h
      · cases h
      · rename_i xs hxs
        cases h
        cases i with
        | zero => simp at hv; subst hv; exact hx
        | succ i => simp at hv; have := cellsAt_get hxs hv; rwa [show o + 1 + i = o + (i + 1) by omega] at this
end
def memB (k : Nat) : List Nat → Bool
  | [] => false
  | x :: xs => match Nat.beq k x with
    | true => true
    | false => memB k xs
theorem memB_iff {k : Nat} : ∀ {l : List Nat}, memB k l = true ↔ k ∈ l
  | [] => by simp [memB]
  | x :: xs => by
    simp only [memB, List.mem_cons]
    split
    · rename_i h; simp [Nat.eq_of_beq_eq_true h]
    · rename_i h
      rw [memB_iff]
      constructor
      · exact .inr
      · rintro (rfl | h2)
        · rw [Nat.beq_refl] at h; cases h
        · exact h2
/-- the one state is one of those that the other describes -/
def Sub (cx : Cx) (s s' : St) : Prop := ∀ g0 w0 g a w, Ext cx.sp cx.m g0 w0 g w → Sim cx g a w s → ∃ g', Ext cx.sp cx.m g0 w0 g' w ∧ Sim cx g' a w s'

/-- a row's name at the head, and its name and time where a round ends -/
abbrev Ren := List (Nat × Nat × Nat)
def lookR (k : Nat) : Ren → Option (Nat × Nat)
  | [] => none
  | (k', a, v) :: r => match Nat.beq k k' with
    | true => some (a, v)
    | false => lookR k r
def G.ren (g : G) (ρ : Ren) (n : Nat) : G :=
  ⟨g.ex, fun k => if k < n then g.bx k else none,
   fun k => if k < n then (match lookR k ρ with | some p => g.rb p.1 | none => if memB k (ρ.map (·.2.1)) = true then none else g.rb k) else none,
   fun k ver => if k < n then (match lookR k ρ with | some p => if ver = 0 then g.rw p.1 p.2 else none | none => g.rw k ver) else none, g.pl, g.plex⟩
def renOk (m : Nat) (ρ : Ren) : Bool := decide ((ρ.map (·.1)).Nodup) && decide ((ρ.map (·.2.1)).Nodup) && ρ.all fun p => decide (m ≤ p.1)
theorem lookR_get {k : Nat} {p : Nat × Nat} : ∀ {ρ : Ren}, lookR k ρ = some p → ∃ i : Nat, ρ[i]? = some (k, p.1, p.2)
  | [], h => by simp [lookR] at h
  | (k', a, v) :: r, h => by
    simp only [lookR] at h
    split at h
    · rename_i hb
      have := Nat.eq_of_beq_eq_true hb
      subst this
      cases h
      exact ⟨0, rfl⟩
    · obtain ⟨i, hi⟩ := lookR_get h
      exact ⟨i + 1, by simpa using hi⟩
theorem renOk_spec {m : Nat} {ρ : Ren} (h : renOk m ρ = true) : (∀ {k k' : Nat} {p q : Nat × Nat}, lookR k ρ = some p → lookR k' ρ = some q → p.1 = q.1 → k = k') ∧ (∀ {k : Nat} {p : Nat × Nat}, lookR k ρ = some p → m ≤ k ∧ memB p.1 (ρ.map (·.2.1)) = true) := by
  simp only [renOk, Bool.and_eq_true, decide_eq_true_eq, List.all_eq_true] at h
  refine ⟨fun {k k' p q} h1 h2 e => ?_, fun {k p} h1 => ?_⟩
  · obtain ⟨i, hi⟩ := lookR_get h1
    obtain ⟨j, hj⟩ := lookR_get h2
    have e1 : (ρ.map (·.2.1))[i]? = some p.1 := by simp [hi]
    have e2 : (ρ.map (·.2.1))[j]? = some q.1 := by simp [hj]
    have : i = j := (List.getElem?_inj (List.getElem?_eq_some_iff.1 e1).1 h.1.2).1 (e1.trans (by rw [e2, e]))
    subst this
    rw [hi] at hj; simp only [Option.some.injEq, Prod.mk.injEq] at hj; exact hj.1
  · obtain ⟨i, hi⟩ := lookR_get h1
    have hm := List.mem_of_getElem? hi
    exact ⟨h.2 _ hm, memB_iff.2 (List.mem_map.2 ⟨_, hm, rfl⟩)⟩

section
variable {B n nb m : Nat} {ρ : Ren} {g : G} {w : World} {st : List E}
theorem ren_own {b : Nat} (h : (g.ren ρ n).own b) : g.own b := by
  rcases h with h | ⟨k, h⟩ | ⟨k, h⟩
  · exact .inl h
  · simp only [G.ren] at h
    split at h
    · exact .inr (.inl ⟨k, h⟩)
    · cases h
  · simp only [G.ren] at h
    split at h
    · split at h
      · exact .inr (.inr ⟨_, h⟩)
      · split at h
        · cases h
        · exact .inr (.inr ⟨k, h⟩)
    · cases h
theorem ren_prot {b : Nat} (h : g.prot b) : (g.ren ρ n).prot b := fun ho => h (ren_own ho)
theorem ren_inv (h : Inv B nb g w) (hρ : renOk m ρ = true) : Inv B n (g.ren ρ n) w := by
  obtain ⟨hi, hk⟩ := renOk_spec hρ
  have bxd : ∀ {k b}, (g.ren ρ n).bx k = some b → k < n ∧ g.bx k = some b := fun {k b} hb => by
    simp only [G.ren] at hb
    split at hb
    · rename_i hn; exact ⟨hn, hb⟩
    · cases hb
  have rbd : ∀ {k b}, (g.ren ρ n).rb k = some b → k < n ∧ ((∃ p, lookR k ρ = some p ∧ g.rb p.1 = some b) ∨ (lookR k ρ = none ∧ memB k (ρ.map (·.2.1)) = false ∧ g.rb k = some b)) := fun {k b} hb => by
    simp only [G.ren] at hb
    split at hb
    · rename_i hn
      refine ⟨hn, ?_⟩
      split at hb
      · rename_i p hp; exact .inl ⟨p, hp, hb⟩
      · rename_i hp
        split at hb
        · cases hb
        · rename_i hm; exact .inr ⟨hp, by simpa using hm, hb⟩
    · cases hb
  refine ⟨fun {k b} hb => ?_, fun {k b} hb => ?_, fun {k j v} hb => ?_, fun {i j b} h1 h2 => ?_, fun {i j b} h1 h2 => ?_, fun {i j b} h1 h2 => ?_, h.exlt, fun {i b} hb he => ?_, fun {i b} hb he => ?_, h.plB, h.base⟩
  · obtain ⟨h1, h2⟩ := bxd hb; exact ⟨(h.bxlt h2).1, h1⟩
  · obtain ⟨h1, ⟨p, _, h2⟩ | ⟨_, _, h2⟩⟩ := rbd hb
    · exact ⟨(h.rblt h2).1, h1⟩
    · exact ⟨(h.rblt h2).1, h1⟩
  · simp only [G.ren] at hb
    split at hb
    · assumption
    · cases hb
  · exact h.bxinj (bxd h1).2 (bxd h2).2
  · obtain ⟨_, ⟨p, a1, a2⟩ | ⟨a1, a2, a3⟩⟩ := rbd h1 <;> obtain ⟨_, ⟨q, c1, c2⟩ | ⟨c1, c2, c3⟩⟩ := rbd h2
    · exact hi a1 c1 (h.rbinj a2 c2)
    · have := h.rbinj a2 c3; have h3 := (hk a1).2; rw [this, c2] at h3; cases h3
    · have := h.rbinj c2 a3; have h3 := (hk c1).2; rw [this, a2] at h3; cases h3
    · exact h.rbinj a3 c3
  · obtain ⟨_, ⟨q, c1, c2⟩ | ⟨c1, c2, c3⟩⟩ := rbd h2
    · exact h.apart (bxd h1).2 c2
    · exact h.apart (bxd h1).2 c3
  · exact h.exbx (bxd hb).2 he
  · obtain ⟨_, ⟨q, c1, c2⟩ | ⟨c1, c2, c3⟩⟩ := rbd hb
    · exact h.exrb c2 he
    · exact h.exrb c3 he

/-- what the one value says, the other says in the new names -/
def RLe (n : Nat) (ρ : Ren) (st : List E) (vl vc : V) : Prop := ∀ B g w u, SimS B g w st → vrep B g w vc u → vrep B (g.ren ρ n) w vl u
def RLes (n : Nat) (ρ : Ren) (st : List E) (vl vc : List V) : Prop := ∀ B g w u, SimS B g w st → vreps B g w vc u → vreps B (g.ren ρ n) w vl u
theorem rle_nil : RLes n ρ st [] [] := fun _ _ _ _ _ h => by simpa only [vreps] using h
theorem rle_cons {x y : V} {xs ys : List V} (h : RLe n ρ st x y) (hs : RLes n ρ st xs ys) : RLes n ρ st (x :: xs) (y :: ys) := fun B g w u k h2 => by
  simp only [vreps] at h2 ⊢
  obtain ⟨z, zs, e, k1, k2⟩ := h2
  exact ⟨z, zs, e, h _ _ _ _ k k1, hs _ _ _ _ k k2⟩
theorem rle_d {x y : D} {v : V} (h : argD st v = some y) (hd : DL y x) : RLe n ρ st (.d x) v := fun B g w u k hu => by
  have := argD_rep k h hu
  simp only [vrep]
  exact drep_mono (Nat.le_refl _) (fun b _ hb => ⟨ren_prot hb, rfl⟩) (hd.le _ _ _ _ _ this)
theorem rle_any {v : V} : RLe n ρ st (.d .any) v := fun B g w u _ _ => by simp only [vrep, drep]
theorem rle_dd {x : D} : RLe n ρ st (.d x) (.d x) := fun B g w u _ hu => by
  simp only [vrep] at hu ⊢
  exact drep_mono (Nat.le_refl _) (fun b _ hb => ⟨ren_prot hb, rfl⟩) hu
theorem rle_po {e : Bool} {x : D} : RLe n ρ st (.po e x) (.po e x) := fun B g w u _ hu => by
  simp only [vrep] at hu ⊢; exact hu
theorem rle_pof {e : Bool} {x : D} : RLe n ρ st (.po false x) (.po e x) := fun B g w u _ hu => by
  simp only [vrep] at hu ⊢; obtain ⟨y, h, k⟩ := hu; exact ⟨y, blurE_any h, k⟩
theorem rle_ep {x : List D} : RLe n ρ st (.ep x) (.ep x) := fun B g w u _ hu => by
  simp only [vrep] at hu ⊢
  obtain ⟨b, o, cs, e, k1, k2⟩ := hu
  exact ⟨b, o, cs, e, k1.imp fun b hb => ren_prot hb, dreps_mono (Nat.le_refl _) (fun b _ hb => ⟨ren_prot hb, rfl⟩) k2⟩
theorem rle_ptr {i off : Nat} (hi : Nat.blt i n = true) : RLe n ρ st (.ptr i off) (.ptr i off) := fun B g w u _ hu => by
  simp only [vrep] at hu ⊢
  obtain ⟨b, hb, e⟩ := hu
  exact ⟨b, by simp only [G.ren]; rw [if_pos (blt_lt hi)]; exact hb, e⟩
theorem rle_sv {i off l c sz : Nat} (hi : Nat.blt i n = true) : RLe n ρ st (.sv i off l c sz) (.sv i off l c sz) := fun B g w u _ hu => by
  simp only [vrep] at hu ⊢
  obtain ⟨b, hb, e⟩ := hu
  exact ⟨b, by simp only [G.ren]; rw [if_pos (blt_lt hi)]; exact hb, e⟩
theorem rle_yl {i : Nat} (hi : Nat.blt i n = true) : RLe n ρ st (.yl i) (.yl i) := fun B g w u _ hu => by
  simp only [vrep] at hu ⊢
  obtain ⟨b, hb, e⟩ := hu
  exact ⟨b, by simp only [G.ren]; rw [if_pos (blt_lt hi)]; exact hb, e⟩
theorem rle_row {i k v : Nat} (hi : Nat.blt i n = true) (h : lookR i ρ = some (k, v)) : RLe n ρ st (.row i 0) (.row k v) := fun B g w u _ hu => by
  simp only [vrep] at hu ⊢
  exact ⟨by simp only [G.ren, h]; rw [if_pos (blt_lt hi)]; simp only [if_true]; exact hu.1, hu.2⟩
theorem rle_rowk {i v : Nat} (hi : Nat.blt i n = true) (h : lookR i ρ = none) : RLe n ρ st (.row i v) (.row i v) := fun B g w u _ hu => by
  simp only [vrep] at hu ⊢
  exact ⟨by simp only [G.ren, h]; rw [if_pos (blt_lt hi)]; exact hu.1, hu.2⟩
theorem rle_rv {i k v l : Nat} (hi : Nat.blt i n = true) (h : lookR i ρ = some (k, v)) : RLe n ρ st (.rv i 0 l) (.rv k v l) := fun B g w u _ hu => by
  simp only [vrep] at hu ⊢
  obtain ⟨a, m, c, e, hu⟩ := hu
  exact ⟨a, m, c, by simp only [G.ren, h]; rw [if_pos (blt_lt hi), if_pos trivial]; exact e, hu⟩
theorem rle_agg {xs ys : List V} (h : RLes n ρ st xs ys) : RLe n ρ st (.agg xs) (.agg ys) := fun B g w u k hu => by
  simp only [vrep] at hu ⊢
  obtain ⟨cs, e, hu⟩ := hu
  exact ⟨cs, e, h _ _ _ _ k hu⟩
theorem rle_tup {xs ys : List V} (h : RLes n ρ st xs ys) : RLe n ρ st (.tup xs) (.tup ys) := fun B g w u k hu => by
  simp only [vrep] at hu ⊢
  obtain ⟨cs, e, hu⟩ := hu
  exact ⟨cs, e, h _ _ _ _ k hu⟩
theorem rle_ifc {t : TypeId} {x y : V} (h : RLe n ρ st x y) : RLe n ρ st (.ifc t x) (.ifc t y) := fun B g w u k hu => by
  simp only [vrep] at hu ⊢
  obtain ⟨cs, e, hu⟩ := hu
  exact ⟨cs, e, h _ _ _ _ k hu⟩
theorem rle_fn {f : Fn} {xs ys xs' ys' : List V} (h : RLes n ρ st xs ys) (h' : RLes n ρ st xs' ys') : RLe n ρ st (.fn f xs xs') (.fn f ys ys') := fun B g w u k hu => by
  simp only [vrep] at hu ⊢
  obtain ⟨a, b, e, k1, k2⟩ := hu
  exact ⟨a, b, e, h _ _ _ _ k k1, h' _ _ _ _ k k2⟩

def TmR (n : Nat) (ρ : Ren) (st : List E) (tm : List (Nat × V)) : List (Nat × V) → Prop
  | [] => True
  | (t, v') :: r => (∃ v, lookT t tm = some v ∧ RLe n ρ st v' v) ∧ TmR n ρ st tm r
theorem tmR_look {tm : List (Nat × V)} (hs : SimS B g w st) : ∀ {r : List (Nat × V)}, TmR n ρ st tm r → ∀ {t v'}, lookT t r = some v' → ∃ v, lookT t tm = some v ∧ ∀ u, vrep B g w v u → vrep B (g.ren ρ n) w v' u
  | [], _, t, v, h => by simp [lookT] at h
  | (t', v') :: r, hs', t, v, h => by
    simp only [lookT] at h
    split at h
    · rename_i hb
      have := Nat.eq_of_beq_eq_true hb
      subst this
      cases h
      obtain ⟨⟨v0, h1, h2⟩, _⟩ := hs'
      exact ⟨v0, h1, fun u => h2 B g w u hs⟩
    · exact tmR_look hs hs'.2 h
def EntR (n : Nat) (ρ : Ren) (st : List E) : List E → Prop
  | [] => True
  | .c k off vs :: r => (Nat.blt k n = true ∧ ∃ vs', cellsAt k off st vs.length = some vs' ∧ RLes n ρ st vs vs') ∧ EntR n ρ st r
  | .r o nw k ver e sz l :: r => (Nat.blt k n = true ∧ ((ver = 0 ∧ ∃ a v, lookR k ρ = some (a, v) ∧ rowAt a st = some (o, nw, v, e, sz, l)) ∨ (lookR k ρ = none ∧ memB k (ρ.map (·.2.1)) = false ∧ rowAt k st = some (o, nw, ver, e, sz, l)))) ∧ EntR n ρ st r
  | .y k lp T tm :: r => (Nat.blt k n = true ∧ ∃ tm', loopAt k st = some (lp, T, tm') ∧ TmR n ρ st tm' tm) ∧ EntR n ρ st r
theorem entR_cell (hs : SimS B g w st) : ∀ {st0 : List E}, EntR n ρ st st0 → ∀ {i off : Nat} {v : V}, cellAt i off st0 = some v → ∃ b rcs ty u, (g.ren ρ n).bx i = some b ∧ w.heap[b]? = some (.cells rcs ty (0, 0)) ∧ rcs[off]? = some u ∧ vrep B (g.ren ρ n) w v u
  | [], _, i, off, v, h => by simp [cellAt] at h
  | .c i' o' vs :: r, he, i, off, v, h => by
    simp only [cellAt] at h
    split at h
    · rename_i hi
      have := Nat.eq_of_beq_eq_true hi
      subst this
      split at h
      · rename_i ho
        have ho := Nat.le_of_ble_eq_true ho
        split at h
        · rename_i v' hv
          cases h
          obtain ⟨⟨hm, vs', hc, hle⟩, _⟩ := he
          have hlen := (List.getElem?_eq_some_iff.1 hv).1
          have hlen2 := cellsAt_len hc
          obtain ⟨y, hy⟩ : ∃ y, vs'[off - o']? = some y := ⟨_, List.getElem?_eq_getElem (by omega)⟩
          have h1 := cellsAt_get hc hy
          rw [show o' + (off - o') = off by omega] at h1
          obtain ⟨b, rcs, ty, u, m1, m2, m3, m4⟩ := hs.cell h1
          obtain ⟨us, q1, q2⟩ := cellsAt_rep hs m1 hc
          obtain ⟨z, hz, hz2⟩ := vreps_get q1 hy
          have hzu : z = u := by
            obtain ⟨b', o2, e, _, e3⟩ := q2 _ _ hz
            cases e
            have : w.cell? ⟨b, o' + (off - o'), none⟩ = some u := by
              rw [show o' + (off - o') = off by omega, cell_of_row w b off rcs ty (0, 0) m2]; exact m3
            rw [this] at e3; cases e3; rfl
          subst hzu
          obtain ⟨z', hz', hz2'⟩ := vreps_get (hle _ _ _ _ hs q1) hv
          rw [hz] at hz'; cases hz'
          exact ⟨b, rcs, ty, z, by simp only [G.ren]; rw [if_pos (blt_lt hm)]; exact m1, m2, m3, hz2'⟩
        · exact entR_cell hs he.2 h
      · exact entR_cell hs he.2 h
    · exact entR_cell hs he.2 h
  | .r .. :: r, he, i, off, v, h => by
    simp only [cellAt] at h
    exact entR_cell hs he.2 h
  | .y .. :: r, he, i, off, v, h => by
    simp only [cellAt] at h
    exact entR_cell hs he.2 h
theorem entR_loop (hs : SimS B g w st) : ∀ {st0 : List E}, EntR n ρ st st0 → ∀ {i : Nat} {lp : Option Loop} {T : Array Value} {tm : List (Nat × V)}, loopAt i st0 = some (lp, T, tm) → (∀ r, lp = some r → ∃ b, (g.ren ρ n).bx i = some b ∧ w.heap[b]? = some (.loop r)) ∧ ∀ {t v}, lookT t tm = some v → vrep B (g.ren ρ n) w v (T.getD t undef)
  | [], _, i, lp, T, tm, h => by simp [loopAt] at h
  | .c .. :: r, he, i, lp, T, tm, h => by simp only [loopAt] at h; exact entR_loop hs he.2 h
  | .r .. :: r, he, i, lp, T, tm, h => by simp only [loopAt] at h; exact entR_loop hs he.2 h
  | .y .. :: r, he, i, lp, T, tm, h => by
    simp only [loopAt] at h
    split at h
    · rename_i hb
      have := Nat.eq_of_beq_eq_true hb
      subst this
      cases h
      obtain ⟨⟨hn, tm', hl, htm⟩, _⟩ := he
      obtain ⟨h1, h2⟩ := hs.loop hl
      refine ⟨fun r e => ?_, fun ht => ?_⟩
      · obtain ⟨b, m1, m2⟩ := h1 r e
        exact ⟨b, by simp only [G.ren]; rw [if_pos (blt_lt hn)]; exact m1, m2⟩
      · obtain ⟨v0, e1, e2⟩ := tmR_look hs htm ht
        exact e2 _ (h2 e1)
    · exact entR_loop hs he.2 h
theorem entR_row (hs : SimS B g w st) : ∀ {st0 : List E}, EntR n ρ st st0 → ∀ {k : Nat} {o nw ver e sz l}, rowAt k st0 = some (o, nw, ver, e, sz, l) → ∃ v xs, (g.ren ρ n).rw k ver = some v ∧ drepss B (g.ren ρ n).prot w l xs ∧ ((∀ x ∈ l, x.length = sz) ∧ (∀ u ∈ xs, u.oneCell' = true) ∧ ∀ i v', (g.ren ρ n).rw k i = some v' → i ≤ ver) ∧ (nw = true → ∀ b, v.ownBlock = some b → B ≤ b) ∧
    ((o = true ∧ w.ownsRow 0 e sz v l.length xs ∧ (g.ren ρ n).rb k = v.ownBlock) ∨ (o = false ∧ (g.ren ρ n).rb k = none ∧ drep B (g.ren ρ n).prot w (.sl false nw l) v))
  | [], _, k, o, nw, ver, e, sz, l, h => by simp [rowAt] at h
  | .c .. :: r, he, k, o, nw, ver, e, sz, l, h => by
    simp only [rowAt] at h
    exact entR_row hs he.2 h
  | .y .. :: r, he, k, o, nw, ver, e, sz, l, h => by
    simp only [rowAt] at h
    exact entR_row hs he.2 h
  | .r .. :: r, he, k, o, nw, ver, e, sz, l, h => by
    simp only [rowAt] at h
    split at h
    · rename_i hb
      have := Nat.eq_of_beq_eq_true hb
      subst this
      cases h
      obtain ⟨⟨hn, hk⟩, _⟩ := he
      have hn := blt_lt hn
      have hp : ∀ {x u}, drep B g.prot w x u → drep B (g.ren ρ n).prot w x u := fun hu => drep_mono (Nat.le_refl _) (fun b _ hb => ⟨ren_prot hb, rfl⟩) hu
      rcases hk with ⟨rfl, a, v, h1, h2⟩ | ⟨h1, hm, h2⟩
      · obtain ⟨x, xs, r1, r2, r3, r4, r5⟩ := hs.row h2
        refine ⟨x, xs, by simp only [G.ren, if_pos hn, h1, if_true]; exact r1, drepss_mono (Nat.le_refl _) (fun b _ hb => ⟨ren_prot hb, rfl⟩) r2, ⟨r3.1, r3.2.1, fun i v' hv => ?_⟩, r4, ?_⟩
        · simp only [G.ren, if_pos hn, h1] at hv
          split at hv
          · omega
          · cases hv
        · rcases r5 with ⟨e1, e2, e3⟩ | ⟨e1, e2, e3⟩
          · exact .inl ⟨e1, e2, by simp only [G.ren, if_pos hn, h1]; exact e3⟩
          · exact .inr ⟨e1, by simp only [G.ren, if_pos hn, h1]; exact e2, hp e3⟩
      · obtain ⟨x, xs, r1, r2, r3, r4, r5⟩ := hs.row h2
        refine ⟨x, xs, by simp only [G.ren, if_pos hn, h1]; exact r1, drepss_mono (Nat.le_refl _) (fun b _ hb => ⟨ren_prot hb, rfl⟩) r2, ⟨r3.1, r3.2.1, fun i v' hv => ?_⟩, r4, ?_⟩
        · simp only [G.ren, if_pos hn, h1] at hv
          exact r3.2.2 i v' hv
        · rcases r5 with ⟨e1, e2, e3⟩ | ⟨e1, e2, e3⟩
          · exact .inl ⟨e1, e2, by simp only [G.ren, if_pos hn, h1, hm]; exact e3⟩
          · exact .inr ⟨e1, by simp only [G.ren, if_pos hn, h1, hm]; exact e2, hp e3⟩
    · exact entR_row hs he.2 h
/-- deferred calls that lead to variables alone -/
def DfR (n : Nat) (ρ : Ren) (st : List E) : List (FuncId × List V) → Prop
  | [] => True
  | (_, vs) :: r => RLes n ρ st vs vs ∧ DfR n ρ st r
theorem dfR_l (hs : SimS B g w st) : ∀ {df : List (FuncId × List V)}, DfR n ρ st df → ∀ {ds : List Deferred}, DfL B g w df ds → DfL B (g.ren ρ n) w df ds
  | [], _, _, h => h
  | (_, _) :: _, hd, _, ⟨us, r, e, h1, h2⟩ => ⟨us, r, e, hd.1 _ _ _ _ hs h1, dfR_l hs hd.2 h2⟩
theorem sub_ren {cx : Cx} {tm tm' : List (Nat × V)} {st' : List E} {nb' : Nat} (ρ : Ren) (h1 : TmR nb' ρ st tm tm') (h2 : EntR nb' ρ st st') (hd : DfR nb' ρ st cx.df) (hρ : renOk cx.m ρ = true) (h3 : Nat.ble cx.m nb' = true) : Sub cx ⟨tm, st, nb⟩ ⟨tm', st', nb'⟩ := fun g0 w0 g a w hE hS => by
  have hm := Nat.le_of_ble_eq_true h3
  obtain ⟨hi, hk⟩ := renOk_spec hρ
  have hno : ∀ {k}, k < cx.m → lookR k ρ = none := fun {k} hlt => by
    cases hq : lookR k ρ with
    | none => rfl
    | some p => have := (hk hq).1; omega
  refine ⟨g.ren ρ nb', ⟨hE.os, hE.tape, hE.output, hE.size, fun hk e => ?_, fun hk e => ?_, fun b hb hp => ⟨ren_prot (hE.blk b hb hp).1, (hE.blk b hb hp).2⟩, hE.ex, hE.exblk, hE.pl, hE.blur⟩,
    ⟨hS.size, fun hx => ?_, ⟨fun hc => entR_cell hS.st h2 hc, fun hr => entR_row hS.st h2 hr, fun hl => entR_loop hS.st h2 hl⟩, ren_inv hS.inv hρ, ?_⟩⟩
  · simp only [G.ren]; rw [if_pos (by omega)]; exact hE.bx hk e
  · simp only [G.ren]; rw [if_pos (by omega), hno hk]; exact hE.rw hk e
  · obtain ⟨v, e1, e2⟩ := tmR_look hS.st h1 hx
    exact e2 _ (hS.tm e1)
  · obtain ⟨hm0, bs, r, e, hn, hb, hr⟩ := hS.defers
    exact ⟨hm0, bs, r, e, hn, fun b hb' => ⟨ren_prot (hb b hb').1, (hb b hb').2⟩, dfR_l hS.st hd hr⟩
end


section
variable {P : Program} {cx : Cx} {s : St} {Q : VE → St → Prop}
theorem vw_sub {c : Code} {s' : St} (h : Sub cx s s') (k : VW P cx c s' Q) : VW P cx c s Q := fun n g0 w0 g a w hE hS =>
  let ⟨g', h1, h2⟩ := h g0 w0 g a w hE hS; k n g0 w0 g' a w h1 h2
theorem vl_sub {ops rest : List Oper} {s' : St} (h : Sub cx s s') (k : VL P cx ops rest s' Q) : VL P cx ops rest s Q := fun n g0 w0 g a w hE hS =>
  let ⟨g', h1, h2⟩ := h g0 w0 g a w hE hS; k n g0 w0 g' a w h1 h2

theorem least {p : Nat → Prop} : ∀ n, p n → ∃ m, p m ∧ ∀ k, p k → m ≤ k := by
  intro n
  induction n using Nat.strongRecOn with
  | _ n ih =>
    intro hn
    by_cases h : ∃ k, k < n ∧ p k
    · obtain ⟨k, hk, hp⟩ := h
      exact ih k hk hp
    · exact ⟨n, hn, fun k hk => Nat.le_of_not_lt fun hlt => h ⟨k, hlt, hk⟩⟩
/-- what a round owes -/
def loopV {α : Type} (cx : Cx) (I : α → St) (T : α → Prop) (μ : α → Nat) (x : α) (Q : VE → St → Prop) : VE → St → Prop
  | .normal, s => ∃ y, T y ∧ μ y < μ x ∧ Sub cx s (I y)
  | e, s => Q e s
theorem vw_loop {α : Type} (I : α → St) (T : α → Prop) (μ : α → Nat) {c : Code} (x0 : α) (h0 : Sub cx s (I x0)) (hT : T x0) (step : ∀ x, T x → VW P cx c (I x) (loopV cx I T μ x Q)) : VW P cx (.loop c) s Q := fun n g0 w0 g a w hE hS => by
  classical
  let ok : Nat → Act → World → Prop := fun j a w => ∃ x g, T x ∧ μ x = j ∧ Ext cx.sp cx.m g0 w0 g w ∧ Sim cx g a w (I x)
  have hleast : ∀ a w, (∃ j, ok j a w) → ∃ m, ok m a w ∧ ∀ k, ok k a w → m ≤ k := fun a w ⟨j, hj⟩ => least j hj
  let m : Act → World → Nat := fun a w => if h : ∃ j, ok j a w then Classical.choose (hleast a w h) else 0
  have hms : ∀ a w, (∃ j, ok j a w) → ok (m a w) a w ∧ ∀ k, ok k a w → m a w ≤ k := fun a w h => by
    have : m a w = Classical.choose (hleast a w h) := dif_pos h
    rw [this]; exact Classical.choose_spec (hleast a w h)
  refine wpIn_loop (fun a w => ∃ j, ok j a w) m ?_ ?_
  · obtain ⟨g', h1, h2⟩ := h0 g0 w0 g a w hE hS
    exact ⟨_, x0, g', hT, rfl, h1, h2⟩
  · intro a w h
    obtain ⟨⟨x, g1, hx, hj, hE1, hS1⟩, _⟩ := hms a w h
    refine wpIn_mono (step x hx n g0 w0 g1 a w hE1 hS1) ?_
    rintro e a' w' ⟨g', s', e', k1, k2, k3, k4⟩
    cases e' with
    | normal =>
      simp only [erel] at k3; subst k3
      obtain ⟨y, hy, hlt, hs⟩ := k4
      obtain ⟨g2, q1, q2⟩ := hs g0 w0 g' a' w' k1 k2
      have h' : ∃ j, ok j a' w' := ⟨_, y, g2, hy, rfl, q1, q2⟩
      refine ⟨h', ?_⟩
      have := (hms a' w' h').2 _ ⟨y, g2, hy, rfl, q1, q2⟩
      omega
    | exit id => simp only [erel] at k3; subst k3; exact ⟨g', s', .exit id, k1, k2, rfl, k4⟩
    | goto id => simp only [erel] at k3; subst k3; exact ⟨g', s', .goto id, k1, k2, rfl, k4⟩
    | ret => simp only [erel] at k3; subst k3; exact ⟨g', s', .ret, k1, k2, rfl, k4⟩
    | panic v => obtain ⟨u, rfl, k⟩ := k3; exact ⟨g', s', .panic v, k1, k2, ⟨u, rfl, k⟩, k4⟩

/-- a piece of code, and what it comes to -/
def cutV {α : Type} (cx : Cx) (I : α → St) (T : α → Prop) (Q : VE → St → Prop) : VE → St → Prop
  | .normal, s => ∃ y, T y ∧ Sub cx s (I y)
  | e, s => Q e s
theorem vw_cut {α : Type} (I : α → St) (T : α → Prop) {x y : Code} (h : VW P cx x s (cutV cx I T Q)) (k : ∀ z, T z → VW P cx y (I z) Q) : VW P cx (.seq x y) s Q := by
  refine vw_seq (h.mono fun e s' hq => ?_)
  cases e with
  | normal => obtain ⟨z, h1, h2⟩ := hq; exact vw_sub h2 (k z h1)
  | exit id => exact hq
  | goto id => exact hq
  | ret => exact hq
  | panic v => exact hq
theorem nx_loop {α : Type} {I : α → St} {T : α → Prop} {μ : α → Nat} {x : α} (y : α) (h1 : T y) (h2 : μ y < μ x) (h3 : Sub cx s (I y)) : loopV cx I T μ x Q .normal s := ⟨y, h1, h2, h3⟩
theorem nx_loopx {α : Type} {I : α → St} {T : α → Prop} {μ : α → Nat} {x : α} {i : Nat} (h : Q (.exit i) s) : loopV cx I T μ x Q (.exit i) s := h
theorem nx_loopr {α : Type} {I : α → St} {T : α → Prop} {μ : α → Nat} {x : α} (h : Q .ret s) : loopV cx I T μ x Q .ret s := h
theorem nx_loopp {α : Type} {I : α → St} {T : α → Prop} {μ : α → Nat} {x : α} {v : V} (h : Q (.panic v) s) : loopV cx I T μ x Q (.panic v) s := h
theorem nx_cut {α : Type} {I : α → St} {T : α → Prop} (y : α) (h1 : T y) (h3 : Sub cx s (I y)) : cutV cx I T Q .normal s := ⟨y, h1, h3⟩
theorem nx_cutx {α : Type} {I : α → St} {T : α → Prop} {i : Nat} (h : Q (.exit i) s) : cutV cx I T Q (.exit i) s := h
theorem nx_cutr {α : Type} {I : α → St} {T : α → Prop} (h : Q .ret s) : cutV cx I T Q .ret s := h
theorem nx_cutp {α : Type} {I : α → St} {T : α → Prop} {v : V} (h : Q (.panic v) s) : cutV cx I T Q (.panic v) s := h
end

end Go.Proofs.Ytjfaihpiohccbaa
