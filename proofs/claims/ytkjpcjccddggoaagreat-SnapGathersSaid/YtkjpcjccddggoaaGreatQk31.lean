/- Walks by data and names, part 31: Runs: the plain law. A tile is read by its maximal runs just if the tile's own bytes stand there. runs.Size.  -/
import Derived.Test.YtkjpcjccddggoaaGreatQk30
import Derived.Test.YtkjpcjccddggoaaGreatQk1
import Derived.Test.YtkjpcjccddggoaaGreatQk3
namespace Go.Proofs.YtkjpcjccddggoaaGreat
set_option maxRecDepth 20000
def expand (rs : List (Nat × Col)) : List Col := rs.flatMap fun x => List.replicate x.1 x.2
/-- the runs that bytes begin with, behind so many pixels -/
def parse (n : Nat) (l : List UInt8) : Option (List (Nat × Col)) :=
  if n = 64 then some [] else
  match l with
  | m :: r :: g :: b :: a :: rest => if 0 < m.toNat ∧ n + m.toNat ≤ 64 then (parse (n + m.toNat) rest).map ((m.toNat, ⟨r, g, b, a⟩) :: ·) else none
  | _ => none
/-- the tile of them, so too if a run is not all of its own -/
def readR (T : List Col) (l : List UInt8) : Option (List Col × Nat) :=
  if T.length = 64 then some (T, 0) else
  match l with
  | m :: r :: g :: b :: a :: rest => if 0 < m.toNat ∧ T.length + m.toNat ≤ 64 then (readR (T ++ List.replicate m.toNat ⟨r, g, b, a⟩) rest).map fun p => (p.1, p.2 + 5) else none
  | _ => none
def chain : Option Col → List (Nat × Col) → Bool
  | _, [] => true
  | o, x :: rs => decide (o ≠ some x.2) && chain (some x.2) rs
theorem readR_parse (T : List Col) (l : List UInt8) : readR T l = (parse T.length l).map fun rs => (T ++ expand rs, 5 * rs.length) := by
  by_cases h : T.length = 64
  · unfold readR parse; rw [if_pos h, if_pos h]; simp [expand]
  · match l with
    | m :: r :: g :: b :: a :: rest =>
      rw [readR, parse, if_neg h, if_neg h]
      split
      · have ih := readR_parse (T ++ List.replicate m.toNat ⟨r, g, b, a⟩) rest
        rw [ih, List.length_append, List.length_replicate, Option.map_map, Option.map_map]
        congr 1
        funext rs
        simp [Function.comp, expand, Nat.mul_add]
      · rfl
    | [] => unfold readR parse; simp [h]
    | [_] => unfold readR parse; simp [h]
    | [_, _] => unfold readR parse; simp [h]
    | [_, _, _] => unfold readR parse; simp [h]
    | [_, _, _, _] => unfold readR parse; simp [h]
termination_by l.length
theorem readT_parse (T : List Col) (l : List UInt8) : readT T l = (parse T.length l).bind fun rs => if chain T.getLast? rs then some (T ++ expand rs, 5 * rs.length) else none := by
  by_cases h : T.length = 64
  · unfold readT parse; rw [if_pos h, if_pos h]; simp [expand, chain]
  · match l with
    | m :: r :: g :: b :: a :: rest =>
      rw [readT, parse, if_neg h, if_neg h]
      by_cases hm : 0 < m.toNat ∧ T.length + m.toNat ≤ 64
      · rw [if_pos hm]
        have hl : (T ++ List.replicate m.toNat (⟨r, g, b, a⟩ : Col)).getLast? = some ⟨r, g, b, a⟩ := by
          obtain ⟨k, hk⟩ : ∃ k, m.toNat = k + 1 := ⟨m.toNat - 1, by omega⟩
          rw [hk, List.replicate_succ', ← List.append_assoc, List.getLast?_concat]
        by_cases hc : T.getLast? = some ⟨r, g, b, a⟩
        · rw [if_neg (fun h => h.2.2 hc)]
          cases parse (T.length + m.toNat) rest with
          | none => rfl
          | some rs => simp [chain, hc]
        · rw [if_pos ⟨hm.1, hm.2, hc⟩]
          have ih := readT_parse (T ++ List.replicate m.toNat ⟨r, g, b, a⟩) rest
          rw [ih, List.length_append, List.length_replicate, hl]
          cases parse (T.length + m.toNat) rest with
          | none => rfl
          | some rs =>
            simp only [Option.bind_some, Option.map_some, chain, hc, ne_eq, not_false_eq_true, decide_true, Bool.true_and]
            split
            · simp [expand, Nat.mul_add]
            · rfl
      · rw [if_neg hm, if_neg (fun h => hm ⟨h.1, h.2.1⟩)]; rfl
    | [] => unfold readT parse; simp [h]
    | [_] => unfold readT parse; simp [h]
    | [_, _] => unfold readT parse; simp [h]
    | [_, _, _] => unfold readT parse; simp [h]
    | [_, _, _, _] => unfold readT parse; simp [h]
termination_by l.length
theorem parse_facts (n : Nat) (l : List UInt8) (rs : List (Nat × Col)) (hp : parse n l = some rs) : (∀ x ∈ rs, 0 < x.1 ∧ x.1 < 256) ∧ encR rs <+: l := by
  by_cases h : n = 64
  · unfold parse at hp; rw [if_pos h] at hp; cases hp; simp [encR]
  · match l, hp with
    | m :: r :: g :: b :: a :: rest, hp =>
      rw [parse, if_neg h] at hp
      split at hp
      · rename_i hm
        obtain ⟨rs', hp', he⟩ := Option.map_eq_some_iff.1 hp
        subst he
        obtain ⟨h1, h2⟩ := parse_facts _ rest rs' hp'
        refine ⟨?_, ?_⟩
        · intro x hx
          rcases List.mem_cons.1 hx with rfl | hx
          · exact ⟨hm.1, by have := m.toNat_lt; simpa using this⟩
          · exact h1 x hx
        · obtain ⟨t, ht⟩ := h2
          exact ⟨t, by rw [← ht]; simp [encR, rleB]⟩
      · cases hp
    | [], hp => unfold parse at hp; simp [h] at hp
    | [_], hp => unfold parse at hp; simp [h] at hp
    | [_, _], hp => unfold parse at hp; simp [h] at hp
    | [_, _, _], hp => unfold parse at hp; simp [h] at hp
    | [_, _, _, _], hp => unfold parse at hp; simp [h] at hp
termination_by l.length
theorem rleGo_rep (m n : Nat) (c : Col) (ds : List Col) : rleGo n c (List.replicate m c ++ ds) = rleGo (n + m) c ds := by
  induction m generalizing n with
  | zero => rfl
  | succ m ih => rw [List.replicate_succ, List.cons_append, rleGo, if_pos rfl, ih]; congr 1; omega
theorem rleGo_expand (rs : List (Nat × Col)) : ∀ (n : Nat) (c : Col), chain (some c) rs = true → (∀ x ∈ rs, 0 < x.1 ∧ x.1 < 256) → rleGo n c (expand rs) = (n, c) :: rs := by
  induction rs with
  | nil => intro n c _ _; rfl
  | cons x rs ih =>
    intro n c hc hp
    obtain ⟨m, d⟩ := x
    simp only [chain, Bool.and_eq_true, decide_eq_true_eq] at hc
    have hm := (hp (m, d) (by simp)).1
    obtain ⟨k, hk⟩ : ∃ k, m = k + 1 := ⟨m - 1, by simp at hm; omega⟩
    have hne : ¬ d = c := fun e => hc.1 (by rw [e])
    subst hk
    show rleGo n c (List.replicate (k + 1) d ++ expand rs) = _
    rw [List.replicate_succ, List.cons_append, rleGo, if_neg hne, rleGo_rep, ih _ _ hc.2 (fun x hx => hp x (by simp [hx]))]
    congr 2
    congr 1
    omega
theorem rle_expand (rs : List (Nat × Col)) (hc : chain none rs = true) (hp : ∀ x ∈ rs, 0 < x.1 ∧ x.1 < 256) : rle (expand rs) = rs := by
  cases rs with
  | nil => rfl
  | cons x rs =>
    obtain ⟨m, d⟩ := x
    simp only [chain, Bool.and_eq_true, decide_eq_true_eq] at hc
    have hm := (hp (m, d) (by simp)).1
    obtain ⟨k, hk⟩ : ∃ k, m = k + 1 := ⟨m - 1, by simp at hm; omega⟩
    subst hk
    show rle (List.replicate (k + 1) d ++ expand rs) = _
    rw [List.replicate_succ, List.cons_append, rle, rleGo_rep, rleGo_expand _ _ _ hc.2 (fun x hx => hp x (by simp [hx]))]
    congr 2
    omega
theorem rleGo_chain (ds : List Col) : ∀ (n : Nat) (c : Col) (o : Option Col), o ≠ some c → 0 < n → n + ds.length < 256 → chain o (rleGo n c ds) = true ∧ ∀ x ∈ rleGo n c ds, 0 < x.1 ∧ x.1 < 256 := by
  induction ds with
  | nil => intro n c o ho hn hl; simp [rleGo, chain, ho, hn]; simpa using hl
  | cons d ds ih =>
    intro n c o ho hn hl
    simp at hl
    unfold rleGo
    split
    · exact ih (n + 1) c o ho (by omega) (by omega)
    · rename_i hne
      obtain ⟨h1, h2⟩ := ih 1 d (some c) (by simpa using fun e => hne e.symm) (by omega) (by omega)
      refine ⟨by simp [chain, ho, h1], fun x hx => ?_⟩
      rcases List.mem_cons.1 hx with rfl | hx
      · exact ⟨hn, by simp; omega⟩
      · exact h2 x hx
theorem rle_chain (T : List Col) (h : T.length < 256) : chain none (rle T) = true ∧ ∀ x ∈ rle T, 0 < x.1 ∧ x.1 < 256 := by
  cases T with
  | nil => simp [rle, chain]
  | cons c cs => exact rleGo_chain cs 1 c none (by simp) (by omega) (by simpa [Nat.add_comm] using h)
theorem encR_inj : ∀ (rs rs' : List (Nat × Col)), (∀ x ∈ rs, 0 < x.1 ∧ x.1 < 256) → (∀ x ∈ rs', 0 < x.1 ∧ x.1 < 256) → encR rs = encR rs' → rs = rs'
  | [], [], _, _, _ => rfl
  | [], x :: rs', _, _, h => by simp [encR, rleB] at h
  | x :: rs, [], _, _, h => by simp [encR, rleB] at h
  | (n, ⟨r, g, b, a⟩) :: rs, (n', ⟨r', g', b', a'⟩) :: rs', h1, h2, h => by
    have e : rleB (n, ⟨r, g, b, a⟩) ++ encR rs = rleB (n', ⟨r', g', b', a'⟩) ++ encR rs' := h
    simp only [rleB, List.cons_append, List.nil_append, List.cons.injEq] at e
    obtain ⟨e1, rfl, rfl, rfl, rfl, e2⟩ := e
    have ih := encR_inj rs rs' (fun x hx => h1 x (by simp [hx])) (fun x hx => h2 x (by simp [hx])) e2
    have b1 := (h1 (n, ⟨r, g, b, a⟩) (by simp)).2
    have b2 := (h2 (n', ⟨r, g, b, a⟩) (by simp)).2
    have e3 := congrArg UInt8.toNat e1
    simp at e3 b1 b2
    rw [Nat.mod_eq_of_lt b1, Nat.mod_eq_of_lt b2] at e3
    rw [ih, e3]
theorem readR_len (T : List Col) (l : List UInt8) (T' : List Col) (k : Nat) (hr : readR T l = some (T', k)) : T'.length = 64 := by
  by_cases h : T.length = 64
  · unfold readR at hr; rw [if_pos h] at hr; cases hr; exact h
  · match l, hr with
    | m :: r :: g :: b :: a :: rest, hr =>
      rw [readR, if_neg h] at hr
      split at hr
      · obtain ⟨p, hp, he⟩ := Option.map_eq_some_iff.1 hr
        cases he
        exact readR_len _ rest p.1 p.2 hp
      · cases hr
    | [], hr => unfold readR at hr; simp [h] at hr
    | [_], hr => unfold readR at hr; simp [h] at hr
    | [_, _], hr => unfold readR at hr; simp [h] at hr
    | [_, _, _], hr => unfold readR at hr; simp [h] at hr
    | [_, _, _, _], hr => unfold readR at hr; simp [h] at hr
termination_by l.length
/-- THE PLAIN LAW of a tile that is read: by its bytes, or by its runs, it is the same. -/
theorem read_ref (l : List UInt8) : readTile l = (readR [] l).bind fun p => if (enc p.1).length = p.2 ∧ enc p.1 <+: l then some p else none := by
  unfold readTile
  have hlen := readR_len [] l
  rw [readR_parse] at hlen ⊢
  rw [readT_parse]
  cases hp : parse ([] : List Col).length l with
  | none => rfl
  | some rs =>
    obtain ⟨h1, h2⟩ := parse_facts _ _ _ hp
    rw [hp] at hlen
    have h64 : (expand rs).length = 64 := by simpa using hlen ([] ++ expand rs) (5 * rs.length) rfl
    simp only [Option.bind_some, Option.map_some, List.nil_append]
    by_cases hc : chain ([] : List Col).getLast? rs = true
    · rw [if_pos hc, if_pos]
      unfold enc
      rw [rle_expand rs (show chain none rs = true from hc) h1]
      exact ⟨rleB_len rs, h2⟩
    · rw [if_neg hc, if_neg]
      rintro ⟨e1, e2⟩
      obtain ⟨c1, c2⟩ := rle_chain (expand rs) (by omega)
      have e : encR (rle (expand rs)) = encR rs := by
        have t1 := List.prefix_iff_eq_take.1 e2
        have t2 := List.prefix_iff_eq_take.1 h2
        rw [rleB_len] at t2
        rw [e1] at t1
        exact t1.trans t2.symm
      rw [encR_inj _ _ c2 h1 e] at c1
      exact hc c1
end Go.Proofs.YtkjpcjccddggoaaGreat

namespace Go.Proofs.YtkjpcjccddggoaaGreat
set_option maxRecDepth 20000
open Go.RowKit
/-! ### the number of runs -/
theorem rleGo_count (ds : List Col) : ∀ (n : Nat) (c : Col), (rleGo n c ds).length = 1 + chg c ds := by
  induction ds with
  | nil => intro n c; rfl
  | cons d ds ih =>
    intro n c
    unfold rleGo chg
    by_cases h : d = c
    · subst h; rw [if_pos rfl, ih]; simp
    · rw [if_neg h, List.length_cons, ih]; simp [h]; omega
theorem chg_self (c : Col) (ds : List Col) : chg c (c :: ds) = chg c ds := by simp [chg]
theorem runs_count (T : List Col) (h : T ≠ []) : runsOf T = (rle T).length := by
  cases T with
  | nil => exact absurd rfl h
  | cons c cs => unfold runsOf; rw [show (c :: cs).head! = c from rfl, chg_self]; exact (rleGo_count cs 1 c).symm
theorem enc_len (T : List Col) (hT : T.length = 64) : (enc T).length = 5 * runsOf T := by
  unfold enc
  rw [rleB_len, runs_count T (by rintro rfl; simp at hT)]
theorem runsOf_le (T : List Col) (hT : T.length = 64) : runsOf T ≤ 65 := by unfold runsOf; have := chg_le T.head! T; omega
end Go.Proofs.YtkjpcjccddggoaaGreat

namespace Go.Proofs.YtkjpcjccddggoaaGreat
set_option maxRecDepth 20000
open Go.RowKit
set_option maxHeartbeats 400000 in
theorem may_any (x y : Int) (w : World) :
    Calls Tryz.prog 97 #[.agg #[.int .i64 x, .int .i64 y]] w fun e w' => e = .returned (.bool (decide (1 ≤ x ∧ x ≤ 4 ∧ 1 ≤ y ∧ y ≤ 4))) ∧ Below w.heap.size w w' := by
  by_cases h1 : 1 ≤ x <;> by_cases h2 : x ≤ 4 <;> by_cases h3 : 1 ≤ y <;> by_cases h4 : y ≤ 4
  all_goals first
    | (exfalso; omega)
    | (go_enter Tryz.func97, Tryz.ntmps97
       go_wp2
       go_ret
       refine ⟨by simp [*], (Below.refl _ _).alloc (Nat.le_refl _) _⟩)
/-- a canvas as a value: its sizes, and the slice of its tiles -/
abbrev canV (x y : Int) (s : Value) : Value := .agg #[.int .i64 x, .int .i64 y, s]
/-- may there be a canvas of these sizes, and so many tiles? -/
def canOk (x y : Int) (n : Nat) : Bool := decide (1 ≤ x ∧ x ≤ 4 ∧ 1 ≤ y ∧ y ≤ 4 ∧ (n : Int) = x * y)
theorem mul_le (x y : Int) (h1 : 1 ≤ x) (h2 : x ≤ 4) (h3 : 1 ≤ y) (h4 : y ≤ 4) : 1 ≤ x * y ∧ x * y ≤ 16 := by
  have e1 : x = 1 ∨ x = 2 ∨ x = 3 ∨ x = 4 := by omega
  rcases e1 with rfl | rfl | rfl | rfl <;> omega
set_option maxHeartbeats 400000 in
theorem check_no1 (x y : Int) (a : Option Addr) (n c : Nat) (w : World) (h : ¬ (1 ≤ x ∧ x ≤ 4 ∧ 1 ≤ y ∧ y ≤ 4)) :
    Calls Tryz.prog 62 #[canV x y (.slice a n c)] w fun e w' => e = .returned (.int .i64 150) ∧ Below w.heap.size w w' := by
  have H : decide (1 ≤ x ∧ x ≤ 4 ∧ 1 ≤ y ∧ y ≤ 4) = false := by simpa using h
  clear h
  go_enter Tryz.func62, Tryz.ntmps62
  go_wp2_with (go_at_call 97; refine (may_any _ _ _).mono ?_; rintro e w' ⟨rfl, hb⟩)
  go_ret
  refine ⟨rfl, ?_⟩
  repeat (first | assumption | exact Below.refl _ _ | refine below_dN ?_ _ | refine Below.alloc ?_ (by first | exact Nat.le_refl _ | omega | (simp; fail_if_success (focus skip)) | (simp; omega)) _ | refine Below.setCell ?_ (by first | exact Nat.le_refl _ | omega | (simp; fail_if_success (focus skip)) | (simp; omega)) _ | refine Below.drew ?_ | refine Below.trans ?_ (Below.mono (by assumption) (by first | exact Nat.le_refl _ | omega | (simp; fail_if_success (focus skip)) | (simp; omega))))
set_option maxHeartbeats 400000 in
theorem check_no2 (x y : Int) (a : Option Addr) (n c : Nat) (w : World) (h1 : 1 ≤ x) (h2 : x ≤ 4) (h3 : 1 ≤ y) (h4 : y ≤ 4) (h : ¬ (n : Int) = x * y) :
    Calls Tryz.prog 62 #[canV x y (.slice a n c)] w fun e w' => e = .returned (.int .i64 150) ∧ Below w.heap.size w w' := by
  have H : decide (1 ≤ x ∧ x ≤ 4 ∧ 1 ≤ y ∧ y ≤ 4) = true := by simpa using ⟨h1, h2, h3, h4⟩
  have hm := mul_le x y h1 h2 h3 h4
  have hw : IntKind.i64.wrap (x * y) = x * y := IntWalk.i64_in _ (by omega)
  have h' : ((n : Int) != x * y) = true := by simpa using h
  go_enter Tryz.func62, Tryz.ntmps62
  go_wp2_with (go_at_call 97; refine (may_any _ _ _).mono ?_; rintro e w' ⟨rfl, hb⟩; obtain ⟨hc, hf⟩ := bcell hb)
  go_ret
  refine ⟨rfl, ?_⟩
  repeat (first | assumption | exact Below.refl _ _ | refine below_dN ?_ _ | refine Below.alloc ?_ (by first | exact Nat.le_refl _ | omega | (simp; fail_if_success (focus skip)) | (simp; omega)) _ | refine Below.setCell ?_ (by first | exact Nat.le_refl _ | omega | (simp; fail_if_success (focus skip)) | (simp; omega)) _ | refine Below.drew ?_ | refine Below.trans ?_ (Below.mono (by assumption) (by first | exact Nat.le_refl _ | omega | (simp; fail_if_success (focus skip)) | (simp; omega))))
set_option maxHeartbeats 400000 in
theorem check_yes (x y : Int) (a : Option Addr) (n c : Nat) (w : World) (h1 : 1 ≤ x) (h2 : x ≤ 4) (h3 : 1 ≤ y) (h4 : y ≤ 4) (h : (n : Int) = x * y) :
    Calls Tryz.prog 62 #[canV x y (.slice a n c)] w fun e w' => e = .returned (.int .i64 0) ∧ Below w.heap.size w w' := by
  have H : decide (1 ≤ x ∧ x ≤ 4 ∧ 1 ≤ y ∧ y ≤ 4) = true := by simpa using ⟨h1, h2, h3, h4⟩
  have hm := mul_le x y h1 h2 h3 h4
  have hw : IntKind.i64.wrap (x * y) = x * y := IntWalk.i64_in _ (by omega)
  have h' : ((n : Int) != x * y) = false := by simpa using h
  clear h
  go_enter Tryz.func62, Tryz.ntmps62
  go_wp2_with (go_at_call 97; refine (may_any _ _ _).mono ?_; rintro e w' ⟨rfl, hb⟩; obtain ⟨hc, hf⟩ := bcell hb)
  go_ret
  refine ⟨rfl, ?_⟩
  repeat (first | assumption | exact Below.refl _ _ | refine below_dN ?_ _ | refine Below.alloc ?_ (by first | exact Nat.le_refl _ | omega | (simp; fail_if_success (focus skip)) | (simp; omega)) _ | refine Below.setCell ?_ (by first | exact Nat.le_refl _ | omega | (simp; fail_if_success (focus skip)) | (simp; omega)) _ | refine Below.drew ?_ | refine Below.trans ?_ (Below.mono (by assumption) (by first | exact Nat.le_refl _ | omega | (simp; fail_if_success (focus skip)) | (simp; omega))))
end Go.Proofs.YtkjpcjccddggoaaGreat

namespace Go.Proofs.YtkjpcjccddggoaaGreat
set_option maxRecDepth 20000
open Go.RowKit
/-- what a tile comes to, if another one is the zero of its place -/
def stepB (T Z : List Col) : List UInt8 := if T = Z then [0] else enc T
def bodyB (Z : Nat → List Col) : Nat → List (List Col) → List UInt8
  | _, [] => []
  | k, T :: L => stepB T (Z k) ++ bodyB Z (k + 1) L
theorem bodyB_snoc (Z : Nat → List Col) (L : List (List Col)) (T : List Col) : ∀ k, bodyB Z k (L ++ [T]) = bodyB Z k L ++ stepB T (Z (k + L.length)) := by
  induction L with
  | nil => intro k; simp [bodyB]
  | cons U L ih => intro k; rw [List.cons_append, bodyB, bodyB, ih, List.append_assoc, show k + 1 + L.length = k + (U :: L).length from by simp; omega]
theorem stepB_len (T Z : List Col) (hT : T.length = 64) : (stepB T Z).length ≤ 325 := by
  unfold stepB
  split
  · simp
  · rw [enc_len T hT]; have := runsOf_le T hT; omega
theorem bodyB_len (Z : Nat → List Col) (L : List (List Col)) (h : All64 L) : ∀ k, (bodyB Z k L).length ≤ 325 * L.length := by
  induction L with
  | nil => intro k; simp [bodyB]
  | cons T L ih =>
    intro k
    have := ih (fun U hU => h U (by simp [hU])) (k + 1)
    have := stepB_len T (Z k) (h T (by simp))
    rw [bodyB, List.length_append]; simp; omega
/-- a closure that tells the zero of each place -/
structure ZeroFn (w0 : World) (z : Value) (Z : Nat → List Col) (n : Nat) (f : FuncId) (cv : Value) : Prop where
  val : z = .func (.func f) #[] #[cv]
  enters : ∀ (i : Value) (w : World), (callFunc f #[i, cv]).run Tryz.prog w = .ok (.enter f #[i, cv]) w
  len : ∀ i, i < n → (Z i).length = 64
  tells : ∀ w, Below w0.heap.size w0 w → ∀ i, i < n → Calls Tryz.prog f #[.int .i64 i, cv] w fun e w' => e = .returned (tileV (Z i)) ∧ Below w.heap.size w w'
set_option maxRecDepth 100000 in
set_option maxHeartbeats 2000000 in
theorem bytes1_any (w0 w : World) (base pz i n : Nat) (z bv : Value) (f : FuncId) (cv : Value) (Z : Nat → List Col) (T : List Col) (bs : List UInt8) (hw : Below base w0 w) (h0 : w0.heap.size ≤ base) (hbs : base ≤ w.heap.size) (hT : T.length = 64)
    (hpz : Blk w0 pz #[z] 161) (hz : ZeroFn w0 z Z n f cv) (hi : i < n) (ho : OwnB base w bv bs) (hlen : bs.length ≤ 1000000) :
    Calls Tryz.prog 137 #[bv, .int .i64 i, tileV T, .pointer (some ⟨pz, 0, none⟩)] w fun e w' => ∃ v', e = .returned v' ∧ OwnB base w' v' (bs ++ stepB T (Z i)) ∧ Below base w w' := by
  obtain ⟨hzv, hen, hzl, htl⟩ := hz
  subst hzv
  have hlt := hpz.lt
  have hp := (hpz.below hw (by omega)).alloc (.cells (tcells T) 109)
  have hnew := Blk.new w (tcells T) 109
  have hB1 : Below base w (w.alloc (.cells (tcells T) 109)) := by repeat (first | assumption | exact Below.refl _ _ | refine below_dN ?_ _ | refine Below.alloc ?_ (by first | exact Nat.le_refl _ | omega | (simp; fail_if_success (focus skip)) | (simp; omega)) _ | refine Below.setCell ?_ (by first | exact Nat.le_refl _ | omega | (simp; fail_if_success (focus skip)) | (simp; omega)) _ | refine Below.drew ?_ | refine Below.trans ?_ (Below.mono (by assumption) (by first | exact Nat.le_refl _ | omega | (simp; fail_if_success (focus skip)) | (simp; omega))))
  have hs1 : w.heap.size + 1 = (w.alloc (.cells (tcells T) 109)).heap.size := by simp
  have ho1 := ownsRow_below ho (B := w.heap.size) ((Below.refl _ w).alloc (Nat.le_refl _) (.cells (tcells T) 109)) (Nat.le_refl _)
  obtain ⟨ad, cc, rfl, hc1, hc2⟩ := ownsRow_slice ho
  unfold tileV
  go_enter Tryz.func137, Tryz.ntmps137
  go_wp2
  obtain ⟨W1, hW1⟩ : ∃ W1, w.alloc (.cells (tcells T) 109) = W1 := ⟨_, rfl⟩
  rw [hW1] at hp hnew hB1 hs1 ho1 ⊢
  clear hW1
  have hpc := hp.cell 0
  simp only [List.getElem?_toArray, List.getElem?_cons_zero] at hpc
  refine wp_region_cuts [.q [_, _, _], .e _] [_] rfl (fun w'' => Below W1.heap.size W1 w'') (by kernel_rfl) (by kernel_rfl) (fun _ _ d _ _ h => by cases d <;> exact h) ?_
  refine cut_q (by (repeat (first | assumption | exact Below.refl _ _ | refine below_dN ?_ _ | refine Below.alloc ?_ (by first | exact Nat.le_refl _ | omega | (simp; fail_if_success (focus skip)) | (simp; omega)) _ | refine Below.setCell ?_ (by first | exact Nat.le_refl _ | omega | (simp; fail_if_success (focus skip)) | (simp; omega)) _ | refine Below.drew ?_ | refine Below.trans ?_ (Below.mono (by assumption) (by first | exact Nat.le_refl _ | omega | (simp; fail_if_success (focus skip)) | (simp; omega)))))) ?_
  repeat (first | go_big_quiet_step ((intros; rfl)) | quiet_step ((intros; rfl)) | (refine wq_load_tile rfl rfl hT (fun w'' hC => (hnew.below hC hnew.lt).tileAt) ?_; simp only [Act.put, List.setIfInBounds_toArray, List.set_cons_succ, List.set_cons_zero]) | (refine wq_loadB rfl rfl (by kernel_rfl) (by assumption) ?_; simp only [Act.put, List.setIfInBounds_toArray, List.set_cons_succ, List.set_cons_zero]))
  refine wpQuiet_nil ?_
  refine cut_e ?_
  have hd0 : Below w0.heap.size w0 W1.drew := (hw.mono h0).trans ((hB1.mono h0).trans (Below.refl _ W1).drew)
  go_wp2
  refine (htl W1.drew hd0 i hi).mono ?_
  rintro e w2 ⟨rfl, hb2⟩
  have hb2' : Below W1.heap.size W1 w2 := ((Below.refl _ W1).drew).trans hb2
  have hs2 := hb2'.size
  clear hd0
  go_wp2
  refine ⟨hb2', ?_⟩
  refine cut_end ?_
  have ho2 : OwnB base w2 (.slice ad bs.length cc) bs := ownsRow_below ho1 (B := W1.heap.size) hb2' (Nat.le_refl _)
  have hn2 := hnew.below hb2' hnew.lt
  have hB2 : Below base w w2 := hB1.trans (hb2'.mono (by omega))
  by_cases hx : T = Z i
  · have hq : (T == Z i) = true := by simpa using hx
    have hst : Hid (stepB T (Z i) = [0]) := by refine Lib.hid ?_; unfold stepB; rw [if_pos hx]
    clear hx
    go_wp2_with (first | (refine wl_eql_tile rfl rfl rfl hT (hzl i hi) ?_; rw [hq]) | (refine wl_append base elem_byte rfl rfl rfl (ownsRow_below ho2 (B := w2.heap.size) ((Below.refl _ w2).alloc (Nat.le_refl _) _) (Nat.le_refl _)) (IsSl.new (by simp) (by decide)) (by rfl) (by simp [Value.oneCell']) (by unfold maxLen; omega) (by omega) (by simp; omega) ?_; intro v' w3 hown hg))
    go_ret
    refine ⟨_, rfl, by unfold OwnB; rw [hst.out, List.length_append, List.map_append]; exact hown, ?_⟩
    exact below_append (hB2.alloc (by omega) _) (Nat.le_refl _) (by simp; omega) (ownsRow_below ho2 (B := w2.heap.size) ((Below.refl _ w2).alloc (Nat.le_refl _) _) (Nat.le_refl _)) hg
  · have hq : (T == Z i) = false := by simpa using hx
    have hel : (enc T).length ≤ 325 := by rw [enc_len T hT]; have := runsOf_le T hT; omega
    have hst : Hid (stepB T (Z i) = enc T) := by refine Lib.hid ?_; unfold stepB; rw [if_neg hx]
    clear hx
    go_wp2_with (first | (refine wl_eql_tile rfl rfl rfl hT (hzl i hi) ?_; rw [hq]) | refine wl_load_tile rfl rfl hT hn2.tileAt ?_ | (go_at_call 138; refine (tile_any T hT _).mono ?_; rintro e w3 ⟨v3, rfl, hown3, hb3⟩) | (refine wl_append base elem_byte rfl rfl rfl (ownsRow_below ho2 (B := w2.heap.size) hb3 (Nat.le_refl _)) (IsSl.of_own hown3) (by simp) (one_bytes _) (by unfold maxLen; omega) (by omega) (by have := hb3.size; omega) ?_; intro v' w4 hown hg))
    go_ret
    refine ⟨_, rfl, by unfold OwnB; rw [hst.out, List.length_append, List.map_append]; exact hown, ?_⟩
    exact below_append (hB2.trans (hb3.mono (by omega))) (Nat.le_refl _) (by have := hb3.size; omega) (ownsRow_below ho2 (B := w2.heap.size) hb3 (Nat.le_refl _)) hg
set_option maxRecDepth 100000 in
set_option maxHeartbeats 2000000 in
theorem told_bytes (w0 w : World) (base pz : Nat) (z bv v : Value) (f : FuncId) (cv : Value) (Z : Nat → List Col) (L : List (List Col)) (bs : List UInt8) (hw : Below base w0 w) (h0 : w0.heap.size ≤ base) (hbs : base ≤ w.heap.size)
    (hL : Tiles w0 v L) (hl : L.length ≤ 1000) (hpz : Blk w0 pz #[z] 161) (hz : ZeroFn w0 z Z L.length f cv) (ho : OwnB base w bv bs) (hlen : bs.length ≤ 1000) :
    Calls Tryz.prog 136 #[bv, v, .func (.func 137) #[] #[.pointer (some ⟨pz, 0, none⟩)]] w fun e w' => ∃ v', e = .returned v' ∧ OwnB base w' v' (bs ++ bodyB Z 0 L) ∧ Below base w w' := by
  obtain ⟨a1, c1, rfl, hc1, hm1⟩ := hL.slice
  go_enter Tryz.func136, Tryz.ntmps136
  go_wp2
  go_loopw [0, 11] (fun s i wr => ∃ k : Nat, k ≤ L.length ∧ i = .int .i64 k ∧ OwnB base wr s (bs ++ bodyB Z 0 (L.take k)) ∧ Below base w wr ∧ base ≤ wr.heap.size) (fun _ i _ => L.length - (intOf i).toNat)
  case atStart => exact ⟨0, by omega, rfl, by simpa [bodyB] using ho, Below.refl _ _, hbs⟩
  case round =>
    obtain ⟨k, hk, rfl, hown, hB, hs⟩ := hrel
    by_cases hlt : k < L.length
    · obtain ⟨b1, o1, rfl, e1, x1⟩ := hL.get k hlt
      have hB0 : Below base w0 wr := hw.trans hB
      have e1' := e1.below hB0 (by omega)
      have t1 : L[k].length = 64 := hL.1 _ (by simp)
      have hle := bodyB_len Z (L.take k) (fun U hU => hL.1 U (List.mem_of_mem_take hU)) 0
      have hkl : (L.take k).length ≤ 1000 := by simp; omega
      have hln : (bs ++ bodyB Z 0 (L.take k)).length ≤ 1000000 := by rw [List.length_append]; omega
      have HS : Hid (bs ++ bodyB Z 0 (L.take (k + 1)) = (bs ++ bodyB Z 0 (L.take k)) ++ stepB L[k] (Z k)) := by
        refine Lib.hid ?_
        rw [List.take_succ_eq_append_getElem hlt, bodyB_snoc, List.append_assoc]; simp [hk]
      have hown' := ownsRow_below hown (B := wr.heap.size) ((Below.refl _ wr).alloc (Nat.le_refl _) (.cells (tcells L[k]) 109)) (Nat.le_refl _)
      go_wp2_with (first | refine wl_load_tile rfl rfl t1 e1' ?_ | refine wl_alloc_tile rfl ?_ | refine wl_store_tile_new rfl rfl rfl rfl (by rfl) t1 ?_ | refine wl_load_tile rfl rfl t1 (Blk.new _ _ _).tileAt ?_)
      refine (bytes1_any w0 _ base pz k L.length z _ f cv Z L[k] _ (hB0.alloc hs _) h0 (by simp; omega) t1 hpz hz hlt hown' hln).mono ?_
      rintro e w' ⟨v', rfl, hv', hb⟩
      go_wp2
      go_roundw
      case rel => exact ⟨k + 1, by omega, by go_num, by rw [HS.out]; exact hv', (hB.alloc hs _).trans hb, by have := hb.size; simp at this; omega⟩
      case measure => simp only [intOf]; omega
    · obtain rfl : k = L.length := by omega
      rw [List.take_length] at hown
      go_wp2
      go_ret
      exact ⟨_, rfl, hown, hB⟩
end Go.Proofs.YtkjpcjccddggoaaGreat

namespace Go.Proofs.YtkjpcjccddggoaaGreat
set_option maxRecDepth 20000
open Go.RowKit
theorem Bytes.get {w : World} {a : Option Addr} {n c : Nat} {l : List UInt8} (h : Bytes w (.slice a n c) l) (j : Nat) (hj : j < l.length) : ∃ b o, a = some ⟨b, o, none⟩ ∧ w.cell? ⟨b, o + j, none⟩ = some (vb l[j]) := by
  obtain ⟨a', c', e, _, _, _, r⟩ := h
  cases e
  exact r j (vb l[j]) (by rw [List.getElem?_map, List.getElem?_eq_getElem hj]; rfl)
theorem below_row {B : Nat} {w w1 : World} (h : Below B w w1) (n : Nat) (hn : B ≤ n) (cs : Array Value) : Below B w (w1.setRow n cs) :=
  ⟨h.os, h.tape, h.output, Nat.le_trans h.size (by simp), fun k hk => (setRow_other w1 n k cs (by omega)).trans (h.block k hk)⟩
end Go.Proofs.YtkjpcjccddggoaaGreat
