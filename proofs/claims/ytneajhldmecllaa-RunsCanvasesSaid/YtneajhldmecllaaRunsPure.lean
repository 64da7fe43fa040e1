/- Runs: the plain law. A tile is read by its maximal runs just if the tile's own bytes stand there. -/
import Derived.Test.YtneajhldmecllaaRunsEnc
import Derived.Test.YtneajhldmecllaaRunsReads
namespace Go.Proofs.Ytneajhldmecllaa

def expand (rs : List (Nat × Col)) : List Col := rs.flatMap fun x => List.replicate x.1 x.2

/-- the runs that bytes begin with, behind so many pixels -/
def parse (n : Nat) (l : List UInt8) : Option (List (Nat × Col)) :=
  if n = 64 then some [] else
  match l with
  | m :: r :: g :: b :: a :: rest => if 0 < m.toNat ∧ n + m.toNat ≤ 64 then (parse (n + m.toNat) rest).map ((m.toNat, ⟨r, g, b, a⟩) :: ·) else none
  | _ => none

/-- the tile of them, so too if a run is not all of its own -/
def readR (T : List Col) (l : List UInt8) : Option (List Col × Nat) :=
  if T.length = 64 then some (T, 0) else
  match l with
  | m :: r :: g :: b :: a :: rest => if 0 < m.toNat ∧ T.length + m.toNat ≤ 64 then (readR (T ++ List.replicate m.toNat ⟨r, g, b, a⟩) rest).map fun p => (p.1, p.2 + 5) else none
  | _ => none

def chain : Option Col → List (Nat × Col) → Bool
  | _, [] => true
  | o, x :: rs => decide (o ≠ some x.2) && chain (some x.2) rs

theorem readR_parse (T : List Col) (l : List UInt8) : readR T l = (parse T.length l).map fun rs => (T ++ expand rs, 5 * rs.length) := by
  by_cases h : T.length = 64
  · unfold readR parse; rw [if_pos h, if_pos h]; simp [expand]
  · match l with
    | m :: r :: g :: b :: a :: rest =>
      rw [readR, parse, if_neg h, if_neg h]
      split
      · have ih := readR_parse (T ++ List.replicate m.toNat ⟨r, g, b, a⟩) rest
        rw [ih, List.length_append, List.length_replicate, Option.map_map, Option.map_map]
        congr 1
        funext rs
        simp [Function.comp, expand, Nat.mul_add]
      · rfl
    | [] => unfold readR parse; simp [h]
    | [_] => unfold readR parse; simp [h]
    | [_, _] => unfold readR parse; simp [h]
    | [_, _, _] => unfold readR parse; simp [h]
    | [_, _, _, _] => unfold readR parse; simp [h]
termination_by l.length

theorem readT_parse (T : List Col) (l : List UInt8) : readT T l = (parse T.length l).bind fun rs => if chain T.getLast? rs then some (T ++ expand rs, 5 * rs.length) else none := by
  by_cases h : T.length = 64
  · unfold readT parse; rw [if_pos h, if_pos h]; simp [expand, chain]
  · match l with
    | m :: r :: g :: b :: a :: rest =>
      rw [readT, parse, if_neg h, if_neg h]
      by_cases hm : 0 < m.toNat ∧ T.length + m.toNat ≤ 64
      · rw [if_pos hm]
        have hl : (T ++ List.replicate m.toNat (⟨r, g, b, a⟩ : Col)).getLast? = some ⟨r, g, b, a⟩ := by
          obtain ⟨k, hk⟩ : ∃ k, m.toNat = k + 1 := ⟨m.toNat - 1, by omega⟩
          rw [hk, List.replicate_succ', ← List.append_assoc, List.getLast?_concat]
        by_cases hc : T.getLast? = some ⟨r, g, b, a⟩
        · rw [if_neg (fun h => h.2.2 hc)]
          cases parse (T.length + m.toNat) rest with
          | none => rfl
          | some rs => simp [chain, hc]
        · rw [if_pos ⟨hm.1, hm.2, hc⟩]
          have ih := readT_parse (T ++ List.replicate m.toNat ⟨r, g, b, a⟩) rest
          rw [ih, List.length_append, List.length_replicate, hl]
          cases parse (T.length + m.toNat) rest with
          | none => rfl
          | some rs =>
            simp only [Option.bind_some, Option.map_some, chain, hc, ne_eq, not_false_eq_true, decide_true, Bool.true_and]
            split
            · simp [expand, Nat.mul_add]
            · rfl
      · rw [if_neg hm, if_neg (fun h => hm ⟨h.1, h.2.1⟩)]; rfl
    | [] => unfold readT parse; simp [h]
    | [_] => unfold readT parse; simp [h]
    | [_, _] => unfold readT parse; simp [h]
    | [_, _, _] => unfold readT parse; simp [h]
    | [_, _, _, _] => unfold readT parse; simp [h]
termination_by l.length

theorem parse_facts (n : Nat) (l : List UInt8) (rs : List (Nat × Col)) (hp : parse n l = some rs) : (∀ x ∈ rs, 0 < x.1 ∧ x.1 < 256) ∧ encR rs <+: l := by
  by_cases h : n = 64
  · unfold parse at hp; rw [if_pos h] at hp; cases hp; simp [encR]
  · match l, hp with
    | m :: r :: g :: b :: a :: rest, hp =>
      rw [parse, if_neg h] at hp
      split at hp
      · rename_i hm
        obtain ⟨rs', hp', he⟩ := Option.map_eq_some_iff.1 hp
        subst he
        obtain ⟨h1, h2⟩ := parse_facts _ rest rs' hp'
        refine ⟨?_, ?_⟩
        · intro x hx
          rcases List.mem_cons.1 hx with rfl | hx
          · exact ⟨hm.1, by have := m.toNat_lt; simpa using this⟩
          · exact h1 x hx
        · obtain ⟨t, ht⟩ := h2
          exact ⟨t, by rw [← ht]; simp [encR, rleB]⟩
      · cases hp
    | [], hp => unfold parse at hp; simp [h] at hp
    | [_], hp => unfold parse at hp; simp [h] at hp
    | [_, _], hp => unfold parse at hp; simp [h] at hp
    | [_, _, _], hp => unfold parse at hp; simp [h] at hp
    | [_, _, _, _], hp => unfold parse at hp; simp [h] at hp
termination_by l.length

theorem rleGo_rep (m n : Nat) (c : Col) (ds : List Col) : rleGo n c (List.replicate m c ++ ds) = rleGo (n + m) c ds := by
  induction m generalizing n with
  | zero => rfl
  | succ m ih => rw [List.replicate_succ, List.cons_append, rleGo, if_pos rfl, ih]; congr 1; omega

theorem rleGo_expand (rs : List (Nat × Col)) : ∀ (n : Nat) (c : Col), chain (some c) rs = true → (∀ x ∈ rs, 0 < x.1 ∧ x.1 < 256) → rleGo n c (expand rs) = (n, c) :: rs := by
  induction rs with
  | nil => intro n c _ _; rfl
  | cons x rs ih =>
    intro n c hc hp
    obtain ⟨m, d⟩ := x
    simp only [chain, Bool.and_eq_true, decide_eq_true_eq] at hc
    have hm := (hp (m, d) (by simp)).1
    obtain ⟨k, hk⟩ : ∃ k, m = k + 1 := ⟨m - 1, by simp at hm; omega⟩
    have hne : ¬ d = c := fun e => hc.1 (by rw [e])
    subst hk
    show rleGo n c (List.replicate (k + 1) d ++ expand rs) = _
    rw [List.replicate_succ, List.cons_append, rleGo, if_neg hne, rleGo_rep, ih _ _ hc.2 (fun x hx => hp x (by simp [hx]))]
    congr 2
    congr 1
    omega

theorem rle_expand (rs : List (Nat × Col)) (hc : chain none rs = true) (hp : ∀ x ∈ rs, 0 < x.1 ∧ x.1 < 256) : rle (expand rs) = rs := by
  cases rs with
  | nil => rfl
  | cons x rs =>
    obtain ⟨m, d⟩ := x
    simp only [chain, Bool.and_eq_true, decide_eq_true_eq] at hc
    have hm := (hp (m, d) (by simp)).1
    obtain ⟨k, hk⟩ : ∃ k, m = k + 1 := ⟨m - 1, by simp at hm; omega⟩
    subst hk
    show rle (List.replicate (k + 1) d ++ expand rs) = _
    rw [List.replicate_succ, List.cons_append, rle, rleGo_rep, rleGo_expand _ _ _ hc.2 (fun x hx => hp x (by simp [hx]))]
    congr 2
    omega

theorem rleGo_chain (ds : List Col) : ∀ (n : Nat) (c : Col) (o : Option Col), o ≠ some c → 0 < n → n + ds.length < 256 → chain o (rleGo n c ds) = true ∧ ∀ x ∈ rleGo n c ds, 0 < x.1 ∧ x.1 < 256 := by
  induction ds with
  | nil => intro n c o ho hn hl; simp [rleGo, chain, ho, hn]; simpa using hl
  | cons d ds ih =>
    intro n c o ho hn hl
    simp at hl
    unfold rleGo
    split
    · exact ih (n + 1) c o ho (by omega) (by omega)
    · rename_i hne
      obtain ⟨h1, h2⟩ := ih 1 d (some c) (by simpa using fun e => hne e.symm) (by omega) (by omega)
      refine ⟨by simp [chain, ho, h1], fun x hx => ?_⟩
      rcases List.mem_cons.1 hx with rfl | hx
      · exact ⟨hn, by simp; omega⟩
      · exact h2 x hx
theorem rle_chain (T : List Col) (h : T.length < 256) : chain none (rle T) = true ∧ ∀ x ∈ rle T, 0 < x.1 ∧ x.1 < 256 := by
  cases T with
  | nil => simp [rle, chain]
  | cons c cs => exact rleGo_chain cs 1 c none (by simp) (by omega) (by simpa [Nat.add_comm] using h)

theorem encR_inj : ∀ (rs rs' : List (Nat × Col)), (∀ x ∈ rs, 0 < x.1 ∧ x.1 < 256) → (∀ x ∈ rs', 0 < x.1 ∧ x.1 < 256) → encR rs = encR rs' → rs = rs'
  | [], [], _, _, _ => rfl
  | [], x :: rs', _, _, h => by simp [encR, rleB] at h
  | x :: rs, [], _, _, h => by simp [encR, rleB] at h
  | (n, ⟨r, g, b, a⟩) :: rs, (n', ⟨r', g', b', a'⟩) :: rs', h1, h2, h => by
    have e : rleB (n, ⟨r, g, b, a⟩) ++ encR rs = rleB (n', ⟨r', g', b', a'⟩) ++ encR rs' := h
    simp only [rleB, List.cons_append, List.nil_append, List.cons.injEq] at e
    obtain ⟨e1, rfl, rfl, rfl, rfl, e2⟩ := e
    have ih := encR_inj rs rs' (fun x hx => h1 x (by simp [hx])) (fun x hx => h2 x (by simp [hx])) e2
    have b1 := (h1 (n, ⟨r, g, b, a⟩) (by simp)).2
    have b2 := (h2 (n', ⟨r, g, b, a⟩) (by simp)).2
    have e3 := congrArg UInt8.toNat e1
    simp at e3 b1 b2
    rw [Nat.mod_eq_of_lt b1, Nat.mod_eq_of_lt b2] at e3
    rw [ih, e3]

theorem readR_len (T : List Col) (l : List UInt8) (T' : List Col) (k : Nat) (hr : readR T l = some (T', k)) : T'.length = 64 := by
  by_cases h : T.length = 64
  · unfold readR at hr; rw [if_pos h] at hr; cases hr; exact h
  · match l, hr with
    | m :: r :: g :: b :: a :: rest, hr =>
      rw [readR, if_neg h] at hr
      split at hr
      · obtain ⟨p, hp, he⟩ := Option.map_eq_some_iff.1 hr
        cases he
        exact readR_len _ rest p.1 p.2 hp
      · cases hr
    | [], hr => unfold readR at hr; simp [h] at hr
    | [_], hr => unfold readR at hr; simp [h] at hr
    | [_, _], hr => unfold readR at hr; simp [h] at hr
    | [_, _, _], hr => unfold readR at hr; simp [h] at hr
    | [_, _, _, _], hr => unfold readR at hr; simp [h] at hr
termination_by l.length

/-- THE PLAIN LAW of a tile that is read: by its bytes, or by its runs, it is the same. -/
theorem read_ref (l : List UInt8) : readTile l = (readR [] l).bind fun p => if (enc p.1).length = p.2 ∧ enc p.1 <+: l then some p else none := by
  unfold readTile
  have hlen := readR_len [] l
  rw [readR_parse] at hlen ⊢
  rw [readT_parse]
  cases hp : parse ([] : List Col).length l with
  | none => rfl
  | some rs =>
    obtain ⟨h1, h2⟩ := parse_facts _ _ _ hp
    rw [hp] at hlen
    have h64 : (expand rs).length = 64 := by simpa using hlen ([] ++ expand rs) (5 * rs.length) rfl
    simp only [Option.bind_some, Option.map_some, List.nil_append]
    by_cases hc : chain ([] : List Col).getLast? rs = true
    · rw [if_pos hc, if_pos]
      unfold enc
      rw [rle_expand rs (show chain none rs = true from hc) h1]
      exact ⟨rleB_len rs, h2⟩
    · rw [if_neg hc, if_neg]
      rintro ⟨e1, e2⟩
      obtain ⟨c1, c2⟩ := rle_chain (expand rs) (by omega)
      have e : encR (rle (expand rs)) = encR rs := by
        have t1 := List.prefix_iff_eq_take.1 e2
        have t2 := List.prefix_iff_eq_take.1 h2
        rw [rleB_len] at t2
        rw [e1] at t1
        exact t1.trans t2.symm
      rw [encR_inj _ _ c2 h1 e] at c1
      exact hc c1

end Go.Proofs.Ytneajhldmecllaa
