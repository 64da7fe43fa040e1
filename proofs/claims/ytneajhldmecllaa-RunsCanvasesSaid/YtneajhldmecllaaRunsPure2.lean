/- Runs: the plain laws: a tile's bytes are read as it, whatever stands behind; what is read has the bytes that were read. -/
import Derived.Test.YtneajhldmecllaaRunsPure
namespace Go.Proofs.Ytneajhldmecllaa

theorem rleGo_sum (ds : List Col) : ∀ (n : Nat) (c : Col), ((rleGo n c ds).map (·.1)).sum = n + ds.length := by
  induction ds with
  | nil => intro n c; simp [rleGo]
  | cons d ds ih =>
    intro n c
    unfold rleGo
    split
    · rw [ih]; simp; omega
    · simp [ih]; omega
theorem rle_sum (T : List Col) : ((rle T).map (·.1)).sum = T.length := by
  cases T with
  | nil => rfl
  | cons c cs => rw [rle, rleGo_sum, List.length_cons]; omega
theorem rleGo_exp (ds : List Col) : ∀ (n : Nat) (c : Col), expand (rleGo n c ds) = List.replicate n c ++ ds := by
  induction ds with
  | nil => intro n c; simp [rleGo, expand]
  | cons d ds ih =>
    intro n c
    unfold rleGo
    split
    · rename_i h
      rw [ih, h, List.replicate_succ']
      simp
    · have := ih 1 d
      unfold expand at this ⊢
      rw [List.flatMap_cons, this]
      simp
theorem rle_exp (T : List Col) : expand (rle T) = T := by
  cases T with
  | nil => rfl
  | cons c cs => rw [rle, rleGo_exp]; rfl

theorem parse_enc (more : List UInt8) : ∀ (rs : List (Nat × Col)) (n : Nat), (∀ x ∈ rs, 0 < x.1 ∧ x.1 < 256) → n + (rs.map (·.1)).sum = 64 → parse n (encR rs ++ more) = some rs
  | [], n, _, h => by
    unfold parse
    rw [if_pos (by simpa using h)]
  | (m, c) :: rs, n, hp, h => by
    have hm := hp (m, c) (by simp)
    simp only at hm
    have ih := parse_enc more rs (n + m) (fun x hx => hp x (by simp [hx])) (by simp at h; omega)
    have e : encR ((m, c) :: rs) ++ more = UInt8.ofNat m :: c.r :: c.g :: c.b :: c.a :: (encR rs ++ more) := by simp [encR, rleB]
    have e2 : (UInt8.ofNat m).toNat = m := by simp; omega
    rw [e]
    unfold parse
    simp at h
    rw [if_neg (by omega)]
    simp only [e2]
    rw [if_pos ⟨hm.1, by omega⟩, ih]
    rfl

theorem read_enc (T : List Col) (hT : T.length = 64) (more : List UInt8) : readTile (enc T ++ more) = some (T, (enc T).length) := by
  obtain ⟨h1, h2⟩ := rle_chain T (by omega)
  have hp := parse_enc more (rle T) 0 h2 (by rw [rle_sum]; omega)
  unfold readTile
  rw [readT_parse]
  show (parse 0 (encR (rle T) ++ more)).bind _ = _
  rw [hp]
  simp only [Option.bind_some, List.getLast?_nil, h1, if_true, List.nil_append, rle_exp]
  show _ = some (T, (encR (rle T)).length)
  rw [rleB_len]

theorem read_own (l : List UInt8) (U : List Col) (n : Nat) (h : readTile l = some (U, n)) : (enc U).length = n ∧ n ≤ l.length ∧ l.take n = enc U := by
  rw [read_ref] at h
  obtain ⟨⟨U', k⟩, _, hp⟩ := Option.bind_eq_some_iff.1 h
  split at hp
  · rename_i hh
    simp only [Option.some.injEq, Prod.mk.injEq] at hp
    obtain ⟨rfl, rfl⟩ := hp
    obtain ⟨h1, h2⟩ := hh
    simp only at h1 h2
    refine ⟨h1, ?_, ?_⟩
    · rw [← h1]; exact h2.length_le
    · rw [← h1]; exact (List.prefix_iff_eq_take.1 h2).symm
  · cases hp

/-- a tile's bytes begin no other tile's -/
theorem enc_prefix (T U : List Col) (hT : T.length = 64) (hU : U.length = 64) (h : enc U <+: enc T) : U = T := by
  obtain ⟨more, hm⟩ := h
  have h1 := read_enc U hU more
  have h2 := read_enc T hT []
  rw [List.append_nil, ← hm, h1] at h2
  simp at h2
  exact h2.1

/-- bytes of a tile one of which is another one: what is read of them is another tile, and what was there begins no such -/
theorem spoilt_other (T U : List Col) (hT : T.length = 64) (hU : U.length = 64) (at_ n : Nat) (z : UInt8) (hat : at_ < (enc T).length) (hz : z ≠ (enc T)[at_]) (h : readTile ((enc T).set at_ z) = some (U, n)) :
    U ≠ T ∧ ¬ enc U = (enc T).take (min n (enc T).length) := by
  obtain ⟨h1, h2, h3⟩ := read_own _ _ _ h
  have hne : U ≠ T := by
    rintro rfl
    rw [List.take_of_length_le (by simp; omega)] at h3
    apply hz
    have := congrArg (fun l => l[at_]?) h3
    simp [hat] at this
    exact this
  refine ⟨hne, fun he => hne (enc_prefix T U hT hU ?_)⟩
  rw [he]
  exact List.take_prefix _ _

end Go.Proofs.Ytneajhldmecllaa
