/- Walks by data and names, part 26: Loops over the elements of a slice. The seat's types, as the walks ask for them (made by program). Layer 21, by V: numbers, pieces. -/
import Derived.Test.YtbgcjnfhadhjeaaGreatPk22
import Derived.Test.YtbgcjnfhadhjeaaGreatPk25
import Derived.Test.YtbgcjnfhadhjeaaGreatPk13
import Derived.Test.YtbgcjnfhadhjeaaGreatPk14
namespace Go.Proofs.YtbgcjnfhadhjeaaGreat
set_option maxRecDepth 20000
open Go.RowKit
section
variable {P : Program} {cx : Cx} {s : St} {Q : VE → St → Prop}
abbrev V3 {β : Type} (cx : Cx) (I : Nat → β → St) (n : Nat) (T : Nat → β → Prop) (i : Nat) (y : β) (Q : VE → St → Prop) : VE → St → Prop :=
 MW cx (fun z : Nat × β => I z.1 z.2) (fun z => z.1 ≤ n ∧ T z.1 z.2) (fun z => n - z.1) (i, y) Q
theorem Bi {ι β : Type} (t : Tmp) (l : List ι) (fD : ι → List D) (I : Nat → β → St) (T : Nat → β → Prop) (y0 : β) {c : Code} {cc f : Bool} (h0 : Sb cx s (I 0 y0)) (hT : T 0 y0)
  (step : ∀ i y x, T i y → i < l.length → l[i]? = some x → (l.map fD)[((i : Nat) : Int).toNat]? = some (fD x) → (i : Int) < ((l.map fD).length : Int) → (l.map fD).length = l.length → l.length ≤ 9223372036854775807 → l.drop i = x :: l.drop (i + 1) → VW P cx c (I i y) (V3 cx I l.length T i y Q))
  (last : ∀ y, T l.length y → ¬ ((l.length : Int) < ((l.map fD).length : Int)) → (l.map fD).length = l.length → VW P cx c (I l.length y) (V3 cx I l.length T l.length y Q))
  (hs : ∀ i y, AE t (I i y).tm = some (.d (.sl cc f (l.map fD))) := by exact fun _ _ => rfl) : VW P cx (.loop c) s Q := by
 refine BT (fun z : Nat × β => I z.1 z.2) (fun z => z.1 ≤ l.length ∧ T z.1 z.2) (fun z => l.length - z.1) (0, y0) h0 ⟨Nat.zero_le _, hT⟩ ?_
 rintro ⟨i, y⟩ ⟨hi, hT⟩
 refine Y2 t (hs i y) fun hlen => ?_
 simp only [List.length_map] at hlen
 simp only at hi hT
 rcases Nat.lt_or_ge i l.length with h | h
 ·have hx : l[i]? = some l[i] := List.getElem?_eq_getElem h
  exact step i y l[i] hT h hx (by simp [hx]) (by simpa using h) (List.length_map _) hlen (List.drop_eq_getElem_cons h)
 ·obtain rfl : i = l.length := by omega
  exact last y hT (by simp) (List.length_map _)
theorem Be {β : Type} {I : Nat → β → St} {n : Nat} {T : Nat → β → Prop} {i : Nat} {y : β} (y' : β) (hi : i < n) (hT : T (i + 1) y') (h : Sb cx s (I (i + 1) y')) : V3 cx I n T i y Q .normal s :=
 ⟨(i + 1, y'), ⟨hi, hT⟩, by simp only; omega, h⟩
end

set_option maxRecDepth 10000
instance : Br Tryz.prog 3 false 1 [(.int .i64 0)] := ⟨by kernel_rfl, by kernel_rfl⟩
instance : Je Tryz.prog 3 .i64 := ⟨by kernel_rfl⟩
instance : Br Tryz.prog 4 false 1 [(.bool false)] := ⟨by kernel_rfl, by kernel_rfl⟩
instance : Wo Tryz.prog 4 := ⟨by kernel_rfl⟩
instance : Br Tryz.prog 5 false 1 [(.int .u8 0)] := ⟨by kernel_rfl, by kernel_rfl⟩
instance : Je Tryz.prog 5 .u8 := ⟨by kernel_rfl⟩
instance : Br Tryz.prog 9 false 1 [(.string ⟨#[]⟩)] := ⟨by kernel_rfl, by kernel_rfl⟩
instance : My Tryz.prog 20 := ⟨by kernel_rfl⟩
instance : Br Tryz.prog 22 false 1 [(.int .u64 0)] := ⟨by kernel_rfl, by kernel_rfl⟩
instance : Je Tryz.prog 22 .u64 := ⟨by kernel_rfl⟩
instance : Br Tryz.prog 23 false 1 [(.slice none 0 0)] := ⟨by kernel_rfl, by kernel_rfl⟩
instance : EU Tryz.prog 23 5 1 1 := ⟨GP.mk' (z := (.int .u8 0)) (by kernel_rfl) (by kernel_rfl) (by kernel_rfl) (by decide)⟩
instance : Br Tryz.prog 24 false 1 [(.slice none 0 0)] := ⟨by kernel_rfl, by kernel_rfl⟩
instance : EU Tryz.prog 24 71 19 144 := ⟨GP.mk' (z := (.agg #[(.int .u64 0), (.int .i64 0), (.int .u64 0), (.int .i64 0), (.int .i64 0), (.int .i64 0), (.int .i64 0), (.int .i64 0), (.int .i64 0), (.int .u8 0), (.int .u8 0), (.int .u8 0), (.int .u8 0), (.int .i64 0), (.int .i64 0), (.slice none 0 0), (.int .u64 0), (.int .i64 0), (.int .u64 0)])) (by kernel_rfl) (by kernel_rfl) (by kernel_rfl) (by decide)⟩
instance : Br Tryz.prog 26 true 9 [(.int .u64 0), (.int .u64 0), (.int .u64 0), (.int .u64 0), (.int .u64 0), (.int .u64 0), (.int .u64 0), (.int .u64 0), (.int .u64 0)] := ⟨by kernel_rfl, by kernel_rfl⟩
instance : EE Tryz.prog 26 9 22 1 := ⟨by kernel_rfl, by kernel_rfl, by decide⟩
instance : Br Tryz.prog 28 true 30 [(.int .i64 0), (.int .u64 0), (.int .i64 0), (.int .u64 0), (.int .i64 0), (.int .i64 0), (.slice none 0 0), (.slice none 0 0), (.int .u64 0), (.int .u64 0), (.int .u64 0), (.int .u64 0), (.int .u64 0), (.int .u64 0), (.int .u64 0), (.int .u64 0), (.int .u64 0), (.int .u64 0), (.int .u64 0), (.int .u64 0), (.int .u64 0), (.int .u64 0), (.int .u64 0), (.int .u64 0), (.int .u64 0), (.int .u64 0), (.int .u64 0), (.int .u64 0), (.int .u64 0), (.int .u64 0)] := ⟨by kernel_rfl, by kernel_rfl⟩
instance : PB Tryz.prog 28 [(0, 1), (1, 1), (2, 1), (3, 1), (4, 1), (5, 1), (6, 1), (7, 1), (8, 9), (17, 1), (18, 1), (19, 1), (20, 1), (21, 9)] := ⟨by kernel_rfl⟩
instance : Bh Tryz.prog 28 0 0 1 false := ⟨by kernel_rfl, by decide⟩
instance : Bh Tryz.prog 28 1 1 1 false := ⟨by kernel_rfl, by decide⟩
instance : Bh Tryz.prog 28 2 2 1 false := ⟨by kernel_rfl, by decide⟩
instance : Bh Tryz.prog 28 3 3 1 false := ⟨by kernel_rfl, by decide⟩
instance : Bh Tryz.prog 28 4 4 1 false := ⟨by kernel_rfl, by decide⟩
instance : Bh Tryz.prog 28 5 5 1 false := ⟨by kernel_rfl, by decide⟩
instance : Bh Tryz.prog 28 6 6 1 false := ⟨by kernel_rfl, by decide⟩
instance : Bh Tryz.prog 28 7 7 1 false := ⟨by kernel_rfl, by decide⟩
instance : Bh Tryz.prog 28 8 8 9 true := ⟨by kernel_rfl, by decide⟩
instance : Bh Tryz.prog 28 9 17 1 false := ⟨by kernel_rfl, by decide⟩
instance : Bh Tryz.prog 28 10 18 1 false := ⟨by kernel_rfl, by decide⟩
instance : Bh Tryz.prog 28 11 19 1 false := ⟨by kernel_rfl, by decide⟩
instance : Bh Tryz.prog 28 12 20 1 false := ⟨by kernel_rfl, by decide⟩
instance : Bh Tryz.prog 28 13 21 9 true := ⟨by kernel_rfl, by decide⟩
instance : EU Tryz.prog 29 3 1 8 := ⟨GP.mk' (z := (.int .i64 0)) (by kernel_rfl) (by kernel_rfl) (by kernel_rfl) (by decide)⟩
instance : Br Tryz.prog 33 false 1 [(.int .i64 0)] := ⟨by kernel_rfl, by kernel_rfl⟩
instance : QO Tryz.prog 33 := ⟨by kernel_rfl⟩
instance : EU Tryz.prog 42 9 1 16 := ⟨GP.mk' (z := (.string ⟨#[]⟩)) (by kernel_rfl) (by kernel_rfl) (by kernel_rfl) (by decide)⟩
instance : Br Tryz.prog 45 false 1 [(.slice none 0 0)] := ⟨by kernel_rfl, by kernel_rfl⟩
instance : EU Tryz.prog 45 23 1 24 := ⟨GP.mk' (z := (.slice none 0 0)) (by kernel_rfl) (by kernel_rfl) (by kernel_rfl) (by decide)⟩
instance : EU Tryz.prog 46 28 30 272 := ⟨GP.mk' (z := (.agg #[(.int .i64 0), (.int .u64 0), (.int .i64 0), (.int .u64 0), (.int .i64 0), (.int .i64 0), (.slice none 0 0), (.slice none 0 0), (.int .u64 0), (.int .u64 0), (.int .u64 0), (.int .u64 0), (.int .u64 0), (.int .u64 0), (.int .u64 0), (.int .u64 0), (.int .u64 0), (.int .u64 0), (.int .u64 0), (.int .u64 0), (.int .u64 0), (.int .u64 0), (.int .u64 0), (.int .u64 0), (.int .u64 0), (.int .u64 0), (.int .u64 0), (.int .u64 0), (.int .u64 0), (.int .u64 0)])) (by kernel_rfl) (by kernel_rfl) (by kernel_rfl) (by decide)⟩
instance : Br Tryz.prog 57 false 1 [(.int .u32 0)] := ⟨by kernel_rfl, by kernel_rfl⟩
instance : Je Tryz.prog 57 .u32 := ⟨by kernel_rfl⟩
instance : Br Tryz.prog 64 true 3 [(.int .u64 0), (.int .i64 0), (.int .u64 0)] := ⟨by kernel_rfl, by kernel_rfl⟩
instance : J6 Tryz.prog 64 3 := ⟨by kernel_rfl, by kernel_rfl, by kernel_rfl, by kernel_rfl, by kernel_rfl⟩
instance : Bh Tryz.prog 64 0 0 1 false := ⟨by kernel_rfl, by decide⟩
instance : Bh Tryz.prog 64 1 1 1 false := ⟨by kernel_rfl, by decide⟩
instance : Bh Tryz.prog 64 2 2 1 false := ⟨by kernel_rfl, by decide⟩
instance : Br Tryz.prog 66 true 4 [(.int .u8 0), (.int .u8 0), (.int .u8 0), (.int .u8 0)] := ⟨by kernel_rfl, by kernel_rfl⟩
instance : J6 Tryz.prog 66 4 := ⟨by kernel_rfl, by kernel_rfl, by kernel_rfl, by kernel_rfl, by kernel_rfl⟩
instance : Bh Tryz.prog 66 0 0 1 false := ⟨by kernel_rfl, by decide⟩
instance : Bh Tryz.prog 66 1 1 1 false := ⟨by kernel_rfl, by decide⟩
instance : Bh Tryz.prog 66 2 2 1 false := ⟨by kernel_rfl, by decide⟩
instance : Bh Tryz.prog 66 3 3 1 false := ⟨by kernel_rfl, by decide⟩
instance : Br Tryz.prog 67 false 1 [(.slice none 0 0)] := ⟨by kernel_rfl, by kernel_rfl⟩
instance : EU Tryz.prog 67 66 4 4 := ⟨GP.mk' (z := (.agg #[(.int .u8 0), (.int .u8 0), (.int .u8 0), (.int .u8 0)])) (by kernel_rfl) (by kernel_rfl) (by kernel_rfl) (by decide)⟩
instance : Br Tryz.prog 69 true 3 [(.int .i64 0), (.int .i64 0), (.slice none 0 0)] := ⟨by kernel_rfl, by kernel_rfl⟩
instance : PB Tryz.prog 69 [(0, 1), (1, 1), (2, 1)] := ⟨by kernel_rfl⟩
instance : Bh Tryz.prog 69 0 0 1 false := ⟨by kernel_rfl, by decide⟩
instance : Bh Tryz.prog 69 1 1 1 false := ⟨by kernel_rfl, by decide⟩
instance : Bh Tryz.prog 69 2 2 1 false := ⟨by kernel_rfl, by decide⟩
instance : Br Tryz.prog 71 true 19 [(.int .u64 0), (.int .i64 0), (.int .u64 0), (.int .i64 0), (.int .i64 0), (.int .i64 0), (.int .i64 0), (.int .i64 0), (.int .i64 0), (.int .u8 0), (.int .u8 0), (.int .u8 0), (.int .u8 0), (.int .i64 0), (.int .i64 0), (.slice none 0 0), (.int .u64 0), (.int .i64 0), (.int .u64 0)] := ⟨by kernel_rfl, by kernel_rfl⟩
instance : PB Tryz.prog 71 [(0, 3), (3, 1), (4, 1), (5, 1), (6, 1), (7, 1), (8, 1), (9, 4), (13, 3), (16, 3)] := ⟨by kernel_rfl⟩
instance : Bh Tryz.prog 71 0 0 3 true := ⟨by kernel_rfl, by decide⟩
instance : Bh Tryz.prog 71 1 3 1 false := ⟨by kernel_rfl, by decide⟩
instance : Bh Tryz.prog 71 2 4 1 false := ⟨by kernel_rfl, by decide⟩
instance : Bh Tryz.prog 71 3 5 1 false := ⟨by kernel_rfl, by decide⟩
instance : Bh Tryz.prog 71 4 6 1 false := ⟨by kernel_rfl, by decide⟩
instance : Bh Tryz.prog 71 5 7 1 false := ⟨by kernel_rfl, by decide⟩
instance : Bh Tryz.prog 71 6 8 1 false := ⟨by kernel_rfl, by decide⟩
instance : Bh Tryz.prog 71 7 9 4 true := ⟨by kernel_rfl, by decide⟩
instance : Bh Tryz.prog 71 8 13 3 true := ⟨by kernel_rfl, by decide⟩
instance : Bh Tryz.prog 71 9 16 3 true := ⟨by kernel_rfl, by decide⟩
instance : EU Tryz.prog 73 22 1 8 := ⟨GP.mk' (z := (.int .u64 0)) (by kernel_rfl) (by kernel_rfl) (by kernel_rfl) (by decide)⟩
instance : Br Tryz.prog 74 false 1 [.nilFunc] := ⟨by kernel_rfl, by kernel_rfl⟩
instance : Br Tryz.prog 77 false 1 [.nilFunc] := ⟨by kernel_rfl, by kernel_rfl⟩
instance : EU Tryz.prog 80 26 9 72 := ⟨GP.mk' (z := (.agg #[(.int .u64 0), (.int .u64 0), (.int .u64 0), (.int .u64 0), (.int .u64 0), (.int .u64 0), (.int .u64 0), (.int .u64 0), (.int .u64 0)])) (by kernel_rfl) (by kernel_rfl) (by kernel_rfl) (by decide)⟩
instance : Br Tryz.prog 82 false 1 [(.slice none 0 0)] := ⟨by kernel_rfl, by kernel_rfl⟩
instance : EU Tryz.prog 82 64 3 24 := ⟨GP.mk' (z := (.agg #[(.int .u64 0), (.int .i64 0), (.int .u64 0)])) (by kernel_rfl) (by kernel_rfl) (by kernel_rfl) (by decide)⟩
instance : Br Tryz.prog 84 false 1 [.nilFunc] := ⟨by kernel_rfl, by kernel_rfl⟩
instance : Br Tryz.prog 93 false 1 [.nilFunc] := ⟨by kernel_rfl, by kernel_rfl⟩
instance : Br Tryz.prog 94 false 1 [.nilFunc] := ⟨by kernel_rfl, by kernel_rfl⟩
instance : Br Tryz.prog 96 true 3 [(.string ⟨#[]⟩), .nilFunc, .nilFunc] := ⟨by kernel_rfl, by kernel_rfl⟩
instance : PB Tryz.prog 96 [(0, 1), (1, 1), (2, 1)] := ⟨by kernel_rfl⟩
instance : Bh Tryz.prog 96 0 0 1 false := ⟨by kernel_rfl, by decide⟩
instance : Bh Tryz.prog 96 1 1 1 false := ⟨by kernel_rfl, by decide⟩
instance : Bh Tryz.prog 96 2 2 1 false := ⟨by kernel_rfl, by decide⟩
instance : Br Tryz.prog 99 true 2 [(.string ⟨#[]⟩), (.slice none 0 0)] := ⟨by kernel_rfl, by kernel_rfl⟩
instance : PB Tryz.prog 99 [(0, 1), (1, 1)] := ⟨by kernel_rfl⟩
instance : Bh Tryz.prog 99 0 0 1 false := ⟨by kernel_rfl, by decide⟩
instance : Bh Tryz.prog 99 1 1 1 false := ⟨by kernel_rfl, by decide⟩
instance : Br Tryz.prog 111 true 0 [] := ⟨by kernel_rfl, by kernel_rfl⟩
instance : QO Tryz.prog 111 := ⟨by kernel_rfl⟩
instance : Br Tryz.prog 113 false 1 [(.pointer none)] := ⟨by kernel_rfl, by kernel_rfl⟩
instance : Br Tryz.prog 115 true 31 [(.int .i64 0), (.int .u64 0), (.int .i64 0), (.int .u64 0), (.int .i64 0), (.int .i64 0), (.slice none 0 0), (.slice none 0 0), (.int .u64 0), (.int .u64 0), (.int .u64 0), (.int .u64 0), (.int .u64 0), (.int .u64 0), (.int .u64 0), (.int .u64 0), (.int .u64 0), (.int .u64 0), (.int .u64 0), (.int .u64 0), (.int .u64 0), (.int .u64 0), (.int .u64 0), (.int .u64 0), (.int .u64 0), (.int .u64 0), (.int .u64 0), (.int .u64 0), (.int .u64 0), (.int .u64 0), (.slice none 0 0)] := ⟨by kernel_rfl, by kernel_rfl⟩
instance : PB Tryz.prog 115 [(0, 30), (30, 1)] := ⟨by kernel_rfl⟩
instance : Bh Tryz.prog 115 0 0 30 true := ⟨by kernel_rfl, by decide⟩
instance : Bh Tryz.prog 115 1 30 1 false := ⟨by kernel_rfl, by decide⟩
instance : Br Tryz.prog 120 true 4 [(.int .u8 0), (.int .u8 0), (.int .u8 0), (.int .u8 0)] := ⟨by kernel_rfl, by kernel_rfl⟩
instance : EE Tryz.prog 120 4 5 1 := ⟨by kernel_rfl, by kernel_rfl, by decide⟩
instance : Br Tryz.prog 124 false 1 [.nilFunc] := ⟨by kernel_rfl, by kernel_rfl⟩
instance : Br Tryz.prog 127 false 1 [(.pointer none)] := ⟨by kernel_rfl, by kernel_rfl⟩
instance : Br Tryz.prog 129 true 9 [(.int .u64 0), (.int .u64 0), (.int .u64 0), (.int .u64 0), (.int .u64 0), (.int .u64 0), (.int .u64 0), (.int .u64 0), (.int .u64 0)] := ⟨by kernel_rfl, by kernel_rfl⟩
instance : PB Tryz.prog 129 [(0, 9)] := ⟨by kernel_rfl⟩
instance : Bh Tryz.prog 129 0 0 9 true := ⟨by kernel_rfl, by decide⟩
instance : Br Tryz.prog 135 true 2 [(.int .i64 0), (.int .i64 0)] := ⟨by kernel_rfl, by kernel_rfl⟩
instance : PB Tryz.prog 135 [(0, 1), (1, 1)] := ⟨by kernel_rfl⟩
instance : J6 Tryz.prog 135 2 := ⟨by kernel_rfl, by kernel_rfl, by kernel_rfl, by kernel_rfl, by kernel_rfl⟩
instance : EU Tryz.prog 139 96 3 32 := ⟨GP.mk' (z := (.agg #[(.string ⟨#[]⟩), .nilFunc, .nilFunc])) (by kernel_rfl) (by kernel_rfl) (by kernel_rfl) (by decide)⟩
instance : Br Tryz.prog 147 true 12 [(.string ⟨#[]⟩), (.slice none 0 0), (.string ⟨#[]⟩), (.slice none 0 0), (.string ⟨#[]⟩), (.slice none 0 0), (.string ⟨#[]⟩), (.slice none 0 0), (.string ⟨#[]⟩), (.slice none 0 0), (.string ⟨#[]⟩), (.slice none 0 0)] := ⟨by kernel_rfl, by kernel_rfl⟩
instance : EE Tryz.prog 147 6 99 2 := ⟨by kernel_rfl, by kernel_rfl, by decide⟩
instance : Br Tryz.prog 149 false 1 [(.pointer none)] := ⟨by kernel_rfl, by kernel_rfl⟩
instance : Br Tryz.prog 183 false 1 [.nilFunc] := ⟨by kernel_rfl, by kernel_rfl⟩
instance : Br Tryz.prog 185 false 1 [(.pointer none)] := ⟨by kernel_rfl, by kernel_rfl⟩
instance : Br Tryz.prog 186 false 1 [.nilFunc] := ⟨by kernel_rfl, by kernel_rfl⟩
instance : Br Tryz.prog 193 false 1 [.nilFunc] := ⟨by kernel_rfl, by kernel_rfl⟩
instance : Br Tryz.prog 210 false 1 [.nilFunc] := ⟨by kernel_rfl, by kernel_rfl⟩
instance : Br Tryz.prog 214 false 1 [(.pointer none)] := ⟨by kernel_rfl, by kernel_rfl⟩
instance : Br Tryz.prog 216 true 2 [(.pointer none), (.int .u32 0)] := ⟨by kernel_rfl, by kernel_rfl⟩
instance : PB Tryz.prog 216 [(0, 1), (1, 1)] := ⟨by kernel_rfl⟩
instance : Bh Tryz.prog 216 0 0 1 false := ⟨by kernel_rfl, by decide⟩
instance : Bh Tryz.prog 216 1 1 1 false := ⟨by kernel_rfl, by decide⟩
instance : Br Tryz.prog 219 true 4 [(.int .i64 0), (.int .i64 0), (.int .i64 0), (.int .i64 0)] := ⟨by kernel_rfl, by kernel_rfl⟩
instance : EE Tryz.prog 219 4 3 1 := ⟨by kernel_rfl, by kernel_rfl, by decide⟩
instance : Br Tryz.prog 225 false 1 [(.pointer none)] := ⟨by kernel_rfl, by kernel_rfl⟩
instance : Mx Tryz.prog 225 := ⟨by kernel_rfl⟩
instance : Br Tryz.prog 228 false 1 [.nilFunc] := ⟨by kernel_rfl, by kernel_rfl⟩
instance : Br Tryz.prog 230 false 1 [(.pointer none)] := ⟨by kernel_rfl, by kernel_rfl⟩
instance : Br Tryz.prog 235 false 1 [.nilFunc] := ⟨by kernel_rfl, by kernel_rfl⟩
instance : EE Tryz.prog 258 16 57 1 := ⟨by kernel_rfl, by kernel_rfl, by decide⟩
instance : Br Tryz.prog 260 true 19 [(.int .u32 0), (.int .i32 0), (.int .u32 0), (.int .u32 0), (.int .u32 0), (.int .u32 0), (.int .u32 0), (.int .u32 0), (.int .u32 0), (.int .u32 0), (.int .u32 0), (.int .u32 0), (.int .u32 0), (.int .u32 0), (.int .u32 0), (.int .u32 0), (.int .u32 0), (.int .u32 0), (.int .u32 0)] := ⟨by kernel_rfl, by kernel_rfl⟩
instance : PB Tryz.prog 260 [(0, 3), (3, 16)] := ⟨by kernel_rfl⟩
instance : Bh Tryz.prog 260 0 0 3 true := ⟨by kernel_rfl, by decide⟩
instance : Bh Tryz.prog 260 1 3 16 true := ⟨by kernel_rfl, by decide⟩
instance : Br Tryz.prog 265 true 3 [(.slice none 0 0), .nilFunc, .nilFunc] := ⟨by kernel_rfl, by kernel_rfl⟩
instance : PB Tryz.prog 265 [(0, 1), (1, 1), (2, 1)] := ⟨by kernel_rfl⟩
instance : Bh Tryz.prog 265 0 0 1 false := ⟨by kernel_rfl, by decide⟩
instance : Br Tryz.prog 266 true 27 [(.slice none 0 0), .nilFunc, .nilFunc, (.slice none 0 0), .nilFunc, .nilFunc, (.slice none 0 0), .nilFunc, .nilFunc, (.slice none 0 0), .nilFunc, .nilFunc, (.slice none 0 0), .nilFunc, .nilFunc, (.slice none 0 0), .nilFunc, .nilFunc, (.slice none 0 0), .nilFunc, .nilFunc, (.slice none 0 0), .nilFunc, .nilFunc, (.slice none 0 0), .nilFunc, .nilFunc] := ⟨by kernel_rfl, by kernel_rfl⟩
instance : EE Tryz.prog 266 9 265 3 := ⟨by kernel_rfl, by kernel_rfl, by decide⟩
instance : Br Tryz.prog 270 true 8 [(.int .u8 0), (.int .u8 0), (.int .u8 0), (.int .u8 0), (.int .u8 0), (.int .u8 0), (.int .u8 0), (.int .u8 0)] := ⟨by kernel_rfl, by kernel_rfl⟩
instance : EE Tryz.prog 270 8 5 1 := ⟨by kernel_rfl, by kernel_rfl, by decide⟩
instance : Br Tryz.prog 272 true 1 [(.slice none 0 0)] := ⟨by kernel_rfl, by kernel_rfl⟩
instance : PB Tryz.prog 272 [(0, 1)] := ⟨by kernel_rfl⟩
instance : Bh Tryz.prog 272 0 0 1 false := ⟨by kernel_rfl, by decide⟩
instance : Br Tryz.prog 274 false 1 [(.pointer none)] := ⟨by kernel_rfl, by kernel_rfl⟩
instance : Mx Tryz.prog 274 := ⟨by kernel_rfl⟩
instance : Br Tryz.prog 276 true 21 [(.pointer none), (.int .u64 0), (.int .i64 0), (.int .u64 0), (.int .i64 0), (.int .i64 0), (.int .i64 0), (.int .i64 0), (.int .i64 0), (.int .i64 0), (.int .u8 0), (.int .u8 0), (.int .u8 0), (.int .u8 0), (.int .i64 0), (.int .i64 0), (.slice none 0 0), (.int .u64 0), (.int .i64 0), (.int .u64 0), (.pointer none)] := ⟨by kernel_rfl, by kernel_rfl⟩
instance : PB Tryz.prog 276 [(0, 1), (1, 19), (20, 1)] := ⟨by kernel_rfl⟩
instance : Bh Tryz.prog 276 0 0 1 false := ⟨by kernel_rfl, by decide⟩
instance : Bh Tryz.prog 276 1 1 19 true := ⟨by kernel_rfl, by decide⟩
instance : Bh Tryz.prog 276 2 20 1 false := ⟨by kernel_rfl, by decide⟩
instance : Br Tryz.prog 277 false 1 [(.slice none 0 0)] := ⟨by kernel_rfl, by kernel_rfl⟩
instance : EU Tryz.prog 277 281 1 8 := ⟨GP.mk' (z := .nilFunc) (by kernel_rfl) (by kernel_rfl) (by kernel_rfl) (by decide)⟩
instance : Br Tryz.prog 278 true 9 [(.slice none 0 0), (.slice none 0 0), (.slice none 0 0), (.slice none 0 0), (.slice none 0 0), (.slice none 0 0), (.slice none 0 0), (.slice none 0 0), (.slice none 0 0)] := ⟨by kernel_rfl, by kernel_rfl⟩
instance : EE Tryz.prog 278 9 277 1 := ⟨by kernel_rfl, by kernel_rfl, by decide⟩
instance : Br Tryz.prog 281 false 1 [.nilFunc] := ⟨by kernel_rfl, by kernel_rfl⟩
instance : Br Tryz.prog 289 false 1 [.nilFunc] := ⟨by kernel_rfl, by kernel_rfl⟩
instance : Br Tryz.prog 301 true 1 [(.slice none 0 0)] := ⟨by kernel_rfl, by kernel_rfl⟩
instance : PB Tryz.prog 301 [(0, 1)] := ⟨by kernel_rfl⟩
instance : Bh Tryz.prog 301 0 0 1 false := ⟨by kernel_rfl, by decide⟩
instance : Br Tryz.prog 303 true 2 [(.slice none 0 0), (.int .i64 0)] := ⟨by kernel_rfl, by kernel_rfl⟩
instance : PB Tryz.prog 303 [(0, 1), (1, 1)] := ⟨by kernel_rfl⟩
instance : Bh Tryz.prog 303 0 0 1 true := ⟨by kernel_rfl, by decide⟩
instance : Bh Tryz.prog 303 1 1 1 false := ⟨by kernel_rfl, by decide⟩
instance : Br Tryz.prog 332 true 2 [(.pointer none), (.pointer none)] := ⟨by kernel_rfl, by kernel_rfl⟩
instance : EE Tryz.prog 332 2 185 1 := ⟨by kernel_rfl, by kernel_rfl, by decide⟩
instance : Br Tryz.prog 394 true 4 [(.pointer none), (.pointer none), (.pointer none), (.pointer none)] := ⟨by kernel_rfl, by kernel_rfl⟩
instance : EE Tryz.prog 394 4 149 1 := ⟨by kernel_rfl, by kernel_rfl, by decide⟩

set_option maxRecDepth 20000
set_option maxRecDepth 10000
set_option maxHeartbeats 4000000
abbrev AH (b : List UInt8) : List (List D) := b.map fun x => [.lit (vb x)]
theorem AA (b : List UInt8) : (AH b).length = b.length := List.length_map _
abbrev Ar (n : Int) : D := .lit (.int .i64 n)
abbrev AW (n : Int) : D := .lit (.int .u64 n)
abbrev CV (b : List UInt8) : D := .sl false false (AH b)
abbrev GB (e : Int) : D := .ifc 33 (Ar e)
theorem Yo {x z : UInt8} (h : (x.toNat : Int) ≠ z.toNat) : x ≠ z := fun e => h (by rw [e])
theorem ME {x z : UInt8} (h : ¬ (x.toNat : Int) ≠ z.toNat) : x = z := UInt8.toNat_inj.1 (by omega)
theorem V6 {α : Type} (f : α → List D) (l : List α) (n : Nat) : Fv none (some (min ((l.map f).length : Int) (n : Int))) (l.map f) = (l.take n).map f := by
 rw [GD]
 simp only [Option.getD_some, Option.getD_none, Int.toNat_zero, List.drop_zero, ← List.map_take, List.length_map]
 congr 1
 rw [show (min (l.length : Int) (n : Int)).toNat = min n l.length by omega]
 simp [List.take_eq_take_iff]
theorem Aau {α : Type} (f : α → List D) (l : List α) (i : Nat) : Fv (some (i : Int)) none (l.map f) = (l.drop i).map f := by
 rw [GD]; simp only [Option.getD_some, Option.getD_none, Int.toNat_natCast, List.length_map, List.map_drop]; rw [List.take_of_length_le (by simp)]
def PH {α : Type} (p : α → α → Bool) : List α → List α → Bool
 | [], [] => true
 | x :: l, y :: m => p x y && PH p l m
 | _, _ => false
theorem N5 {α : Type} {p : α → α → Bool} : ∀ {l m : List α}, l.length ≠ m.length → PH p l m = false
 | [], [], h => by simp at h
 | [], _ :: _, _ => rfl
 | _ :: _, [], _ => rfl
 | x :: l, y :: m, h => by simp only [PH, N5 (l := l) (m := m) (by simpa using h), Bool.and_false]
theorem QG {α : Type} [DecidableEq α] : ∀ {l m : List α}, PH (fun x y => decide (x = y)) l m = decide (l = m)
 | [], [] => by simp [PH]
 | [], _ :: _ => by simp [PH]
 | _ :: _, [] => by simp [PH]
 | x :: l, y :: m => by simp [PH, QG]
structure Pc where
 snap : Int
 idx : Int
 many : Int
 b : List UInt8
deriving DecidableEq

end Go.Proofs.YtbgcjnfhadhjeaaGreat