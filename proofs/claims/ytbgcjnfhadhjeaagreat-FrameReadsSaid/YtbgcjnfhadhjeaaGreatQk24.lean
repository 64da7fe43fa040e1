/- Walks by data and names, part 24: The seat's types, as the walks ask for them (made by program). Layer 21, by V: numbers, pieces. append(nil, make(n)), the cap of nothing, and an own row cut at a place. -/
import Derived.Lib.AppendZeros
import Derived.Test.YtbgcjnfhadhjeaaGreatQk11
import Derived.Test.YtbgcjnfhadhjeaaGreatQk12
import Derived.Test.YtbgcjnfhadhjeaaGreatQk23
import Derived.Test.YtbgcjnfhadhjeaaGreatQk20
namespace Go.Proofs.YtbgcjnfhadhjeaaGreat
set_option maxRecDepth 10000
instance : BE Tryz.prog 3 false 1 [(.int .i64 0)] := ⟨by kernel_rfl, by kernel_rfl⟩
instance : Jn Tryz.prog 3 .i64 := ⟨by kernel_rfl⟩
instance : BE Tryz.prog 4 false 1 [(.bool false)] := ⟨by kernel_rfl, by kernel_rfl⟩
instance : BE Tryz.prog 5 false 1 [(.int .u8 0)] := ⟨by kernel_rfl, by kernel_rfl⟩
instance : Jn Tryz.prog 5 .u8 := ⟨by kernel_rfl⟩
instance : BE Tryz.prog 9 false 1 [(.string ⟨#[]⟩)] := ⟨by kernel_rfl, by kernel_rfl⟩
instance : Mq Tryz.prog 20 := ⟨by kernel_rfl⟩
instance : BE Tryz.prog 22 false 1 [(.int .u64 0)] := ⟨by kernel_rfl, by kernel_rfl⟩
instance : Jn Tryz.prog 22 .u64 := ⟨by kernel_rfl⟩
instance : BE Tryz.prog 23 false 1 [(.slice none 0 0)] := ⟨by kernel_rfl, by kernel_rfl⟩
instance : EQ Tryz.prog 23 5 1 1 := ⟨G4.mk' (z := (.int .u8 0)) (by kernel_rfl) (by kernel_rfl) (by kernel_rfl) (by decide)⟩
instance : BE Tryz.prog 24 false 1 [(.slice none 0 0)] := ⟨by kernel_rfl, by kernel_rfl⟩
instance : EQ Tryz.prog 24 71 19 144 := ⟨G4.mk' (z := (.agg #[(.int .u64 0), (.int .i64 0), (.int .u64 0), (.int .i64 0), (.int .i64 0), (.int .i64 0), (.int .i64 0), (.int .i64 0), (.int .i64 0), (.int .u8 0), (.int .u8 0), (.int .u8 0), (.int .u8 0), (.int .i64 0), (.int .i64 0), (.slice none 0 0), (.int .u64 0), (.int .i64 0), (.int .u64 0)])) (by kernel_rfl) (by kernel_rfl) (by kernel_rfl) (by decide)⟩
instance : BE Tryz.prog 26 true 9 [(.int .u64 0), (.int .u64 0), (.int .u64 0), (.int .u64 0), (.int .u64 0), (.int .u64 0), (.int .u64 0), (.int .u64 0), (.int .u64 0)] := ⟨by kernel_rfl, by kernel_rfl⟩
instance : EP Tryz.prog 26 9 22 1 := ⟨by kernel_rfl, by kernel_rfl, by decide⟩
instance : BE Tryz.prog 28 true 30 [(.int .i64 0), (.int .u64 0), (.int .i64 0), (.int .u64 0), (.int .i64 0), (.int .i64 0), (.slice none 0 0), (.slice none 0 0), (.int .u64 0), (.int .u64 0), (.int .u64 0), (.int .u64 0), (.int .u64 0), (.int .u64 0), (.int .u64 0), (.int .u64 0), (.int .u64 0), (.int .u64 0), (.int .u64 0), (.int .u64 0), (.int .u64 0), (.int .u64 0), (.int .u64 0), (.int .u64 0), (.int .u64 0), (.int .u64 0), (.int .u64 0), (.int .u64 0), (.int .u64 0), (.int .u64 0)] := ⟨by kernel_rfl, by kernel_rfl⟩
instance : N5 Tryz.prog 28 [(0, 1), (1, 1), (2, 1), (3, 1), (4, 1), (5, 1), (6, 1), (7, 1), (8, 9), (17, 1), (18, 1), (19, 1), (20, 1), (21, 9)] := ⟨by kernel_rfl⟩
instance : Bj Tryz.prog 28 0 0 1 false := ⟨by kernel_rfl, by decide⟩
instance : Bj Tryz.prog 28 1 1 1 false := ⟨by kernel_rfl, by decide⟩
instance : Bj Tryz.prog 28 2 2 1 false := ⟨by kernel_rfl, by decide⟩
instance : Bj Tryz.prog 28 3 3 1 false := ⟨by kernel_rfl, by decide⟩
instance : Bj Tryz.prog 28 4 4 1 false := ⟨by kernel_rfl, by decide⟩
instance : Bj Tryz.prog 28 5 5 1 false := ⟨by kernel_rfl, by decide⟩
instance : Bj Tryz.prog 28 6 6 1 false := ⟨by kernel_rfl, by decide⟩
instance : Bj Tryz.prog 28 7 7 1 false := ⟨by kernel_rfl, by decide⟩
instance : Bj Tryz.prog 28 8 8 9 true := ⟨by kernel_rfl, by decide⟩
instance : Bj Tryz.prog 28 9 17 1 false := ⟨by kernel_rfl, by decide⟩
instance : Bj Tryz.prog 28 10 18 1 false := ⟨by kernel_rfl, by decide⟩
instance : Bj Tryz.prog 28 11 19 1 false := ⟨by kernel_rfl, by decide⟩
instance : Bj Tryz.prog 28 12 20 1 false := ⟨by kernel_rfl, by decide⟩
instance : Bj Tryz.prog 28 13 21 9 true := ⟨by kernel_rfl, by decide⟩
instance : EQ Tryz.prog 29 3 1 8 := ⟨G4.mk' (z := (.int .i64 0)) (by kernel_rfl) (by kernel_rfl) (by kernel_rfl) (by decide)⟩
instance : BE Tryz.prog 33 false 1 [(.int .i64 0)] := ⟨by kernel_rfl, by kernel_rfl⟩
instance : Qu Tryz.prog 33 := ⟨by kernel_rfl⟩
instance : EQ Tryz.prog 42 9 1 16 := ⟨G4.mk' (z := (.string ⟨#[]⟩)) (by kernel_rfl) (by kernel_rfl) (by kernel_rfl) (by decide)⟩
instance : BE Tryz.prog 45 false 1 [(.slice none 0 0)] := ⟨by kernel_rfl, by kernel_rfl⟩
instance : EQ Tryz.prog 45 23 1 24 := ⟨G4.mk' (z := (.slice none 0 0)) (by kernel_rfl) (by kernel_rfl) (by kernel_rfl) (by decide)⟩
instance : EQ Tryz.prog 46 28 30 272 := ⟨G4.mk' (z := (.agg #[(.int .i64 0), (.int .u64 0), (.int .i64 0), (.int .u64 0), (.int .i64 0), (.int .i64 0), (.slice none 0 0), (.slice none 0 0), (.int .u64 0), (.int .u64 0), (.int .u64 0), (.int .u64 0), (.int .u64 0), (.int .u64 0), (.int .u64 0), (.int .u64 0), (.int .u64 0), (.int .u64 0), (.int .u64 0), (.int .u64 0), (.int .u64 0), (.int .u64 0), (.int .u64 0), (.int .u64 0), (.int .u64 0), (.int .u64 0), (.int .u64 0), (.int .u64 0), (.int .u64 0), (.int .u64 0)])) (by kernel_rfl) (by kernel_rfl) (by kernel_rfl) (by decide)⟩
instance : BE Tryz.prog 57 false 1 [(.int .u32 0)] := ⟨by kernel_rfl, by kernel_rfl⟩
instance : Jn Tryz.prog 57 .u32 := ⟨by kernel_rfl⟩
instance : BE Tryz.prog 64 true 3 [(.int .u64 0), (.int .i64 0), (.int .u64 0)] := ⟨by kernel_rfl, by kernel_rfl⟩
instance : N5 Tryz.prog 64 [(0, 1), (1, 1), (2, 1)] := ⟨by kernel_rfl⟩
instance : Kb Tryz.prog 64 3 := ⟨by kernel_rfl, by kernel_rfl, by kernel_rfl, by kernel_rfl, by kernel_rfl⟩
instance : Bj Tryz.prog 64 0 0 1 false := ⟨by kernel_rfl, by decide⟩
instance : Bj Tryz.prog 64 1 1 1 false := ⟨by kernel_rfl, by decide⟩
instance : Bj Tryz.prog 64 2 2 1 false := ⟨by kernel_rfl, by decide⟩
instance : BE Tryz.prog 66 true 4 [(.int .u8 0), (.int .u8 0), (.int .u8 0), (.int .u8 0)] := ⟨by kernel_rfl, by kernel_rfl⟩
instance : N5 Tryz.prog 66 [(0, 1), (1, 1), (2, 1), (3, 1)] := ⟨by kernel_rfl⟩
instance : Kb Tryz.prog 66 4 := ⟨by kernel_rfl, by kernel_rfl, by kernel_rfl, by kernel_rfl, by kernel_rfl⟩
instance : Bj Tryz.prog 66 0 0 1 false := ⟨by kernel_rfl, by decide⟩
instance : Bj Tryz.prog 66 1 1 1 false := ⟨by kernel_rfl, by decide⟩
instance : Bj Tryz.prog 66 2 2 1 false := ⟨by kernel_rfl, by decide⟩
instance : Bj Tryz.prog 66 3 3 1 false := ⟨by kernel_rfl, by decide⟩
instance : BE Tryz.prog 67 false 1 [(.slice none 0 0)] := ⟨by kernel_rfl, by kernel_rfl⟩
instance : EQ Tryz.prog 67 66 4 4 := ⟨G4.mk' (z := (.agg #[(.int .u8 0), (.int .u8 0), (.int .u8 0), (.int .u8 0)])) (by kernel_rfl) (by kernel_rfl) (by kernel_rfl) (by decide)⟩
instance : BE Tryz.prog 69 true 3 [(.int .i64 0), (.int .i64 0), (.slice none 0 0)] := ⟨by kernel_rfl, by kernel_rfl⟩
instance : N5 Tryz.prog 69 [(0, 1), (1, 1), (2, 1)] := ⟨by kernel_rfl⟩
instance : Bj Tryz.prog 69 0 0 1 false := ⟨by kernel_rfl, by decide⟩
instance : Bj Tryz.prog 69 1 1 1 false := ⟨by kernel_rfl, by decide⟩
instance : Bj Tryz.prog 69 2 2 1 false := ⟨by kernel_rfl, by decide⟩
instance : BE Tryz.prog 71 true 19 [(.int .u64 0), (.int .i64 0), (.int .u64 0), (.int .i64 0), (.int .i64 0), (.int .i64 0), (.int .i64 0), (.int .i64 0), (.int .i64 0), (.int .u8 0), (.int .u8 0), (.int .u8 0), (.int .u8 0), (.int .i64 0), (.int .i64 0), (.slice none 0 0), (.int .u64 0), (.int .i64 0), (.int .u64 0)] := ⟨by kernel_rfl, by kernel_rfl⟩
instance : N5 Tryz.prog 71 [(0, 3), (3, 1), (4, 1), (5, 1), (6, 1), (7, 1), (8, 1), (9, 4), (13, 3), (16, 3)] := ⟨by kernel_rfl⟩
instance : Bj Tryz.prog 71 0 0 3 true := ⟨by kernel_rfl, by decide⟩
instance : Bj Tryz.prog 71 1 3 1 false := ⟨by kernel_rfl, by decide⟩
instance : Bj Tryz.prog 71 2 4 1 false := ⟨by kernel_rfl, by decide⟩
instance : Bj Tryz.prog 71 3 5 1 false := ⟨by kernel_rfl, by decide⟩
instance : Bj Tryz.prog 71 4 6 1 false := ⟨by kernel_rfl, by decide⟩
instance : Bj Tryz.prog 71 5 7 1 false := ⟨by kernel_rfl, by decide⟩
instance : Bj Tryz.prog 71 6 8 1 false := ⟨by kernel_rfl, by decide⟩
instance : Bj Tryz.prog 71 7 9 4 true := ⟨by kernel_rfl, by decide⟩
instance : Bj Tryz.prog 71 8 13 3 true := ⟨by kernel_rfl, by decide⟩
instance : Bj Tryz.prog 71 9 16 3 true := ⟨by kernel_rfl, by decide⟩
instance : EQ Tryz.prog 73 22 1 8 := ⟨G4.mk' (z := (.int .u64 0)) (by kernel_rfl) (by kernel_rfl) (by kernel_rfl) (by decide)⟩
instance : BE Tryz.prog 74 false 1 [.nilFunc] := ⟨by kernel_rfl, by kernel_rfl⟩
instance : BE Tryz.prog 77 false 1 [.nilFunc] := ⟨by kernel_rfl, by kernel_rfl⟩
instance : EQ Tryz.prog 80 26 9 72 := ⟨G4.mk' (z := (.agg #[(.int .u64 0), (.int .u64 0), (.int .u64 0), (.int .u64 0), (.int .u64 0), (.int .u64 0), (.int .u64 0), (.int .u64 0), (.int .u64 0)])) (by kernel_rfl) (by kernel_rfl) (by kernel_rfl) (by decide)⟩
instance : BE Tryz.prog 82 false 1 [(.slice none 0 0)] := ⟨by kernel_rfl, by kernel_rfl⟩
instance : EQ Tryz.prog 82 64 3 24 := ⟨G4.mk' (z := (.agg #[(.int .u64 0), (.int .i64 0), (.int .u64 0)])) (by kernel_rfl) (by kernel_rfl) (by kernel_rfl) (by decide)⟩
instance : BE Tryz.prog 84 false 1 [.nilFunc] := ⟨by kernel_rfl, by kernel_rfl⟩
instance : BE Tryz.prog 93 false 1 [.nilFunc] := ⟨by kernel_rfl, by kernel_rfl⟩
instance : BE Tryz.prog 94 false 1 [.nilFunc] := ⟨by kernel_rfl, by kernel_rfl⟩
instance : BE Tryz.prog 96 true 3 [(.string ⟨#[]⟩), .nilFunc, .nilFunc] := ⟨by kernel_rfl, by kernel_rfl⟩
instance : N5 Tryz.prog 96 [(0, 1), (1, 1), (2, 1)] := ⟨by kernel_rfl⟩
instance : Bj Tryz.prog 96 0 0 1 false := ⟨by kernel_rfl, by decide⟩
instance : Bj Tryz.prog 96 1 1 1 false := ⟨by kernel_rfl, by decide⟩
instance : Bj Tryz.prog 96 2 2 1 false := ⟨by kernel_rfl, by decide⟩
instance : BE Tryz.prog 99 true 2 [(.string ⟨#[]⟩), (.slice none 0 0)] := ⟨by kernel_rfl, by kernel_rfl⟩
instance : N5 Tryz.prog 99 [(0, 1), (1, 1)] := ⟨by kernel_rfl⟩
instance : Bj Tryz.prog 99 0 0 1 false := ⟨by kernel_rfl, by decide⟩
instance : Bj Tryz.prog 99 1 1 1 false := ⟨by kernel_rfl, by decide⟩
instance : BE Tryz.prog 111 true 0 [] := ⟨by kernel_rfl, by kernel_rfl⟩
instance : Qu Tryz.prog 111 := ⟨by kernel_rfl⟩
instance : BE Tryz.prog 113 false 1 [(.pointer none)] := ⟨by kernel_rfl, by kernel_rfl⟩
instance : BE Tryz.prog 115 true 31 [(.int .i64 0), (.int .u64 0), (.int .i64 0), (.int .u64 0), (.int .i64 0), (.int .i64 0), (.slice none 0 0), (.slice none 0 0), (.int .u64 0), (.int .u64 0), (.int .u64 0), (.int .u64 0), (.int .u64 0), (.int .u64 0), (.int .u64 0), (.int .u64 0), (.int .u64 0), (.int .u64 0), (.int .u64 0), (.int .u64 0), (.int .u64 0), (.int .u64 0), (.int .u64 0), (.int .u64 0), (.int .u64 0), (.int .u64 0), (.int .u64 0), (.int .u64 0), (.int .u64 0), (.int .u64 0), (.slice none 0 0)] := ⟨by kernel_rfl, by kernel_rfl⟩
instance : N5 Tryz.prog 115 [(0, 30), (30, 1)] := ⟨by kernel_rfl⟩
instance : Bj Tryz.prog 115 0 0 30 true := ⟨by kernel_rfl, by decide⟩
instance : Bj Tryz.prog 115 1 30 1 false := ⟨by kernel_rfl, by decide⟩
instance : BE Tryz.prog 120 true 4 [(.int .u8 0), (.int .u8 0), (.int .u8 0), (.int .u8 0)] := ⟨by kernel_rfl, by kernel_rfl⟩
instance : EP Tryz.prog 120 4 5 1 := ⟨by kernel_rfl, by kernel_rfl, by decide⟩
instance : BE Tryz.prog 124 false 1 [.nilFunc] := ⟨by kernel_rfl, by kernel_rfl⟩
instance : BE Tryz.prog 127 false 1 [(.pointer none)] := ⟨by kernel_rfl, by kernel_rfl⟩
instance : BE Tryz.prog 129 true 9 [(.int .u64 0), (.int .u64 0), (.int .u64 0), (.int .u64 0), (.int .u64 0), (.int .u64 0), (.int .u64 0), (.int .u64 0), (.int .u64 0)] := ⟨by kernel_rfl, by kernel_rfl⟩
instance : N5 Tryz.prog 129 [(0, 9)] := ⟨by kernel_rfl⟩
instance : Bj Tryz.prog 129 0 0 9 true := ⟨by kernel_rfl, by decide⟩
instance : BE Tryz.prog 135 true 2 [(.int .i64 0), (.int .i64 0)] := ⟨by kernel_rfl, by kernel_rfl⟩
instance : N5 Tryz.prog 135 [(0, 1), (1, 1)] := ⟨by kernel_rfl⟩
instance : Kb Tryz.prog 135 2 := ⟨by kernel_rfl, by kernel_rfl, by kernel_rfl, by kernel_rfl, by kernel_rfl⟩
instance : EQ Tryz.prog 139 96 3 32 := ⟨G4.mk' (z := (.agg #[(.string ⟨#[]⟩), .nilFunc, .nilFunc])) (by kernel_rfl) (by kernel_rfl) (by kernel_rfl) (by decide)⟩
instance : BE Tryz.prog 147 true 12 [(.string ⟨#[]⟩), (.slice none 0 0), (.string ⟨#[]⟩), (.slice none 0 0), (.string ⟨#[]⟩), (.slice none 0 0), (.string ⟨#[]⟩), (.slice none 0 0), (.string ⟨#[]⟩), (.slice none 0 0), (.string ⟨#[]⟩), (.slice none 0 0)] := ⟨by kernel_rfl, by kernel_rfl⟩
instance : EP Tryz.prog 147 6 99 2 := ⟨by kernel_rfl, by kernel_rfl, by decide⟩
instance : BE Tryz.prog 149 false 1 [(.pointer none)] := ⟨by kernel_rfl, by kernel_rfl⟩
instance : BE Tryz.prog 183 false 1 [.nilFunc] := ⟨by kernel_rfl, by kernel_rfl⟩
instance : BE Tryz.prog 185 false 1 [(.pointer none)] := ⟨by kernel_rfl, by kernel_rfl⟩
instance : BE Tryz.prog 186 false 1 [.nilFunc] := ⟨by kernel_rfl, by kernel_rfl⟩
instance : BE Tryz.prog 193 false 1 [.nilFunc] := ⟨by kernel_rfl, by kernel_rfl⟩
instance : BE Tryz.prog 210 false 1 [.nilFunc] := ⟨by kernel_rfl, by kernel_rfl⟩
instance : BE Tryz.prog 214 false 1 [(.pointer none)] := ⟨by kernel_rfl, by kernel_rfl⟩
instance : BE Tryz.prog 216 true 2 [(.pointer none), (.int .u32 0)] := ⟨by kernel_rfl, by kernel_rfl⟩
instance : N5 Tryz.prog 216 [(0, 1), (1, 1)] := ⟨by kernel_rfl⟩
instance : Bj Tryz.prog 216 0 0 1 false := ⟨by kernel_rfl, by decide⟩
instance : Bj Tryz.prog 216 1 1 1 false := ⟨by kernel_rfl, by decide⟩
instance : BE Tryz.prog 219 true 4 [(.int .i64 0), (.int .i64 0), (.int .i64 0), (.int .i64 0)] := ⟨by kernel_rfl, by kernel_rfl⟩
instance : EP Tryz.prog 219 4 3 1 := ⟨by kernel_rfl, by kernel_rfl, by decide⟩
instance : BE Tryz.prog 225 false 1 [(.pointer none)] := ⟨by kernel_rfl, by kernel_rfl⟩
instance : Mp Tryz.prog 225 := ⟨by kernel_rfl⟩
instance : BE Tryz.prog 228 false 1 [.nilFunc] := ⟨by kernel_rfl, by kernel_rfl⟩
instance : BE Tryz.prog 230 false 1 [(.pointer none)] := ⟨by kernel_rfl, by kernel_rfl⟩
instance : BE Tryz.prog 235 false 1 [.nilFunc] := ⟨by kernel_rfl, by kernel_rfl⟩
instance : EP Tryz.prog 258 16 57 1 := ⟨by kernel_rfl, by kernel_rfl, by decide⟩
instance : BE Tryz.prog 260 true 19 [(.int .u32 0), (.int .i32 0), (.int .u32 0), (.int .u32 0), (.int .u32 0), (.int .u32 0), (.int .u32 0), (.int .u32 0), (.int .u32 0), (.int .u32 0), (.int .u32 0), (.int .u32 0), (.int .u32 0), (.int .u32 0), (.int .u32 0), (.int .u32 0), (.int .u32 0), (.int .u32 0), (.int .u32 0)] := ⟨by kernel_rfl, by kernel_rfl⟩
instance : N5 Tryz.prog 260 [(0, 3), (3, 16)] := ⟨by kernel_rfl⟩
instance : Bj Tryz.prog 260 0 0 3 true := ⟨by kernel_rfl, by decide⟩
instance : Bj Tryz.prog 260 1 3 16 true := ⟨by kernel_rfl, by decide⟩
instance : BE Tryz.prog 265 true 3 [(.slice none 0 0), .nilFunc, .nilFunc] := ⟨by kernel_rfl, by kernel_rfl⟩
instance : N5 Tryz.prog 265 [(0, 1), (1, 1), (2, 1)] := ⟨by kernel_rfl⟩
instance : Bj Tryz.prog 265 0 0 1 false := ⟨by kernel_rfl, by decide⟩
instance : BE Tryz.prog 266 true 27 [(.slice none 0 0), .nilFunc, .nilFunc, (.slice none 0 0), .nilFunc, .nilFunc, (.slice none 0 0), .nilFunc, .nilFunc, (.slice none 0 0), .nilFunc, .nilFunc, (.slice none 0 0), .nilFunc, .nilFunc, (.slice none 0 0), .nilFunc, .nilFunc, (.slice none 0 0), .nilFunc, .nilFunc, (.slice none 0 0), .nilFunc, .nilFunc, (.slice none 0 0), .nilFunc, .nilFunc] := ⟨by kernel_rfl, by kernel_rfl⟩
instance : EP Tryz.prog 266 9 265 3 := ⟨by kernel_rfl, by kernel_rfl, by decide⟩
instance : BE Tryz.prog 270 true 8 [(.int .u8 0), (.int .u8 0), (.int .u8 0), (.int .u8 0), (.int .u8 0), (.int .u8 0), (.int .u8 0), (.int .u8 0)] := ⟨by kernel_rfl, by kernel_rfl⟩
instance : EP Tryz.prog 270 8 5 1 := ⟨by kernel_rfl, by kernel_rfl, by decide⟩
instance : BE Tryz.prog 272 true 1 [(.slice none 0 0)] := ⟨by kernel_rfl, by kernel_rfl⟩
instance : N5 Tryz.prog 272 [(0, 1)] := ⟨by kernel_rfl⟩
instance : Bj Tryz.prog 272 0 0 1 false := ⟨by kernel_rfl, by decide⟩
instance : BE Tryz.prog 274 false 1 [(.pointer none)] := ⟨by kernel_rfl, by kernel_rfl⟩
instance : Mp Tryz.prog 274 := ⟨by kernel_rfl⟩
instance : BE Tryz.prog 276 true 21 [(.pointer none), (.int .u64 0), (.int .i64 0), (.int .u64 0), (.int .i64 0), (.int .i64 0), (.int .i64 0), (.int .i64 0), (.int .i64 0), (.int .i64 0), (.int .u8 0), (.int .u8 0), (.int .u8 0), (.int .u8 0), (.int .i64 0), (.int .i64 0), (.slice none 0 0), (.int .u64 0), (.int .i64 0), (.int .u64 0), (.pointer none)] := ⟨by kernel_rfl, by kernel_rfl⟩
instance : N5 Tryz.prog 276 [(0, 1), (1, 19), (20, 1)] := ⟨by kernel_rfl⟩
instance : Bj Tryz.prog 276 0 0 1 false := ⟨by kernel_rfl, by decide⟩
instance : Bj Tryz.prog 276 1 1 19 true := ⟨by kernel_rfl, by decide⟩
instance : Bj Tryz.prog 276 2 20 1 false := ⟨by kernel_rfl, by decide⟩
instance : BE Tryz.prog 277 false 1 [(.slice none 0 0)] := ⟨by kernel_rfl, by kernel_rfl⟩
instance : EQ Tryz.prog 277 281 1 8 := ⟨G4.mk' (z := .nilFunc) (by kernel_rfl) (by kernel_rfl) (by kernel_rfl) (by decide)⟩
instance : BE Tryz.prog 278 true 9 [(.slice none 0 0), (.slice none 0 0), (.slice none 0 0), (.slice none 0 0), (.slice none 0 0), (.slice none 0 0), (.slice none 0 0), (.slice none 0 0), (.slice none 0 0)] := ⟨by kernel_rfl, by kernel_rfl⟩
instance : EP Tryz.prog 278 9 277 1 := ⟨by kernel_rfl, by kernel_rfl, by decide⟩
instance : BE Tryz.prog 281 false 1 [.nilFunc] := ⟨by kernel_rfl, by kernel_rfl⟩
instance : BE Tryz.prog 289 false 1 [.nilFunc] := ⟨by kernel_rfl, by kernel_rfl⟩
instance : BE Tryz.prog 301 true 1 [(.slice none 0 0)] := ⟨by kernel_rfl, by kernel_rfl⟩
instance : N5 Tryz.prog 301 [(0, 1)] := ⟨by kernel_rfl⟩
instance : Bj Tryz.prog 301 0 0 1 false := ⟨by kernel_rfl, by decide⟩
instance : BE Tryz.prog 303 true 2 [(.slice none 0 0), (.int .i64 0)] := ⟨by kernel_rfl, by kernel_rfl⟩
instance : N5 Tryz.prog 303 [(0, 1), (1, 1)] := ⟨by kernel_rfl⟩
instance : Bj Tryz.prog 303 0 0 1 true := ⟨by kernel_rfl, by decide⟩
instance : Bj Tryz.prog 303 1 1 1 false := ⟨by kernel_rfl, by decide⟩
instance : BE Tryz.prog 332 true 2 [(.pointer none), (.pointer none)] := ⟨by kernel_rfl, by kernel_rfl⟩
instance : EP Tryz.prog 332 2 185 1 := ⟨by kernel_rfl, by kernel_rfl, by decide⟩
instance : BE Tryz.prog 394 true 4 [(.pointer none), (.pointer none), (.pointer none), (.pointer none)] := ⟨by kernel_rfl, by kernel_rfl⟩
instance : EP Tryz.prog 394 4 149 1 := ⟨by kernel_rfl, by kernel_rfl, by decide⟩

set_option maxRecDepth 20000
open Go.RowKit
set_option maxRecDepth 10000
set_option maxHeartbeats 4000000
abbrev AG (b : List UInt8) : List (List D) := b.map fun x => [.lit (vb x)]
theorem Av (b : List UInt8) : (AG b).length = b.length := List.length_map _
abbrev An (n : Int) : D := .lit (.int .i64 n)
abbrev AK (n : Int) : D := .lit (.int .u64 n)
abbrev BD (b : List UInt8) : D := .sl false false (AG b)
abbrev GM (e : Int) : D := .ifc 33 (An e)
theorem Yt {x z : UInt8} (h : (x.toNat : Int) ≠ z.toNat) : x ≠ z := fun e => h (by rw [e])
theorem Ig {x z : UInt8} (h : ¬ (x.toNat : Int) ≠ z.toNat) : x = z := UInt8.toNat_inj.1 (by omega)
theorem Acw {α : Type} (f : α → List D) (l : List α) (n : Nat) : CP none (some (min ((l.map f).length : Int) (n : Int))) (l.map f) = (l.take n).map f := by
 rw [DK]
 simp only [Option.getD_some, Option.getD_none, Int.toNat_zero, List.drop_zero, ← List.map_take, List.length_map]
 congr 1
 rw [show (min (l.length : Int) (n : Int)).toNat = min n l.length by omega]
 simp [List.take_eq_take_iff]
theorem Pm {α : Type} (f : α → List D) (l : List α) (i j : Nat) : CP (some (i : Int)) (some (j : Int)) (l.map f) = ((l.take j).drop i).map f := by
 rw [DK]; simp [List.map_take, List.map_drop]
theorem AaN {α : Type} (f : α → List D) (l : List α) (i : Nat) : CP (some (i : Int)) none (l.map f) = (l.drop i).map f := by
 rw [DK]; simp only [Option.getD_some, Option.getD_none, Int.toNat_natCast, List.length_map, List.map_drop]; rw [List.take_of_length_le (by simp)]
def MZ {α : Type} (p : α → α → Bool) : List α → List α → Bool
 | [], [] => true
 | x :: l, y :: m => p x y && MZ p l m
 | _, _ => false
theorem KC {α : Type} {p : α → α → Bool} : ∀ {l m : List α}, l.length ≠ m.length → MZ p l m = false
 | [], [], h => by simp at h
 | [], _ :: _, _ => rfl
 | _ :: _, [], _ => rfl
 | x :: l, y :: m, h => by simp only [MZ, KC (l := l) (m := m) (by simpa using h), Bool.and_false]
theorem NR {α : Type} [DecidableEq α] : ∀ {l m : List α}, MZ (fun x y => decide (x = y)) l m = decide (l = m)
 | [], [] => by simp [MZ]
 | [], _ :: _ => by simp [MZ]
 | _ :: _, [] => by simp [MZ]
 | x :: l, y :: m => by simp [MZ, NR]
structure Pc where
 snap : Int
 idx : Int
 many : Int
 b : List UInt8
deriving DecidableEq

set_option maxRecDepth 20000
section
variable {P : Program} {cx : Cx} {s : St}
theorem KX {w : World} {n : Nat} {k1 : IntKind} {lo : Int} (h0 : 0 ≤ lo) (h1 : lo ≤ n) (_ : n ≤ 9223372036854775807) : (Instr.sliceBounds false n n (some (.int k1 lo)) none none).run P w = .ok (lo.toNat, n, n) w := by
 have h : ¬ ((n : Int) < lo) := by omega
 have h2 : ¬ (lo < 0) := by omega
 simp_all [Instr.sliceBounds, Instr.sliceBound, asIntOf]
theorem PH {P : Program} {w : World} (n : Nat) {t : TypeId} [hT : Mp P t] {a : Option Addr} : (Op.equalIn (n + 1) t (.pointer a) (.pointer none)).run P w = .ok a.isNone w := by
 obtain ⟨d, h1, h2⟩ := Option.map_eq_some_iff.1 hT.und
 cases d <;> simp [AbQ] at h2
 cases a <;> simp [Op.equalIn, run_underlying h1]
theorem OD {P : Program} {w : World} {t : TypeId} [hT : Mp P t] {a : Option Addr} : (Op.equal t (.pointer a) (.pointer none)).run P w = .ok a.isNone w := PH 9999
def JZ : V → Option Bool
 | .ptr _ _ => some false
 | .d (.lit (.pointer none)) => some true
 | .ep _ => some false
 | .d (.pt _) => some false
 | _ => none
theorem ML {B : Nat} {g : G} {w : World} {v : V} {b : Bool} {u : Value} (h : JZ v = some b) (hu : vrep B g w v u) : ∃ a : Option Addr, u = .pointer a ∧ a.isNone = b := by
 unfold JZ at h
 split at h
 ·simp only [vrep] at hu; obtain ⟨c, _, rfl⟩ := hu; cases h; exact ⟨_, rfl, rfl⟩
 ·simp only [vrep, drep] at hu; subst hu; cases h; exact ⟨_, rfl, rfl⟩
 ·simp only [vrep] at hu; obtain ⟨b, o, cs, rfl, _⟩ := hu; cases h; exact ⟨_, rfl, rfl⟩
 ·simp only [vrep, drep] at hu; obtain ⟨b, o, cs, rfl, _⟩ := hu; cases h; exact ⟨_, rfl, rfl⟩
 ·cases h
theorem ZW {t yt ty : TypeId} {x : Operand} {v : V} {b : Bool} [hT : Mp P t] (hx : Af s x = some v) (hv : JZ v = some b) : Bq P cx (.binOp .eql t x (.const (.pointer none)) yt) ty s (.d (.lit (.bool b))) := fun g ac w hS => by
 obtain ⟨a, h1, h2⟩ := ML hv (hS.eval hx)
 refine ⟨.bool b, ?_, by simp only [vrep, drep]⟩
 have hc : ac.eval (.const (.pointer none)) = .pointer none := rfl
 simp [execOp, h1, hc, eqGuard, binOp, OD, h2]
theorem ZQ {t yt ty : TypeId} {x : Operand} {v : V} {b : Bool} [hT : Mp P t] (hx : Af s x = some v) (hv : JZ v = some b) : Bq P cx (.binOp .neq t x (.const (.pointer none)) yt) ty s (.d (.lit (.bool (!b)))) := fun g ac w hS => by
 obtain ⟨a, h1, h2⟩ := ML hv (hS.eval hx)
 refine ⟨.bool (!b), ?_, by simp only [vrep, drep]⟩
 have hc : ac.eval (.const (.pointer none)) = .pointer none := rfl
 simp [execOp, h1, hc, eqGuard, binOp, OD, h2]
theorem Xl {t ty e : TypeId} {x y : Operand} {k1 k2 : IntKind} {n c : Int} {ag : Bool} {sz by_ k : Nat} {z : List Value} {tm : List (Nat × V)} {st : List E} [hE : EQ P t e sz by_] [hT : BE P e ag sz z] (hx : Af ⟨tm, st, 0⟩ x = some (I k1 n)) (hy : Af ⟨tm, st, 0⟩ y = some (I k2 c)) (h0 : 0 ≤ n) (hc : n ≤ c) (hb : c * (by_ : Int) ≤ 140737488355328) (hp : 0 < by_) (hz : z.all (·.oneCell') = true) :
  Qs P cx (.makeSlice t x y) ty tm st (.row k 0) k (.r true true k 0 e sz (List.replicate n.toNat (z.map .lit))) := fun nb g a w hk hf hS => by
 have hx : Af ⟨tm, st, nb⟩ x = some (I k1 n) := by cases x <;> exact hx
 have hy : Af ⟨tm, st, nb⟩ y = some (I k2 c) := by cases y <;> exact hy
 have hx' := hS.eval hx
 have hy' := hS.eval hy
 simp only [vrep, drep] at hx' hy'
 obtain ⟨i, zv, e1, e2, e3, e4⟩ := hT.size
 obtain ⟨i', z', q1, q2, q3, q4, q5⟩ := hE.elem.info
 rw [e1] at q1; cases q1
 rw [e3] at q2; cases q2
 have hnb : c.toNat * by_ ≤ 140737488355328 := by
  have : ((c.toNat * by_ : Nat) : Int) = c * by_ := by rw [Int.natCast_mul, Int.toNat_of_nonneg (by omega)]
  omega
 have hn1 : c.toNat ≤ 140737488355328 := Nat.le_trans (Nat.le_mul_of_pos_right _ hp) hnb
 have hrun := run_make (P := P) w t e i zv hE.elem.und e1 e3 k1 k2 n c h0 hc (by
  rw [q4]
  have : ((c.toNat * by_ : Nat) : Int) = c * by_ := by rw [Int.natCast_mul, Int.toNat_of_nonneg (by omega)]
  rw [Int.mul_comm]; omega) (by omega)
 rw [e2] at hrun
 have hzp : 0 < zv.cells.size := by rw [q5]; exact hE.elem.pos
 have hcells : (madeCells zv.cells (c.toNat * sz)).toList = (List.replicate c.toNat z).flatten := by rw [← q5, Iw _ hzp, e4]
 have hzl : z.length = sz := by rw [← e4, ← q5]; simp
 have hfl : ((List.replicate n.toNat z).flatten).length = n.toNat * sz := by simp [hzl]
 have hrep : List.replicate c.toNat z = List.replicate n.toNat z ++ List.replicate (c.toNat - n.toNat) z := by rw [List.replicate_append_replicate]; congr 1; omega
 have hown : (w.alloc (.cells (madeCells zv.cells (c.toNat * sz)) e)).ownsRow w.heap.size e sz (.slice (some ⟨w.heap.size, 0, none⟩) n.toNat c.toNat) (List.replicate n.toNat (z.map D.lit)).length (List.replicate n.toNat z).flatten := by
  rw [List.length_replicate]
  refine ⟨hfl, .inr ⟨w.heap.size, c.toNat, _, rfl, Nat.le_refl _, heap_alloc_new w _, by omega, by unfold maxLen; omega, size_madeCells _ _, ?_⟩⟩
  rw [hcells, hrep, List.flatten_append, ← hfl, List.take_left]
 have hd : dreps cx.B (fun b => g.prot b ∧ some b ≠ (Value.slice (some ⟨w.heap.size, 0, none⟩) n.toNat c.toNat).ownBlock) (w.alloc (.cells (madeCells zv.cells (c.toNat * sz)) e)) (z.map .lit) z := H4
 obtain ⟨m1, m2, m3, m4⟩ := Ea hS.inv hf hk (w' := w.alloc (.cells (madeCells zv.cells (c.toNat * sz)) e)) ⟨rfl, rfl, rfl, by simp, fun k hk => Below.heap_alloc w _ k hk⟩ (e := e) (sz := sz) (Ev hd n.toNat)
  ⟨fun x hx => by rw [List.eq_of_mem_replicate hx]; simp [hzl], fun u hu => by
   obtain ⟨l, hl, hu⟩ := List.mem_flatten.1 hu
   rw [List.eq_of_mem_replicate hl] at hu
   exact List.all_eq_true.1 hz u hu⟩ hown
 exact ⟨_, _, _, by simp [execOp, hx', hy', hrun], m1, m2, m3, m4⟩
theorem Sn {t ty e : TypeId} {x y : Operand} {k off n sz : Nat} {k1 : IntKind} {lo : Int} [hA : EP P t n e sz] (hx : Af s x = some (.ptr k off)) (hy : Af s y = some (I k1 lo)) (h0 : 0 ≤ lo) (h1 : lo < n) (hn : Nat.ble n 9223372036854775807 = true) :
  Bq P cx (.slice t x (some y) none none) ty s (.sv k (off + lo.toNat * sz) (n - lo.toNat) (n - lo.toNat) sz) := fun g a w hS => by
 have h := hS.eval hx
 have hy := hS.eval hy
 simp only [vrep, drep] at h hy
 obtain ⟨b, hb, hu⟩ := h
 have hn := Nat.le_of_ble_eq_true hn
 refine ⟨.slice (some ⟨b, off + lo.toNat * sz, none⟩) (n - lo.toNat) (n - lo.toNat), ?_, by simp only [vrep]; exact ⟨b, hb, rfl, Nat.le_refl _, by unfold maxLen; omega⟩⟩
 obtain ⟨q1, i, q2, q3⟩ := hA.get
 have hs : (sizeOf e).run P w = .ok sz w := by simp [sizeOf, typeInfo, q2, q3]
 have hbd := KX (P := P) (w := w) (n := n) (k1 := k1) (lo := lo) h0 (by omega) hn
 have hne : ¬ (n = lo.toNat) := by omega
 have ha : (⟨b, off, none⟩ : Addr).add (lo.toNat * sz) = ⟨b, off + lo.toNat * sz, none⟩ := by unfold Addr.add; split <;> simp_all
 simp [execOp, hu, hy, Instr.sliceAt, run_underlying q1, Instr.sureAddr, hbd, hs, ha, hne]
end
section
variable {P : Program} {cx : Cx} {tm : List (Nat × V)} {st : List E} {nb : Nat} {Q : VE → St → Prop} {ops rest : List Oper}
theorem Ar {d : Tmp} {x : Operand} {t yt ty : TypeId} {v : V} {b : Bool} {pos : String} {af : Array Edge} {gd : Option (Nat × Bool)} [hT : Mp P t] (k : VL P cx ops rest ⟨(d, .d (.lit (.bool b))) :: tm, st, nb⟩ Q) (hx : Af ⟨tm, st, nb⟩ x = some v := by rfl) (hv : JZ v = some b := by rfl) (hd : Nat.blt d cx.N = true := by rfl)
  (hw : Wd ops tm gd := by first | exact trivial | exact A1 rfl rfl (by with_reducible rfl)) : VL P cx ops (⟨some d, .binOp .eql t x (.const (.pointer none)) yt, ty, pos, af, gd⟩ :: rest) ⟨tm, st, nb⟩ Q := H7 k (IM (h := ZW hx hv) (hd := hd) (hw := hw))
theorem Bg {d : Tmp} {x : Operand} {t yt ty : TypeId} {v : V} {b : Bool} {pos : String} {af : Array Edge} {gd : Option (Nat × Bool)} [hT : Mp P t] (k : VL P cx ops rest ⟨(d, .d (.lit (.bool (!b)))) :: tm, st, nb⟩ Q) (hx : Af ⟨tm, st, nb⟩ x = some v := by rfl) (hv : JZ v = some b := by rfl) (hd : Nat.blt d cx.N = true := by rfl)
  (hw : Wd ops tm gd := by first | exact trivial | exact A1 rfl rfl (by with_reducible rfl)) : VL P cx ops (⟨some d, .binOp .neq t x (.const (.pointer none)) yt, ty, pos, af, gd⟩ :: rest) ⟨tm, st, nb⟩ Q := H7 k (IM (h := ZQ hx hv) (hd := hd) (hw := hw))
theorem Oe {d : Tmp} {t ty e : TypeId} {x y : Operand} {k1 k2 : IntKind} {n c : Int} {ag : Bool} {sz by_ : Nat} {z : List Value} {pos : String} {af : Array Edge} [hE : EQ P t e sz by_] [hT : BE P e ag sz z]
  (k : VL P cx ops rest ⟨(d, .row nb 0) :: tm, .r true true nb 0 e sz (List.replicate n.toNat (z.map .lit)) :: st, nb + 1⟩ Q) (hx : Af ⟨tm, st, 0⟩ x = some (I k1 n) := by rfl) (hy : Af ⟨tm, st, 0⟩ y = some (I k2 c) := by rfl)
  (h0 : 0 ≤ n := by omega) (hc : n ≤ c := by omega) (hb : c * (by_ : Int) ≤ 140737488355328 := by omega) (hp : 0 < by_ := by decide) (hz : z.all (·.oneCell') = true := by rfl) (hd : Nat.blt d cx.N = true := by rfl) :
  VL P cx ops (⟨some d, .makeSlice t x y, ty, pos, af, none⟩ :: rest) ⟨tm, st, nb⟩ Q := H7 k (TM (h := Xl hx hy h0 hc hb hp hz) (hd := hd))
theorem AZ {d : Tmp} {t ty e : TypeId} {x y : Operand} {kk off n sz : Nat} {k1 : IntKind} {lo : Int} {pos : String} {af : Array Edge} [hA : EP P t n e sz]
  (k : VL P cx ops rest ⟨(d, .sv kk (off + lo.toNat * sz) (n - lo.toNat) (n - lo.toNat) sz) :: tm, st, nb⟩ Q) (hx : Af ⟨tm, st, nb⟩ x = some (.ptr kk off) := by rfl) (hy : Af ⟨tm, st, nb⟩ y = some (I k1 lo) := by rfl)
  (h0 : 0 ≤ lo := by omega) (h1 : lo < n := by omega) (hn : Nat.ble n 9223372036854775807 = true := by rfl) (hd : Nat.blt d cx.N = true := by rfl) :
  VL P cx ops (⟨some d, .slice t x (some y) none none, ty, pos, af, none⟩ :: rest) ⟨tm, st, nb⟩ Q := H7 k (IM (h := Sn hx hy h0 h1 hn) (hd := hd))
end

set_option maxRecDepth 10000
theorem RI (a b : List UInt8) : VP Tryz.prog 16 [BD a, BD b] (· = .ret (.lit (.bool (decide (a = b))))) := by
 refine Al fun B => ?_
 have hb := Av b
 have ha := Av a
 repeat' (first | refine Ai ?_ | refine Ah ?_ | refine nc ?_ ?_ | (with_reducible intro _ <;> (try (exfalso; omega))) | refine Aa ?_ | (refine nd ?_ ?_ <;> intro hg <;> first | exact xo hg | rw [hg]))
 ·rw [decide_eq_false (fun h => by subst h; omega)]
 ·refine Bo 0 a (fun x => [.lit (vb x)]) (fun (i : Nat) (_ : Unit) => ⟨[(13, I .i64 i), (12, I .i64 (AG a).length), (0, .d (.sl false false (AG a))), (1, .d (.sl false false (AG b)))], [], 0⟩) (fun i _ => decide (a = b) = decide (a.drop i = b.drop i)) () (AE) rfl (fun i y x hT hi hx hx' hlt hlm hlen hdr => ?_) (fun y hT hlt hlm => ?_)
  ·have hlb : i < b.length := by omega
   have hb' : b[i]? = some b[i] := List.getElem?_eq_getElem hlb
   have hbd := List.drop_eq_getElem_cons hlb
   generalize b[i] = z at *
   have hbx : (AG b)[((i : Nat) : Int).toNat]? = some [.lit (vb z)] := by simp [hb']
   rw [hdr, hbd] at hT
   repeat' (first | refine Ai ?_ | refine Ah ?_ | refine nc ?_ ?_ | (with_reducible intro _ <;> (try (exfalso; omega))) | refine Aa ?_ | (refine nd ?_ ?_ <;> intro hg <;> first | exact xo hg | rw [hg]))
   ·rename_i hne; rw [hT, decide_eq_false (fun h => Yt hne (List.cons.inj h).1)]
   ·rename_i heq; refine Bd () hi ?_ (AE)
    rw [hT, Ig heq]; simp
  ·repeat' (first | refine Ai ?_ | refine Ah ?_ | refine nc ?_ ?_ | (with_reducible intro _ <;> (try (exfalso; omega))) | refine Aa ?_ | (refine nd ?_ ?_ <;> intro hg <;> first | exact xo hg | rw [hg]))
   rw [hT, List.drop_of_length_le (Nat.le_refl _), List.drop_of_length_le (by omega), decide_eq_true rfl]
theorem TZ (a b : List UInt8) : VP Tryz.prog 49 [BD a, BD b] (· = .ret (.lit (.bool (decide (a = b))))) := by
 refine Al fun B => ?_
 have hb := Av b
 have ha := Av a
 repeat' (first | refine Ai ?_ | refine Ah ?_ | refine nc ?_ ?_ | (with_reducible intro _ <;> (try (exfalso; omega))) | refine Aa ?_ | (refine nd ?_ ?_ <;> intro hg <;> first | exact xo hg | rw [hg]))
 ·rw [decide_eq_false (fun h => by subst h; omega)]
 ·refine Bo 12 a (fun x => [.lit (vb x)]) (fun (i : Nat) (_ : Unit) => ⟨[(14, I .i64 i), (13, I .i64 (AG a).length), (12, .d (.sl false false (AG a))), (1, .d (.sl false false (AG b)))], [], 0⟩) (fun i _ => decide (a = b) = decide (a.drop i = b.drop i)) () (AE) rfl (fun i y x hT hi hx hx' hlt hlm hlen hdr => ?_) (fun y hT hlt hlm => ?_)
  ·have hlb : i < b.length := by omega
   have hb' : b[i]? = some b[i] := List.getElem?_eq_getElem hlb
   have hbd := List.drop_eq_getElem_cons hlb
   generalize b[i] = z at *
   have hbx : (AG b)[((i : Nat) : Int).toNat]? = some [.lit (vb z)] := by simp [hb']
   rw [hdr, hbd] at hT
   repeat' (first | refine Ai ?_ | refine Ah ?_ | refine nc ?_ ?_ | (with_reducible intro _ <;> (try (exfalso; omega))) | refine Aa ?_ | (refine nd ?_ ?_ <;> intro hg <;> first | exact xo hg | rw [hg]))
   ·rename_i hne; rw [hT, decide_eq_false (fun h => Yt hne (List.cons.inj h).1)]
   ·rename_i heq; refine Bd () hi ?_ (AE)
    rw [hT, Ig heq]; simp
  ·repeat' (first | refine Ai ?_ | refine Ah ?_ | refine nc ?_ ?_ | (with_reducible intro _ <;> (try (exfalso; omega))) | refine Aa ?_ | (refine nd ?_ ?_ <;> intro hg <;> first | exact xo hg | rw [hg]))
   rw [hT, List.drop_of_length_le (Nat.le_refl _), List.drop_of_length_le (by omega), decide_eq_true rfl]
theorem Ji (b : List UInt8) (hb : b.length ≤ 140737488355328) : VP Tryz.prog 22 [BD b] (· = .ret (.sl false true (AG b))) := by
 have hl := Av b
 refine VP.le ?_
 refine Al fun B => ?_
 repeat' (first | refine Ai ?_ | refine Ah ?_ | refine nc ?_ ?_ | (with_reducible intro _ <;> (try (exfalso; omega))) | refine Aa ?_ | (refine nd ?_ ?_ <;> intro hg <;> first | exact xo hg | rw [hg]))
 ·have : b = [] := List.eq_nil_of_length_eq_zero (by simp_all)
  subst this
  exact Qo
 ·exact A7 _
abbrev fD (b : List UInt8) : List D := [BD b]

end Go.Proofs.YtbgcjnfhadhjeaaGreat