/- Walks by data and names, part 16: The seat's types, as the walks ask for them (made by program). trial trial: loops, closures -/
import Derived.Test.YtjfaihpiohccbaaPk15
namespace Go.Proofs.Ytjfaihpiohccbaa

instance : TyI Try.prog 1 false 1 [.nilFunc] := ⟨by kernel_rfl, by kernel_rfl⟩
instance : NIfI Try.prog 1 := ⟨by kernel_rfl⟩
instance : TyI Try.prog 2 false 1 [(.int .i64 0)] := ⟨by kernel_rfl, by kernel_rfl⟩
instance : NIfI Try.prog 2 := ⟨by kernel_rfl⟩
instance : IntI Try.prog 2 .i64 := ⟨by kernel_rfl⟩
instance : TyI Try.prog 3 false 1 [(.int .i64 0)] := ⟨by kernel_rfl, by kernel_rfl⟩
instance : NIfI Try.prog 3 := ⟨by kernel_rfl⟩
instance : IntI Try.prog 3 .i64 := ⟨by kernel_rfl⟩
instance : TyI Try.prog 4 false 1 [(.bool false)] := ⟨by kernel_rfl, by kernel_rfl⟩
instance : NIfI Try.prog 4 := ⟨by kernel_rfl⟩
instance : BoolI Try.prog 4 := ⟨by kernel_rfl⟩
instance : TyI Try.prog 5 false 1 [(.int .u8 0)] := ⟨by kernel_rfl, by kernel_rfl⟩
instance : NIfI Try.prog 5 := ⟨by kernel_rfl⟩
instance : IntI Try.prog 5 .u8 := ⟨by kernel_rfl⟩
instance : TyI Try.prog 6 false 1 [(.int .u8 0)] := ⟨by kernel_rfl, by kernel_rfl⟩
instance : NIfI Try.prog 6 := ⟨by kernel_rfl⟩
instance : IntI Try.prog 6 .u8 := ⟨by kernel_rfl⟩
instance : TyI Try.prog 7 true 4 [(.int .i64 0), (.int .i64 0), (.bool false), (.int .u8 0)] := ⟨by kernel_rfl, by kernel_rfl⟩
instance : NIfI Try.prog 7 := ⟨by kernel_rfl⟩
instance : PlI Try.prog 7 [(0, 1), (1, 1), (2, 1), (3, 1)] := ⟨by kernel_rfl⟩
instance : FldI Try.prog 7 0 0 1 false := ⟨by kernel_rfl, by decide⟩
instance : FldI Try.prog 7 1 1 1 false := ⟨by kernel_rfl, by decide⟩
instance : FldI Try.prog 7 2 2 1 false := ⟨by kernel_rfl, by decide⟩
instance : FldI Try.prog 7 3 3 1 false := ⟨by kernel_rfl, by decide⟩
instance : TyI Try.prog 8 true 4 [(.int .i64 0), (.int .i64 0), (.bool false), (.int .u8 0)] := ⟨by kernel_rfl, by kernel_rfl⟩
instance : NIfI Try.prog 8 := ⟨by kernel_rfl⟩
instance : PlI Try.prog 8 [(0, 1), (1, 1), (2, 1), (3, 1)] := ⟨by kernel_rfl⟩
instance : FldI Try.prog 8 0 0 1 false := ⟨by kernel_rfl, by decide⟩
instance : FldI Try.prog 8 1 1 1 false := ⟨by kernel_rfl, by decide⟩
instance : FldI Try.prog 8 2 2 1 false := ⟨by kernel_rfl, by decide⟩
instance : FldI Try.prog 8 3 3 1 false := ⟨by kernel_rfl, by decide⟩
instance : TyI Try.prog 9 false 1 [(.string ⟨#[]⟩)] := ⟨by kernel_rfl, by kernel_rfl⟩
instance : NIfI Try.prog 9 := ⟨by kernel_rfl⟩
instance : StrI Try.prog 9 := ⟨by kernel_rfl⟩
instance : TyI Try.prog 10 false 1 [(.string ⟨#[]⟩)] := ⟨by kernel_rfl, by kernel_rfl⟩
instance : NIfI Try.prog 10 := ⟨by kernel_rfl⟩
instance : StrI Try.prog 10 := ⟨by kernel_rfl⟩
instance : TyI Try.prog 11 false 1 [(.string ⟨#[]⟩)] := ⟨by kernel_rfl, by kernel_rfl⟩
instance : NIfI Try.prog 11 := ⟨by kernel_rfl⟩
instance : StrI Try.prog 11 := ⟨by kernel_rfl⟩
instance : TyI Try.prog 12 false 1 [(.int .u64 0)] := ⟨by kernel_rfl, by kernel_rfl⟩
instance : NIfI Try.prog 12 := ⟨by kernel_rfl⟩
instance : IntI Try.prog 12 .u64 := ⟨by kernel_rfl⟩
instance : TyI Try.prog 13 true 2 [(.string ⟨#[]⟩), (.int .u64 0)] := ⟨by kernel_rfl, by kernel_rfl⟩
instance : NIfI Try.prog 13 := ⟨by kernel_rfl⟩
instance : PlI Try.prog 13 [(0, 1), (1, 1)] := ⟨by kernel_rfl⟩
instance : FldI Try.prog 13 0 0 1 false := ⟨by kernel_rfl, by decide⟩
instance : FldI Try.prog 13 1 1 1 false := ⟨by kernel_rfl, by decide⟩
instance : TyI Try.prog 14 true 2 [(.string ⟨#[]⟩), (.int .u64 0)] := ⟨by kernel_rfl, by kernel_rfl⟩
instance : NIfI Try.prog 14 := ⟨by kernel_rfl⟩
instance : PlI Try.prog 14 [(0, 1), (1, 1)] := ⟨by kernel_rfl⟩
instance : FldI Try.prog 14 0 0 1 false := ⟨by kernel_rfl, by decide⟩
instance : FldI Try.prog 14 1 1 1 false := ⟨by kernel_rfl, by decide⟩
instance : TyI Try.prog 15 false 1 [(.pointer none)] := ⟨by kernel_rfl, by kernel_rfl⟩
instance : NIfI Try.prog 15 := ⟨by kernel_rfl⟩
instance : TyI Try.prog 16 false 1 [(.pointer none)] := ⟨by kernel_rfl, by kernel_rfl⟩
instance : NIfI Try.prog 16 := ⟨by kernel_rfl⟩
instance : TyI Try.prog 17 false 1 [(.pointer none)] := ⟨by kernel_rfl, by kernel_rfl⟩
instance : NIfI Try.prog 17 := ⟨by kernel_rfl⟩
instance : TyI Try.prog 18 true 1 [(.pointer none)] := ⟨by kernel_rfl, by kernel_rfl⟩
instance : NIfI Try.prog 18 := ⟨by kernel_rfl⟩
instance : PlI Try.prog 18 [(0, 1)] := ⟨by kernel_rfl⟩
instance : FldI Try.prog 18 0 0 1 false := ⟨by kernel_rfl, by decide⟩
instance : TyI Try.prog 19 true 1 [(.pointer none)] := ⟨by kernel_rfl, by kernel_rfl⟩
instance : NIfI Try.prog 19 := ⟨by kernel_rfl⟩
instance : PlI Try.prog 19 [(0, 1)] := ⟨by kernel_rfl⟩
instance : FldI Try.prog 19 0 0 1 false := ⟨by kernel_rfl, by decide⟩
instance : TyI Try.prog 20 false 1 [.nilIface] := ⟨by kernel_rfl, by kernel_rfl⟩
instance : IfcI Try.prog 20 := ⟨by kernel_rfl⟩
instance : TyI Try.prog 21 false 1 [(.int .i32 0)] := ⟨by kernel_rfl, by kernel_rfl⟩
instance : NIfI Try.prog 21 := ⟨by kernel_rfl⟩
instance : IntI Try.prog 21 .i32 := ⟨by kernel_rfl⟩
instance : TyI Try.prog 22 false 1 [(.slice none 0 0)] := ⟨by kernel_rfl, by kernel_rfl⟩
instance : NIfI Try.prog 22 := ⟨by kernel_rfl⟩
instance : SlI Try.prog 22 5 1 1 := ⟨Elem.mk' (z := (.int .u8 0)) (by kernel_rfl) (by kernel_rfl) (by rfl) (by decide)⟩
instance : TyI Try.prog 23 true 4 [(.slice none 0 0), (.slice none 0 0), (.slice none 0 0), (.slice none 0 0)] := ⟨by kernel_rfl, by kernel_rfl⟩
instance : NIfI Try.prog 23 := ⟨by kernel_rfl⟩
instance : ArrI Try.prog 23 4 22 1 := ⟨by kernel_rfl, by kernel_rfl, by decide⟩
instance : TyI Try.prog 24 false 1 [(.slice none 0 0)] := ⟨by kernel_rfl, by kernel_rfl⟩
instance : NIfI Try.prog 24 := ⟨by kernel_rfl⟩
instance : SlI Try.prog 24 43 3 40 := ⟨Elem.mk' (z := (.agg #[(.int .i64 0), (.int .i64 0), (.slice none 0 0)])) (by kernel_rfl) (by kernel_rfl) (by rfl) (by decide)⟩
instance : TyI Try.prog 25 true 8 [(.slice none 0 0), (.slice none 0 0), (.slice none 0 0), (.slice none 0 0), (.int .i64 0), (.slice none 0 0), (.bool false), (.int .i64 0)] := ⟨by kernel_rfl, by kernel_rfl⟩
instance : NIfI Try.prog 25 := ⟨by kernel_rfl⟩
instance : PlI Try.prog 25 [(0, 4), (4, 1), (5, 1), (6, 1), (7, 1)] := ⟨by kernel_rfl⟩
instance : FldI Try.prog 25 0 0 4 true := ⟨by kernel_rfl, by decide⟩
instance : FldI Try.prog 25 1 4 1 false := ⟨by kernel_rfl, by decide⟩
instance : FldI Try.prog 25 2 5 1 false := ⟨by kernel_rfl, by decide⟩
instance : FldI Try.prog 25 3 6 1 false := ⟨by kernel_rfl, by decide⟩
instance : FldI Try.prog 25 4 7 1 false := ⟨by kernel_rfl, by decide⟩
instance : TyI Try.prog 26 true 8 [(.slice none 0 0), (.slice none 0 0), (.slice none 0 0), (.slice none 0 0), (.int .i64 0), (.slice none 0 0), (.bool false), (.int .i64 0)] := ⟨by kernel_rfl, by kernel_rfl⟩
instance : NIfI Try.prog 26 := ⟨by kernel_rfl⟩
instance : PlI Try.prog 26 [(0, 4), (4, 1), (5, 1), (6, 1), (7, 1)] := ⟨by kernel_rfl⟩
instance : FldI Try.prog 26 0 0 4 true := ⟨by kernel_rfl, by decide⟩
instance : FldI Try.prog 26 1 4 1 false := ⟨by kernel_rfl, by decide⟩
instance : FldI Try.prog 26 2 5 1 false := ⟨by kernel_rfl, by decide⟩
instance : FldI Try.prog 26 3 6 1 false := ⟨by kernel_rfl, by decide⟩
instance : FldI Try.prog 26 4 7 1 false := ⟨by kernel_rfl, by decide⟩
instance : TyI Try.prog 27 false 1 [(.slice none 0 0)] := ⟨by kernel_rfl, by kernel_rfl⟩
instance : NIfI Try.prog 27 := ⟨by kernel_rfl⟩
instance : SlI Try.prog 27 31 2 16 := ⟨Elem.mk' (z := (.agg #[(.int .i64 0), (.int .i64 0)])) (by kernel_rfl) (by kernel_rfl) (by rfl) (by decide)⟩
instance : TyI Try.prog 28 false 1 [.nilFunc] := ⟨by kernel_rfl, by kernel_rfl⟩
instance : NIfI Try.prog 28 := ⟨by kernel_rfl⟩
instance : TyI Try.prog 29 false 1 [.nilFunc] := ⟨by kernel_rfl, by kernel_rfl⟩
instance : NIfI Try.prog 29 := ⟨by kernel_rfl⟩
instance : TyI Try.prog 30 false 1 [.nilFunc] := ⟨by kernel_rfl, by kernel_rfl⟩
instance : NIfI Try.prog 30 := ⟨by kernel_rfl⟩
instance : TyI Try.prog 31 true 2 [(.int .i64 0), (.int .i64 0)] := ⟨by kernel_rfl, by kernel_rfl⟩
instance : NIfI Try.prog 31 := ⟨by kernel_rfl⟩
instance : ArrI Try.prog 31 2 3 1 := ⟨by kernel_rfl, by kernel_rfl, by decide⟩
instance : TyI Try.prog 32 false 1 [(.int .i64 0)] := ⟨by kernel_rfl, by kernel_rfl⟩
instance : NIfI Try.prog 32 := ⟨by kernel_rfl⟩
instance : IntI Try.prog 32 .i64 := ⟨by kernel_rfl⟩
instance : TyI Try.prog 34 false 1 [.nilFunc] := ⟨by kernel_rfl, by kernel_rfl⟩
instance : NIfI Try.prog 34 := ⟨by kernel_rfl⟩
instance : TyI Try.prog 35 false 1 [.nilFunc] := ⟨by kernel_rfl, by kernel_rfl⟩
instance : NIfI Try.prog 35 := ⟨by kernel_rfl⟩
instance : TyI Try.prog 36 false 1 [.nilFunc] := ⟨by kernel_rfl, by kernel_rfl⟩
instance : NIfI Try.prog 36 := ⟨by kernel_rfl⟩
instance : TyI Try.prog 37 false 1 [.nilFunc] := ⟨by kernel_rfl, by kernel_rfl⟩
instance : NIfI Try.prog 37 := ⟨by kernel_rfl⟩
instance : TyI Try.prog 38 false 1 [.nilFunc] := ⟨by kernel_rfl, by kernel_rfl⟩
instance : NIfI Try.prog 38 := ⟨by kernel_rfl⟩
instance : TyI Try.prog 39 false 1 [.nilFunc] := ⟨by kernel_rfl, by kernel_rfl⟩
instance : NIfI Try.prog 39 := ⟨by kernel_rfl⟩
instance : TyI Try.prog 40 false 1 [.nilFunc] := ⟨by kernel_rfl, by kernel_rfl⟩
instance : NIfI Try.prog 40 := ⟨by kernel_rfl⟩
instance : TyI Try.prog 41 false 1 [.nilFunc] := ⟨by kernel_rfl, by kernel_rfl⟩
instance : NIfI Try.prog 41 := ⟨by kernel_rfl⟩
instance : TyI Try.prog 42 true 3 [(.int .i64 0), (.int .i64 0), (.slice none 0 0)] := ⟨by kernel_rfl, by kernel_rfl⟩
instance : NIfI Try.prog 42 := ⟨by kernel_rfl⟩
instance : PlI Try.prog 42 [(0, 1), (1, 1), (2, 1)] := ⟨by kernel_rfl⟩
instance : FldI Try.prog 42 0 0 1 false := ⟨by kernel_rfl, by decide⟩
instance : FldI Try.prog 42 1 1 1 false := ⟨by kernel_rfl, by decide⟩
instance : FldI Try.prog 42 2 2 1 false := ⟨by kernel_rfl, by decide⟩
instance : TyI Try.prog 43 true 3 [(.int .i64 0), (.int .i64 0), (.slice none 0 0)] := ⟨by kernel_rfl, by kernel_rfl⟩
instance : NIfI Try.prog 43 := ⟨by kernel_rfl⟩
instance : PlI Try.prog 43 [(0, 1), (1, 1), (2, 1)] := ⟨by kernel_rfl⟩
instance : FldI Try.prog 43 0 0 1 false := ⟨by kernel_rfl, by decide⟩
instance : FldI Try.prog 43 1 1 1 false := ⟨by kernel_rfl, by decide⟩
instance : FldI Try.prog 43 2 2 1 false := ⟨by kernel_rfl, by decide⟩
instance : TyI Try.prog 44 false 1 [.nilFunc] := ⟨by kernel_rfl, by kernel_rfl⟩
instance : NIfI Try.prog 44 := ⟨by kernel_rfl⟩
instance : TyI Try.prog 46 false 1 [.nilFunc] := ⟨by kernel_rfl, by kernel_rfl⟩
instance : NIfI Try.prog 46 := ⟨by kernel_rfl⟩
instance : TyI Try.prog 47 false 1 [.nilFunc] := ⟨by kernel_rfl, by kernel_rfl⟩
instance : NIfI Try.prog 47 := ⟨by kernel_rfl⟩
instance : TyI Try.prog 48 true 4 [(.int .i64 0), (.int .i64 0), (.int .i64 0), (.int .i64 0)] := ⟨by kernel_rfl, by kernel_rfl⟩
instance : NIfI Try.prog 48 := ⟨by kernel_rfl⟩
instance : ArrI Try.prog 48 4 3 1 := ⟨by kernel_rfl, by kernel_rfl, by decide⟩
instance : TyI Try.prog 49 false 1 [.nilFunc] := ⟨by kernel_rfl, by kernel_rfl⟩
instance : NIfI Try.prog 49 := ⟨by kernel_rfl⟩
instance : TyI Try.prog 50 false 1 [.nilFunc] := ⟨by kernel_rfl, by kernel_rfl⟩
instance : NIfI Try.prog 50 := ⟨by kernel_rfl⟩
instance : TyI Try.prog 51 false 1 [.nilFunc] := ⟨by kernel_rfl, by kernel_rfl⟩
instance : NIfI Try.prog 51 := ⟨by kernel_rfl⟩
instance : TyI Try.prog 52 false 1 [.nilFunc] := ⟨by kernel_rfl, by kernel_rfl⟩
instance : NIfI Try.prog 52 := ⟨by kernel_rfl⟩
instance : TyI Try.prog 53 false 1 [.nilFunc] := ⟨by kernel_rfl, by kernel_rfl⟩
instance : NIfI Try.prog 53 := ⟨by kernel_rfl⟩
instance : TyI Try.prog 54 false 1 [.nilFunc] := ⟨by kernel_rfl, by kernel_rfl⟩
instance : NIfI Try.prog 54 := ⟨by kernel_rfl⟩
instance : TyI Try.prog 56 false 1 [.nilFunc] := ⟨by kernel_rfl, by kernel_rfl⟩
instance : NIfI Try.prog 56 := ⟨by kernel_rfl⟩
instance : TyI Try.prog 57 false 1 [.nilFunc] := ⟨by kernel_rfl, by kernel_rfl⟩
instance : NIfI Try.prog 57 := ⟨by kernel_rfl⟩
instance : TyI Try.prog 58 false 1 [.nilFunc] := ⟨by kernel_rfl, by kernel_rfl⟩
instance : NIfI Try.prog 58 := ⟨by kernel_rfl⟩
instance : TyI Try.prog 59 false 1 [.nilFunc] := ⟨by kernel_rfl, by kernel_rfl⟩
instance : NIfI Try.prog 59 := ⟨by kernel_rfl⟩
instance : TyI Try.prog 60 false 1 [.nilFunc] := ⟨by kernel_rfl, by kernel_rfl⟩
instance : NIfI Try.prog 60 := ⟨by kernel_rfl⟩
instance : TyI Try.prog 61 false 1 [(.slice none 0 0)] := ⟨by kernel_rfl, by kernel_rfl⟩
instance : NIfI Try.prog 61 := ⟨by kernel_rfl⟩
instance : SlI Try.prog 61 3 1 8 := ⟨Elem.mk' (z := (.int .i64 0)) (by kernel_rfl) (by kernel_rfl) (by rfl) (by decide)⟩
instance : TyI Try.prog 62 false 1 [.nilFunc] := ⟨by kernel_rfl, by kernel_rfl⟩
instance : NIfI Try.prog 62 := ⟨by kernel_rfl⟩
instance : TyI Try.prog 63 false 1 [.nilFunc] := ⟨by kernel_rfl, by kernel_rfl⟩
instance : NIfI Try.prog 63 := ⟨by kernel_rfl⟩
instance : TyI Try.prog 64 false 1 [.nilFunc] := ⟨by kernel_rfl, by kernel_rfl⟩
instance : NIfI Try.prog 64 := ⟨by kernel_rfl⟩
instance : TyI Try.prog 65 false 1 [(.int .u64 0)] := ⟨by kernel_rfl, by kernel_rfl⟩
instance : NIfI Try.prog 65 := ⟨by kernel_rfl⟩
instance : IntI Try.prog 65 .u64 := ⟨by kernel_rfl⟩
instance : TyI Try.prog 66 false 1 [.nilFunc] := ⟨by kernel_rfl, by kernel_rfl⟩
instance : NIfI Try.prog 66 := ⟨by kernel_rfl⟩
instance : TyI Try.prog 67 false 1 [.nilFunc] := ⟨by kernel_rfl, by kernel_rfl⟩
instance : NIfI Try.prog 67 := ⟨by kernel_rfl⟩
instance : TyI Try.prog 68 false 1 [.nilFunc] := ⟨by kernel_rfl, by kernel_rfl⟩
instance : NIfI Try.prog 68 := ⟨by kernel_rfl⟩
instance : TyI Try.prog 69 false 1 [.nilFunc] := ⟨by kernel_rfl, by kernel_rfl⟩
instance : NIfI Try.prog 69 := ⟨by kernel_rfl⟩
instance : TyI Try.prog 70 false 1 [.nilFunc] := ⟨by kernel_rfl, by kernel_rfl⟩
instance : NIfI Try.prog 70 := ⟨by kernel_rfl⟩
instance : TyI Try.prog 71 false 1 [(.pointer none)] := ⟨by kernel_rfl, by kernel_rfl⟩
instance : NIfI Try.prog 71 := ⟨by kernel_rfl⟩
instance : TyI Try.prog 72 false 1 [.nilFunc] := ⟨by kernel_rfl, by kernel_rfl⟩
instance : NIfI Try.prog 72 := ⟨by kernel_rfl⟩
instance : TyI Try.prog 73 true 8 [(.slice none 0 0), (.slice none 0 0), (.slice none 0 0), (.slice none 0 0), (.int .i64 0), (.slice none 0 0), (.bool false), (.int .i64 0)] := ⟨by kernel_rfl, by kernel_rfl⟩
instance : NIfI Try.prog 73 := ⟨by kernel_rfl⟩
instance : PlI Try.prog 73 [(0, 8)] := ⟨by kernel_rfl⟩
instance : FldI Try.prog 73 0 0 8 true := ⟨by kernel_rfl, by decide⟩
instance : TyI Try.prog 74 true 8 [(.slice none 0 0), (.slice none 0 0), (.slice none 0 0), (.slice none 0 0), (.int .i64 0), (.slice none 0 0), (.bool false), (.int .i64 0)] := ⟨by kernel_rfl, by kernel_rfl⟩
instance : NIfI Try.prog 74 := ⟨by kernel_rfl⟩
instance : PlI Try.prog 74 [(0, 8)] := ⟨by kernel_rfl⟩
instance : FldI Try.prog 74 0 0 8 true := ⟨by kernel_rfl, by decide⟩
instance : TyI Try.prog 75 false 1 [.nilFunc] := ⟨by kernel_rfl, by kernel_rfl⟩
instance : NIfI Try.prog 75 := ⟨by kernel_rfl⟩
instance : TyI Try.prog 76 false 1 [.nilFunc] := ⟨by kernel_rfl, by kernel_rfl⟩
instance : NIfI Try.prog 76 := ⟨by kernel_rfl⟩
instance : TyI Try.prog 77 false 1 [.nilFunc] := ⟨by kernel_rfl, by kernel_rfl⟩
instance : NIfI Try.prog 77 := ⟨by kernel_rfl⟩
instance : TyI Try.prog 78 false 1 [.nilFunc] := ⟨by kernel_rfl, by kernel_rfl⟩
instance : NIfI Try.prog 78 := ⟨by kernel_rfl⟩
instance : TyI Try.prog 79 false 1 [.nilFunc] := ⟨by kernel_rfl, by kernel_rfl⟩
instance : NIfI Try.prog 79 := ⟨by kernel_rfl⟩
instance : TyI Try.prog 80 false 1 [.nilFunc] := ⟨by kernel_rfl, by kernel_rfl⟩
instance : NIfI Try.prog 80 := ⟨by kernel_rfl⟩
instance : TyI Try.prog 81 true 4 [(.int .i64 0), (.int .i64 0), (.int .i64 0), (.int .i64 0)] := ⟨by kernel_rfl, by kernel_rfl⟩
instance : NIfI Try.prog 81 := ⟨by kernel_rfl⟩
instance : ArrI Try.prog 81 4 3 1 := ⟨by kernel_rfl, by kernel_rfl, by decide⟩
instance : TyI Try.prog 82 false 1 [.nilFunc] := ⟨by kernel_rfl, by kernel_rfl⟩
instance : NIfI Try.prog 82 := ⟨by kernel_rfl⟩
instance : TyI Try.prog 83 false 1 [.nilFunc] := ⟨by kernel_rfl, by kernel_rfl⟩
instance : NIfI Try.prog 83 := ⟨by kernel_rfl⟩
instance : TyI Try.prog 84 false 1 [.nilFunc] := ⟨by kernel_rfl, by kernel_rfl⟩
instance : NIfI Try.prog 84 := ⟨by kernel_rfl⟩
instance : TyI Try.prog 85 false 1 [.nilFunc] := ⟨by kernel_rfl, by kernel_rfl⟩
instance : NIfI Try.prog 85 := ⟨by kernel_rfl⟩
instance : TyI Try.prog 86 false 1 [.nilFunc] := ⟨by kernel_rfl, by kernel_rfl⟩
instance : NIfI Try.prog 86 := ⟨by kernel_rfl⟩
instance : TyI Try.prog 87 false 1 [(.slice none 0 0)] := ⟨by kernel_rfl, by kernel_rfl⟩
instance : NIfI Try.prog 87 := ⟨by kernel_rfl⟩
instance : SlI Try.prog 87 22 1 24 := ⟨Elem.mk' (z := (.slice none 0 0)) (by kernel_rfl) (by kernel_rfl) (by rfl) (by decide)⟩
instance : TyI Try.prog 89 false 1 [.nilFunc] := ⟨by kernel_rfl, by kernel_rfl⟩
instance : NIfI Try.prog 89 := ⟨by kernel_rfl⟩
instance : TyI Try.prog 90 false 1 [.nilFunc] := ⟨by kernel_rfl, by kernel_rfl⟩
instance : NIfI Try.prog 90 := ⟨by kernel_rfl⟩
instance : TyI Try.prog 91 false 1 [.nilFunc] := ⟨by kernel_rfl, by kernel_rfl⟩
instance : NIfI Try.prog 91 := ⟨by kernel_rfl⟩
instance : TyI Try.prog 92 true 4 [.nilFunc, .nilFunc, .nilFunc, .nilFunc] := ⟨by kernel_rfl, by kernel_rfl⟩
instance : NIfI Try.prog 92 := ⟨by kernel_rfl⟩
instance : ArrI Try.prog 92 4 91 1 := ⟨by kernel_rfl, by kernel_rfl, by decide⟩
instance : TyI Try.prog 93 false 1 [.nilFunc] := ⟨by kernel_rfl, by kernel_rfl⟩
instance : NIfI Try.prog 93 := ⟨by kernel_rfl⟩
instance : TyI Try.prog 94 false 1 [.nilFunc] := ⟨by kernel_rfl, by kernel_rfl⟩
instance : NIfI Try.prog 94 := ⟨by kernel_rfl⟩
instance : TyI Try.prog 95 false 1 [.nilFunc] := ⟨by kernel_rfl, by kernel_rfl⟩
instance : NIfI Try.prog 95 := ⟨by kernel_rfl⟩
instance : TyI Try.prog 96 true 4 [(.pointer none), (.pointer none), (.pointer none), (.string ⟨#[]⟩)] := ⟨by kernel_rfl, by kernel_rfl⟩
instance : NIfI Try.prog 96 := ⟨by kernel_rfl⟩
instance : PlI Try.prog 96 [(0, 1), (1, 1), (2, 1), (3, 1)] := ⟨by kernel_rfl⟩
instance : FldI Try.prog 96 0 0 1 false := ⟨by kernel_rfl, by decide⟩
instance : FldI Try.prog 96 1 1 1 false := ⟨by kernel_rfl, by decide⟩
instance : FldI Try.prog 96 2 2 1 false := ⟨by kernel_rfl, by decide⟩
instance : FldI Try.prog 96 3 3 1 false := ⟨by kernel_rfl, by decide⟩
instance : TyI Try.prog 97 true 4 [(.pointer none), (.pointer none), (.pointer none), (.string ⟨#[]⟩)] := ⟨by kernel_rfl, by kernel_rfl⟩
instance : NIfI Try.prog 97 := ⟨by kernel_rfl⟩
instance : PlI Try.prog 97 [(0, 1), (1, 1), (2, 1), (3, 1)] := ⟨by kernel_rfl⟩
instance : FldI Try.prog 97 0 0 1 false := ⟨by kernel_rfl, by decide⟩
instance : FldI Try.prog 97 1 1 1 false := ⟨by kernel_rfl, by decide⟩
instance : FldI Try.prog 97 2 2 1 false := ⟨by kernel_rfl, by decide⟩
instance : FldI Try.prog 97 3 3 1 false := ⟨by kernel_rfl, by decide⟩
instance : TyI Try.prog 98 true 0 [] := ⟨by kernel_rfl, by kernel_rfl⟩
instance : NIfI Try.prog 98 := ⟨by kernel_rfl⟩
instance : ArrI Try.prog 98 0 16 1 := ⟨by kernel_rfl, by kernel_rfl, by decide⟩
instance : TyI Try.prog 99 true 0 [] := ⟨by kernel_rfl, by kernel_rfl⟩
instance : NIfI Try.prog 99 := ⟨by kernel_rfl⟩
instance : PlI Try.prog 99 [(0, 0)] := ⟨by kernel_rfl⟩
instance : TyI Try.prog 100 true 0 [] := ⟨by kernel_rfl, by kernel_rfl⟩
instance : NIfI Try.prog 100 := ⟨by kernel_rfl⟩
instance : PlI Try.prog 100 [(0, 0)] := ⟨by kernel_rfl⟩
instance : TyI Try.prog 101 false 1 [.nilFunc] := ⟨by kernel_rfl, by kernel_rfl⟩
instance : NIfI Try.prog 101 := ⟨by kernel_rfl⟩
instance : TyI Try.prog 102 false 1 [(.int .u32 0)] := ⟨by kernel_rfl, by kernel_rfl⟩
instance : NIfI Try.prog 102 := ⟨by kernel_rfl⟩
instance : IntI Try.prog 102 .u32 := ⟨by kernel_rfl⟩
instance : TyI Try.prog 103 false 1 [(.int .u8 0)] := ⟨by kernel_rfl, by kernel_rfl⟩
instance : NIfI Try.prog 103 := ⟨by kernel_rfl⟩
instance : IntI Try.prog 103 .u8 := ⟨by kernel_rfl⟩
instance : TyI Try.prog 104 false 1 [(.int .u8 0)] := ⟨by kernel_rfl, by kernel_rfl⟩
instance : NIfI Try.prog 104 := ⟨by kernel_rfl⟩
instance : IntI Try.prog 104 .u8 := ⟨by kernel_rfl⟩
instance : TyI Try.prog 105 false 1 [.nilFunc] := ⟨by kernel_rfl, by kernel_rfl⟩
instance : NIfI Try.prog 105 := ⟨by kernel_rfl⟩
instance : TyI Try.prog 106 false 1 [(.pointer none)] := ⟨by kernel_rfl, by kernel_rfl⟩
instance : NIfI Try.prog 106 := ⟨by kernel_rfl⟩
instance : TyI Try.prog 107 false 1 [(.int .i32 0)] := ⟨by kernel_rfl, by kernel_rfl⟩
instance : NIfI Try.prog 107 := ⟨by kernel_rfl⟩
instance : IntI Try.prog 107 .i32 := ⟨by kernel_rfl⟩
instance : TyI Try.prog 108 false 1 [(.int .i32 0)] := ⟨by kernel_rfl, by kernel_rfl⟩
instance : NIfI Try.prog 108 := ⟨by kernel_rfl⟩
instance : IntI Try.prog 108 .i32 := ⟨by kernel_rfl⟩
instance : TyI Try.prog 109 true 11 [(.int .u64 0), (.int .u64 0), (.int .u32 0), (.int .u8 0), (.int .u8 0), (.int .u8 0), (.int .u8 0), .nilFunc, (.pointer none), (.int .i32 0), (.int .i32 0)] := ⟨by kernel_rfl, by kernel_rfl⟩
instance : NIfI Try.prog 109 := ⟨by kernel_rfl⟩
instance : PlI Try.prog 109 [(0, 1), (1, 1), (2, 1), (3, 1), (4, 1), (5, 1), (6, 1), (7, 1), (8, 1), (9, 1), (10, 1)] := ⟨by kernel_rfl⟩
instance : FldI Try.prog 109 0 0 1 false := ⟨by kernel_rfl, by decide⟩
instance : FldI Try.prog 109 1 1 1 false := ⟨by kernel_rfl, by decide⟩
instance : FldI Try.prog 109 2 2 1 false := ⟨by kernel_rfl, by decide⟩
instance : FldI Try.prog 109 3 3 1 false := ⟨by kernel_rfl, by decide⟩
instance : FldI Try.prog 109 4 4 1 false := ⟨by kernel_rfl, by decide⟩
instance : FldI Try.prog 109 5 5 1 false := ⟨by kernel_rfl, by decide⟩
instance : FldI Try.prog 109 6 6 1 false := ⟨by kernel_rfl, by decide⟩
instance : FldI Try.prog 109 7 7 1 false := ⟨by kernel_rfl, by decide⟩
instance : FldI Try.prog 109 8 8 1 false := ⟨by kernel_rfl, by decide⟩
instance : FldI Try.prog 109 9 9 1 false := ⟨by kernel_rfl, by decide⟩
instance : FldI Try.prog 109 10 10 1 false := ⟨by kernel_rfl, by decide⟩
instance : TyI Try.prog 110 true 11 [(.int .u64 0), (.int .u64 0), (.int .u32 0), (.int .u8 0), (.int .u8 0), (.int .u8 0), (.int .u8 0), .nilFunc, (.pointer none), (.int .i32 0), (.int .i32 0)] := ⟨by kernel_rfl, by kernel_rfl⟩
instance : NIfI Try.prog 110 := ⟨by kernel_rfl⟩
instance : PlI Try.prog 110 [(0, 1), (1, 1), (2, 1), (3, 1), (4, 1), (5, 1), (6, 1), (7, 1), (8, 1), (9, 1), (10, 1)] := ⟨by kernel_rfl⟩
instance : FldI Try.prog 110 0 0 1 false := ⟨by kernel_rfl, by decide⟩
instance : FldI Try.prog 110 1 1 1 false := ⟨by kernel_rfl, by decide⟩
instance : FldI Try.prog 110 2 2 1 false := ⟨by kernel_rfl, by decide⟩
instance : FldI Try.prog 110 3 3 1 false := ⟨by kernel_rfl, by decide⟩
instance : FldI Try.prog 110 4 4 1 false := ⟨by kernel_rfl, by decide⟩
instance : FldI Try.prog 110 5 5 1 false := ⟨by kernel_rfl, by decide⟩
instance : FldI Try.prog 110 6 6 1 false := ⟨by kernel_rfl, by decide⟩
instance : FldI Try.prog 110 7 7 1 false := ⟨by kernel_rfl, by decide⟩
instance : FldI Try.prog 110 8 8 1 false := ⟨by kernel_rfl, by decide⟩
instance : FldI Try.prog 110 9 9 1 false := ⟨by kernel_rfl, by decide⟩
instance : FldI Try.prog 110 10 10 1 false := ⟨by kernel_rfl, by decide⟩
instance : TyI Try.prog 111 false 1 [(.pointer none)] := ⟨by kernel_rfl, by kernel_rfl⟩
instance : NIfI Try.prog 111 := ⟨by kernel_rfl⟩

end Go.Proofs.Ytjfaihpiohccbaa

namespace Go.Proofs.Ytjfaihpiohccbaa
open Go.RowKit
def isFile (n : Int) : Bool := decide (0 ≤ n) && decide (n < 4)
set_option maxRecDepth 10000
theorem file_v (n : Int) : VP Try.prog 52 [.lit (.int .i64 n)] (· = .ret (.lit (.bool (isFile n)))) := by
  refine vp_of Try.func52 rfl Try.ntmps52 rfl Try.results52 fun B => ?_
  repeat' (first | fail | fail | refine nzl ?_ | refine nzd ?_ | ((first | with_reducible refine vl_id ?_ | with_reducible refine vd_id ?_); first | fail) | refine nzo ?_ | refine nc ?_ ?_ | (with_reducible intro _ <;> (try (exfalso; omega))) | refine vs_eqnil ?_ | refine vs_nenil ?_ | (refine nd ?_ ?_ <;> intro hg <;> (first | (exfalso; (try simp only [decide_eq_true_eq, decide_eq_false_iff_not] at hg); omega) | rw [hg])) | fail)
  all_goals simp [isFile, *]
def mayOp (k f : Int) (n : Nat) : Bool := decide (1 ≤ k) && decide (k < 4) && isFile f && decide (decide (k = 1) = decide (0 < n))
theorem may_v (k f : Int) (b : List (List D)) [DLss b b] : VP Try.prog 56 [.agg [.lit (.int .i64 k), .lit (.int .i64 f), .sl false false b]] (· = .ret (.lit (.bool (mayOp k f b.length)))) := by
  refine vp_of Try.func56 rfl Try.ntmps56 rfl Try.results56 fun B => ?_
  repeat' (first | fail | fail | refine nzl ?_ | refine nzd ?_ | ((first | with_reducible refine vl_id ?_ | with_reducible refine vd_id ?_); first | refine vs_ret (file_v _) ?_) | refine nzo ?_ | refine nc ?_ ?_ | (with_reducible intro _ <;> (try (exfalso; omega))) | refine vs_eqnil ?_ | refine vs_nenil ?_ | (refine nd ?_ ?_ <;> intro hg <;> (first | (exfalso; (try simp only [decide_eq_true_eq, decide_eq_false_iff_not] at hg); omega) | rw [hg])) | fail)
  all_goals simp [mayOp, *]
theorem need_ok (e : Int) : VP Try.prog 42 [.lit (.bool true), .lit (.int .i64 e)] (· = .ret (.tup [])) := by
  refine vp_of Try.func42 rfl Try.ntmps42 rfl Try.results42 fun B => ?_
  repeat' (first | fail | fail | refine nzl ?_ | refine nzd ?_ | ((first | with_reducible refine vl_id ?_ | with_reducible refine vd_id ?_); first | fail) | refine nzo ?_ | refine nc ?_ ?_ | (with_reducible intro _ <;> (try (exfalso; omega))) | refine vs_eqnil ?_ | refine vs_nenil ?_ | (refine nd ?_ ?_ <;> intro hg <;> (first | (exfalso; (try simp only [decide_eq_true_eq, decide_eq_false_iff_not] at hg); omega) | rw [hg])) | fail)
  all_goals rfl
theorem need_no (e : Int) : VP Try.prog 42 [.lit (.bool false), .lit (.int .i64 e)] (· = .panic (.ifc 32 (.lit (.int .i64 e)))) := by
  refine vp_of Try.func42 rfl Try.ntmps42 rfl Try.results42 fun B => ?_
  repeat' (first | fail | fail | refine nzl ?_ | refine nzd ?_ | ((first | with_reducible refine vl_id ?_ | with_reducible refine vd_id ?_); first | fail) | refine nzo ?_ | refine nc ?_ ?_ | (with_reducible intro _ <;> (try (exfalso; omega))) | refine vs_eqnil ?_ | refine vs_nenil ?_ | (refine nd ?_ ?_ <;> intro hg <;> (first | (exfalso; (try simp only [decide_eq_true_eq, decide_eq_false_iff_not] at hg); omega) | rw [hg])) | fail)
  all_goals rfl
abbrev byD (b : List UInt8) : List (List D) := b.map fun x => [.lit (vb x)]
theorem own_v (b : List UInt8) (hb : b.length ≤ 140737488355328) : VP Try.prog 68 [.sl false false (byD b)] (· = .own 5 1 (byD b)) := by
  refine vp_of Try.func68 rfl Try.ntmps68 rfl Try.results68 fun B => ?_
  have hb' : ((byD b).length : Int) ≤ 140737488355328 := by simp; omega
  repeat' (first | fail | fail | refine nzl ?_ | refine nzd ?_ | ((first | with_reducible refine vl_id ?_ | with_reducible refine vd_id ?_); first | fail) | refine nzo ?_ | refine nc ?_ ?_ | (with_reducible intro _ <;> (try (exfalso; omega))) | refine vs_eqnil ?_ | refine vs_nenil ?_ | (refine nd ?_ ?_ <;> intro hg <;> (first | (exfalso; (try simp only [decide_eq_true_eq, decide_eq_false_iff_not] at hg); omega) | rw [hg])) | fail)
  all_goals rfl
end Go.Proofs.Ytjfaihpiohccbaa

namespace Go.Proofs.Ytjfaihpiohccbaa
open Go.RowKit
set_option maxRecDepth 10000
/-- the first of them, or -1 -/
def idxF (p : Nat → Bool) : Nat → Nat → Int
  | _, 0 => -1
  | i, n + 1 => if p i then i else idxF p (i + 1) n
theorem index_v {f : FuncId} {ca : List D} (l : List (List D)) (hz : ∀ x ∈ l, x.length = 3) (p : Nat → Bool) (hcall : ∀ i x, l[i]? = some x → VP Try.prog f (.agg x :: ca) (· = .ret (.lit (.bool (p i))))) (hd : ∀ x ∈ l, DLs x x) [DLs ca ca] :
    VP Try.prog 77 [.sl false false l, .fn f [] ca] (· = .ret (.lit (.int .i64 (idxF p 0 l.length)))) := by
  refine vp_of Try.func77 rfl Try.ntmps77 rfl Try.results77 fun B => ?_
  repeat' (first | fail | fail | refine nzl ?_ | refine nzd ?_ | ((first | with_reducible refine vl_id ?_ | with_reducible refine vd_id ?_); first | fail) | refine nzo ?_ | refine nc ?_ ?_ | (with_reducible intro _ <;> (try (exfalso; omega))) | refine vs_eqnil ?_ | refine vs_nenil ?_ | (refine nd ?_ ?_ <;> intro hg <;> (first | (exfalso; (try simp only [decide_eq_true_eq, decide_eq_false_iff_not] at hg); omega) | rw [hg])) | fail)
  refine vw_len 0 rfl fun hlen => ?_
  refine vw_loop (fun i : Nat => ⟨[(8, .d (.lit (.int .i64 i))), (7, .d (.lit (.int .i64 l.length))), (1, .d (.fn f [] ca)), (0, .d (.sl false false l))], [], 0⟩) (fun i => i ≤ l.length ∧ idxF p 0 l.length = idxF p i (l.length - i)) (fun i => l.length - i) 0 (sub_z) ⟨Nat.zero_le _, rfl⟩ fun i hi => ?_
  rcases Nat.lt_or_ge i l.length with h | h
  · obtain ⟨x, hx⟩ : ∃ x, l[i]? = some x := ⟨_, List.getElem?_eq_getElem h⟩
    have hx' : l[((i : Nat) : Int).toNat]? = some x := by simpa using hx
    have hx3 : x.length = 3 := hz x (List.mem_of_getElem? hx)
    haveI := hd x (List.mem_of_getElem? hx)
    have hst : idxF p i (l.length - i) = if p i then (i : Int) else idxF p (i + 1) (l.length - (i + 1)) := by rw [show l.length - i = (l.length - (i + 1)) + 1 by omega]; rfl
    repeat' (first | fail | fail | refine nzl ?_ | refine nzd ?_ | ((first | with_reducible refine vl_id ?_ | with_reducible refine vd_id ?_); first | refine cz (hcall i x hx) ?_) | refine nzo ?_ | refine nc ?_ ?_ | (with_reducible intro _ <;> (try (exfalso; omega))) | refine vs_eqnil ?_ | refine vs_nenil ?_ | (refine nd ?_ ?_ <;> intro hg <;> (first | (exfalso; (try simp only [decide_eq_true_eq, decide_eq_false_iff_not] at hg); omega) | rw [hg])) | fail)
    · simp only [hi.2, hst]; simp_all
    · refine nx_loop (i + 1) ⟨by omega, by rw [hi.2, hst]; simp_all⟩ (by omega) (sub_z)
  · repeat' (first | fail | fail | refine nzl ?_ | refine nzd ?_ | ((first | with_reducible refine vl_id ?_ | with_reducible refine vd_id ?_); first | fail) | refine nzo ?_ | refine nc ?_ ?_ | (with_reducible intro _ <;> (try (exfalso; omega))) | refine vs_eqnil ?_ | refine vs_nenil ?_ | (refine nd ?_ ?_ <;> intro hg <;> (first | (exfalso; (try simp only [decide_eq_true_eq, decide_eq_false_iff_not] at hg); omega) | rw [hg])) | fail)
    rw [hi.2, show l.length - i = 0 by omega]; rfl
theorem contains_v {f : FuncId} {ca : List D} (l : List (List D)) (hz : ∀ x ∈ l, x.length = 3) (p : Nat → Bool) (hcall : ∀ i x, l[i]? = some x → VP Try.prog f (.agg x :: ca) (· = .ret (.lit (.bool (p i))))) (hd : ∀ x ∈ l, DLs x x) [DLs ca ca] :
    VP Try.prog 70 [.sl false false l, .fn f [] ca] (· = .ret (.lit (.bool (decide (0 ≤ idxF p 0 l.length))))) := by
  haveI := dlss_of hd
  refine vp_of Try.func70 rfl Try.ntmps70 rfl Try.results70 fun B => ?_
  repeat' (first | fail | fail | refine nzl ?_ | refine nzd ?_ | ((first | with_reducible refine vl_id ?_ | with_reducible refine vd_id ?_); first | refine cz (index_v l hz p hcall hd) ?_) | refine nzo ?_ | refine nc ?_ ?_ | (with_reducible intro _ <;> (try (exfalso; omega))) | refine vs_eqnil ?_ | refine vs_nenil ?_ | (refine nd ?_ ?_ <;> intro hg <;> (first | (exfalso; (try simp only [decide_eq_true_eq, decide_eq_false_iff_not] at hg); omega) | rw [hg])) | fail)
  all_goals rfl
theorem idxF_neg {q : Nat → Bool} : ∀ (n i : Nat), 0 ≤ idxF q i n ↔ ¬ ∀ j, i ≤ j → j < i + n → q j = false
  | 0, i => by simp only [idxF]; constructor
               · intro h; omega
               · intro h; exact (h fun j h1 h2 => by omega).elim
  | n + 1, i => by
    simp only [idxF]
    by_cases h : q i = true
    · rw [if_pos h]
      constructor
      · intro _ h2; have := h2 i (Nat.le_refl _) (by omega); rw [h] at this; cases this
      · intro _; omega
    · rw [if_neg h, idxF_neg n (i + 1)]
      constructor
      · intro h1 h2; exact h1 fun j hj1 hj2 => h2 j (by omega) (by omega)
      · intro h1 h2
        refine h1 fun j hj1 hj2 => ?_
        by_cases e : j = i
        · subst e; simpa using h
        · exact h2 j (by omega) (by omega)
theorem len3 {α : Type} {x : List α} (h : x.length = 3) : ∃ a b c, x = [a, b, c] := by
  match x, h with
  | [a, b, c], _ => exact ⟨a, b, c, rfl⟩
theorem all1_v {f : FuncId} {ca : List D} {a b c : D} {p : Bool} (hcall : VP Try.prog f (.agg [a, b, c] :: ca) (· = .ret (.lit (.bool p)))) [DLs [a, b, c] [a, b, c]] [DLs ca ca] :
    VP Try.prog 71 [.agg [a, b, c], .pt [.fn f [] ca]] (· = .ret (.lit (.bool (!p)))) := by
  refine vp_of Try.func71 rfl Try.ntmps71 rfl Try.results71 fun B => ?_
  repeat' (first | fail | fail | refine nzl ?_ | refine nzd ?_ | ((first | with_reducible refine vl_id ?_ | with_reducible refine vd_id ?_); first | refine cz (hcall) ?_) | refine nzo ?_ | refine nc ?_ ?_ | (with_reducible intro _ <;> (try (exfalso; omega))) | refine vs_eqnil ?_ | refine vs_nenil ?_ | (refine nd ?_ ?_ <;> intro hg <;> (first | (exfalso; (try simp only [decide_eq_true_eq, decide_eq_false_iff_not] at hg); omega) | rw [hg])) | fail)
  all_goals rfl
theorem all_v {f : FuncId} {ca : List D} (l : List (List D)) (hz : ∀ x ∈ l, x.length = 3) (p : Nat → Bool) (hcall : ∀ i x, l[i]? = some x → VP Try.prog f (.agg x :: ca) (· = .ret (.lit (.bool (p i))))) (hd : ∀ x ∈ l, DLs x x) [DLs ca ca] :
    VP Try.prog 55 [.sl false false l, .fn f [] ca] (· = .ret (.lit (.bool (decide (∀ i, i < l.length → p i = true))))) := by
  haveI := dlss_of hd
  refine vp_of Try.func55 rfl Try.ntmps55 rfl Try.results55 fun B => ?_
  repeat' (first | fail | fail | refine nzl ?_ | refine nzd ?_ | ((first | with_reducible refine vl_id ?_ | with_reducible refine vd_id ?_); first | refine vs_call (contains_v (ca := [.pt [.fn f [] ca]]) l hz (fun i => !p i) (fun i x hx => by obtain ⟨a, b, c, rfl⟩ := len3 (hz x (List.mem_of_getElem? hx)); haveI := hd _ (List.mem_of_getElem? hx); exact all1_v (hcall i _ hx)) hd) ?_ | refine vs_pan (contains_v (ca := [.pt [.fn f [] ca]]) l hz (fun i => !p i) (fun i x hx => by obtain ⟨a, b, c, rfl⟩ := len3 (hz x (List.mem_of_getElem? hx)); haveI := hd _ (List.mem_of_getElem? hx); exact all1_v (hcall i _ hx)) hd) ?_ | refine vd_ret (contains_v (ca := [.pt [.fn f [] ca]]) l hz (fun i => !p i) (fun i x hx => by obtain ⟨a, b, c, rfl⟩ := len3 (hz x (List.mem_of_getElem? hx)); haveI := hd _ (List.mem_of_getElem? hx); exact all1_v (hcall i _ hx)) hd) ?_ | refine vd_ownp (contains_v (ca := [.pt [.fn f [] ca]]) l hz (fun i => !p i) (fun i x hx => by obtain ⟨a, b, c, rfl⟩ := len3 (hz x (List.mem_of_getElem? hx)); haveI := hd _ (List.mem_of_getElem? hx); exact all1_v (hcall i _ hx)) hd) ?_ | refine vd_own (contains_v (ca := [.pt [.fn f [] ca]]) l hz (fun i => !p i) (fun i x hx => by obtain ⟨a, b, c, rfl⟩ := len3 (hz x (List.mem_of_getElem? hx)); haveI := hd _ (List.mem_of_getElem? hx); exact all1_v (hcall i _ hx)) hd) ?_ | refine vs_lentp (contains_v (ca := [.pt [.fn f [] ca]]) l hz (fun i => !p i) (fun i x hx => by obtain ⟨a, b, c, rfl⟩ := len3 (hz x (List.mem_of_getElem? hx)); haveI := hd _ (List.mem_of_getElem? hx); exact all1_v (hcall i _ hx)) hd) ?_ | refine vd_lent (contains_v (ca := [.pt [.fn f [] ca]]) l hz (fun i => !p i) (fun i x hx => by obtain ⟨a, b, c, rfl⟩ := len3 (hz x (List.mem_of_getElem? hx)); haveI := hd _ (List.mem_of_getElem? hx); exact all1_v (hcall i _ hx)) hd) ?_) | refine nzo ?_ | refine nc ?_ ?_ | (with_reducible intro _ <;> (try (exfalso; omega))) | refine vs_eqnil ?_ | refine vs_nenil ?_ | (refine nd ?_ ?_ <;> intro hg <;> (first | (exfalso; (try simp only [decide_eq_true_eq, decide_eq_false_iff_not] at hg); omega) | rw [hg])) | fail)
  all_goals (have hb : (decide (¬ 0 ≤ idxF (fun i => !p i) 0 l.length)) = decide (∀ i, i < l.length → p i = true) := by rw [Bool.eq_iff_iff]; simp [idxF_neg])
  all_goals rw [hb]
end Go.Proofs.Ytjfaihpiohccbaa

namespace Go.Proofs.Ytjfaihpiohccbaa
open Go.RowKit
set_option maxRecDepth 10000

structure DOp where
  k : Int
  f : Int
  b : List UInt8
abbrev opD (o : DOp) : List D := [.lit (.int .i64 o.k), .lit (.int .i64 o.f), .sl false false (byD o.b)]
structure Dk where
  f0 : List UInt8
  f1 : List UInt8
  f2 : List UInt8
  f3 : List UInt8
  head : Int
  waits : List DOp
  down : Bool
  fuse : Int
abbrev dkD (d : Dk) : List D := [.sl false false (byD d.f0), .sl false false (byD d.f1), .sl false false (byD d.f2), .sl false false (byD d.f3), .lit (.int .i64 d.head), .sl false false (d.waits.map opD), .lit (.bool d.down), .lit (.int .i64 d.fuse)]
instance (b : List UInt8) : DLss (b.map fun x => [D.lit (vb x)]) (b.map fun x => [D.lit (vb x)]) := dlss_of fun x hx => by obtain ⟨n, _, rfl⟩ := List.mem_map.1 hx; infer_instance
instance (l : List DOp) : DLss (l.map opD) (l.map opD) := dlss_of fun x hx => by obtain ⟨n, _, rfl⟩ := List.mem_map.1 hx; infer_instance
structure S4 where
  a : Int
  b : Int
  c : Int
  d : Int
abbrev szD (s : S4) : List D := [.lit (.int .i64 s.a), .lit (.int .i64 s.b), .lit (.int .i64 s.c), .lit (.int .i64 s.d)]
def S4.get (s : S4) (i : Int) : Int := if i = 0 then s.a else if i = 1 then s.b else if i = 2 then s.c else s.d
def aft1 (o : DOp) (n : Int) : Int := (if o.k = 2 then 0 else n) + o.b.length
def aft (o : DOp) (s : S4) : S4 := if o.f = 0 then { s with a := aft1 o s.a } else if o.f = 1 then { s with b := aft1 o s.b } else if o.f = 2 then { s with c := aft1 o s.c } else { s with d := aft1 o s.d }
def S4.in (s : S4) : Prop := (0 ≤ s.a ∧ s.a ≤ 4194304) ∧ (0 ≤ s.b ∧ s.b ≤ 4194304) ∧ (0 ≤ s.c ∧ s.c ≤ 4194304) ∧ (0 ≤ s.d ∧ s.d ≤ 4194304)
theorem byD_len (b : List UInt8) : (byD b).length = b.length := by simp [byD]
theorem after_v (s : S4) (o : DOp) (hs : s.in) (hf : 0 ≤ o.f ∧ o.f < 4) (hl : o.b.length ≤ 140737488355328) :
    VP Try.prog 58 [.agg (szD s), .agg (opD o)] (· = .ret (.agg (szD (aft o s)))) := by
  obtain ⟨k, f, b⟩ := o
  obtain ⟨a, b2, c, d⟩ := s
  simp only [S4.in] at hs
  have hbl := byD_len b
  simp only at hf hl
  have h4 : f = 0 ∨ f = 1 ∨ f = 2 ∨ f = 3 := by omega
  rcases h4 with rfl | rfl | rfl | rfl
  all_goals
    simp only [opD, szD]
    refine vp_of Try.func58 rfl Try.ntmps58 rfl Try.results58 fun B => ?_
    repeat' (first | fail | fail | refine nzl ?_ | refine nzd ?_ | ((first | with_reducible refine vl_id ?_ | with_reducible refine vd_id ?_); first | fail) | refine nzo ?_ | refine nc ?_ ?_ | (with_reducible intro _ <;> (try (exfalso; omega))) | refine vs_eqnil ?_ | refine vs_nenil ?_ | (refine nd ?_ ?_ <;> intro hg <;> (first | (exfalso; (try simp only [decide_eq_true_eq, decide_eq_false_iff_not] at hg); omega) | rw [hg])) | fail)
  all_goals (simp [aft, aft1, *]; done)
def sz4 (d : Dk) : S4 := ⟨d.f0.length, d.f1.length, d.f2.length, d.f3.length⟩
theorem sized_v (d : Dk) : VP Try.prog 54 [.agg (dkD d)] (· = .ret (.agg (szD (sz4 d)))) := by
  simp only [dkD, szD]
  refine vp_of Try.func54 rfl Try.ntmps54 rfl Try.results54 fun B => ?_
  repeat' (first | fail | fail | refine nzl ?_ | refine nzd ?_ | ((first | with_reducible refine vl_id ?_ | with_reducible refine vd_id ?_); first | fail) | refine nzo ?_ | refine nc ?_ ?_ | (with_reducible intro _ <;> (try (exfalso; omega))) | refine vs_eqnil ?_ | refine vs_nenil ?_ | (refine nd ?_ ?_ <;> intro hg <;> (first | (exfalso; (try simp only [decide_eq_true_eq, decide_eq_false_iff_not] at hg); omega) | rw [hg])) | fail)
  refine vw_rounds 5 ?_
  repeat' (first | fail | fail | refine nzl ?_ | refine nzd ?_ | ((first | with_reducible refine vl_id ?_ | with_reducible refine vd_id ?_); first | fail) | refine nzo ?_ | refine nc ?_ ?_ | (with_reducible intro _ <;> (try (exfalso; omega))) | refine vs_eqnil ?_ | refine vs_nenil ?_ | (refine nd ?_ ?_ <;> intro hg <;> (first | (exfalso; (try simp only [decide_eq_true_eq, decide_eq_false_iff_not] at hg); omega) | rw [hg])) | fail)
  all_goals first | (simp [sz4]; done) | (exfalso; omega)
end Go.Proofs.Ytjfaihpiohccbaa

namespace Go.Proofs.Ytjfaihpiohccbaa
open Go.RowKit
set_option maxRecDepth 10000
abbrev inD (l : List Int) : List (List D) := l.map fun n => [.lit (.int .i64 n)]
theorem index_i {f : FuncId} {ca : List D} (l : List Int) (p : Nat → Bool) (hcall : ∀ i n, l[i]? = some n → VP Try.prog f (.lit (.int .i64 n) :: ca) (· = .ret (.lit (.bool (p i))))) [DLs ca ca] :
    VP Try.prog 78 [.sl false false (inD l), .fn f [] ca] (· = .ret (.lit (.int .i64 (idxF p 0 (inD l).length)))) := by
  refine vp_of Try.func78 rfl Try.ntmps78 rfl Try.results78 fun B => ?_
  repeat' (first | fail | fail | refine nzl ?_ | refine nzd ?_ | ((first | with_reducible refine vl_id ?_ | with_reducible refine vd_id ?_); first | fail) | refine nzo ?_ | refine nc ?_ ?_ | (with_reducible intro _ <;> (try (exfalso; omega))) | refine vs_eqnil ?_ | refine vs_nenil ?_ | (refine nd ?_ ?_ <;> intro hg <;> (first | (exfalso; (try simp only [decide_eq_true_eq, decide_eq_false_iff_not] at hg); omega) | rw [hg])) | fail)
  refine vw_len 0 rfl fun hlen => ?_
  refine vw_loop (fun i : Nat => ⟨[(8, .d (.lit (.int .i64 i))), (7, .d (.lit (.int .i64 (inD l).length))), (1, .d (.fn f [] ca)), (0, .d (.sl false false (inD l)))], [], 0⟩) (fun i => i ≤ (inD l).length ∧ idxF p 0 (inD l).length = idxF p i ((inD l).length - i)) (fun i => (inD l).length - i) 0 (sub_z) ⟨Nat.zero_le _, rfl⟩ fun i hi => ?_
  rcases Nat.lt_or_ge i (inD l).length with h | h
  · obtain ⟨n, hn⟩ : ∃ n, l[i]? = some n := ⟨_, List.getElem?_eq_getElem (by simpa using h)⟩
    have hx' : (inD l)[((i : Nat) : Int).toNat]? = some [.lit (.int .i64 n)] := by simp [hn]
    have hst : idxF p i ((inD l).length - i) = if p i then (i : Int) else idxF p (i + 1) ((inD l).length - (i + 1)) := by rw [show (inD l).length - i = ((inD l).length - (i + 1)) + 1 by omega]; rfl
    repeat' (first | fail | fail | refine nzl ?_ | refine nzd ?_ | ((first | with_reducible refine vl_id ?_ | with_reducible refine vd_id ?_); first | refine cz (hcall i n hn) ?_) | refine nzo ?_ | refine nc ?_ ?_ | (with_reducible intro _ <;> (try (exfalso; omega))) | refine vs_eqnil ?_ | refine vs_nenil ?_ | (refine nd ?_ ?_ <;> intro hg <;> (first | (exfalso; (try simp only [decide_eq_true_eq, decide_eq_false_iff_not] at hg); omega) | rw [hg])) | fail)
    · rw [hi.2, hst]; simp_all
    · refine nx_loop (i + 1) ⟨by omega, by rw [hi.2, hst]; simp_all⟩ (by omega) (sub_z)
  · repeat' (first | fail | fail | refine nzl ?_ | refine nzd ?_ | ((first | with_reducible refine vl_id ?_ | with_reducible refine vd_id ?_); first | fail) | refine nzo ?_ | refine nc ?_ ?_ | (with_reducible intro _ <;> (try (exfalso; omega))) | refine vs_eqnil ?_ | refine vs_nenil ?_ | (refine nd ?_ ?_ <;> intro hg <;> (first | (exfalso; (try simp only [decide_eq_true_eq, decide_eq_false_iff_not] at hg); omega) | rw [hg])) | fail)
    rw [hi.2, show (inD l).length - i = 0 by omega]; rfl
theorem contains_i {f : FuncId} {ca : List D} (l : List Int) (p : Nat → Bool) (hcall : ∀ i n, l[i]? = some n → VP Try.prog f (.lit (.int .i64 n) :: ca) (· = .ret (.lit (.bool (p i))))) [DLs ca ca] :
    VP Try.prog 72 [.sl false false (inD l), .fn f [] ca] (· = .ret (.lit (.bool (decide (0 ≤ idxF p 0 (inD l).length))))) := by
  haveI : DLss (inD l) (inD l) := dlss_of fun x hx => by obtain ⟨n, _, rfl⟩ := List.mem_map.1 hx; infer_instance
  refine vp_of Try.func72 rfl Try.ntmps72 rfl Try.results72 fun B => ?_
  repeat' (first | fail | fail | refine nzl ?_ | refine nzd ?_ | ((first | with_reducible refine vl_id ?_ | with_reducible refine vd_id ?_); first | refine cz (index_i l p hcall) ?_) | refine nzo ?_ | refine nc ?_ ?_ | (with_reducible intro _ <;> (try (exfalso; omega))) | refine vs_eqnil ?_ | refine vs_nenil ?_ | (refine nd ?_ ?_ <;> intro hg <;> (first | (exfalso; (try simp only [decide_eq_true_eq, decide_eq_false_iff_not] at hg); omega) | rw [hg])) | fail)
  all_goals rfl
theorem all1_i {f : FuncId} {ca : List D} {n : Int} {p : Bool} (hcall : VP Try.prog f (.lit (.int .i64 n) :: ca) (· = .ret (.lit (.bool p)))) [DLs ca ca] :
    VP Try.prog 73 [.lit (.int .i64 n), .pt [.fn f [] ca]] (· = .ret (.lit (.bool (!p)))) := by
  refine vp_of Try.func73 rfl Try.ntmps73 rfl Try.results73 fun B => ?_
  repeat' (first | fail | fail | refine nzl ?_ | refine nzd ?_ | ((first | with_reducible refine vl_id ?_ | with_reducible refine vd_id ?_); first | refine cz (hcall) ?_) | refine nzo ?_ | refine nc ?_ ?_ | (with_reducible intro _ <;> (try (exfalso; omega))) | refine vs_eqnil ?_ | refine vs_nenil ?_ | (refine nd ?_ ?_ <;> intro hg <;> (first | (exfalso; (try simp only [decide_eq_true_eq, decide_eq_false_iff_not] at hg); omega) | rw [hg])) | fail)
  all_goals rfl
theorem all_i {f : FuncId} {ca : List D} (l : List Int) (p : Nat → Bool) (hcall : ∀ i n, l[i]? = some n → VP Try.prog f (.lit (.int .i64 n) :: ca) (· = .ret (.lit (.bool (p i))))) [DLs ca ca] :
    VP Try.prog 57 [.sl false false (inD l), .fn f [] ca] (· = .ret (.lit (.bool (decide (∀ i, i < l.length → p i = true))))) := by
  haveI : DLss (inD l) (inD l) := dlss_of fun x hx => by obtain ⟨n, _, rfl⟩ := List.mem_map.1 hx; infer_instance
  refine vp_of Try.func57 rfl Try.ntmps57 rfl Try.results57 fun B => ?_
  repeat' (first | fail | fail | refine nzl ?_ | refine nzd ?_ | ((first | with_reducible refine vl_id ?_ | with_reducible refine vd_id ?_); first | refine cz (contains_i (ca := [.pt [.fn f [] ca]]) l (fun i => !p i) (fun i n hn => all1_i (hcall i n hn))) ?_) | refine nzo ?_ | refine nc ?_ ?_ | (with_reducible intro _ <;> (try (exfalso; omega))) | refine vs_eqnil ?_ | refine vs_nenil ?_ | (refine nd ?_ ?_ <;> intro hg <;> (first | (exfalso; (try simp only [decide_eq_true_eq, decide_eq_false_iff_not] at hg); omega) | rw [hg])) | fail)
  all_goals (have hb : (decide (¬ 0 ≤ idxF (fun i => !p i) 0 (inD l).length)) = decide (∀ i, i < l.length → p i = true) := by rw [Bool.eq_iff_iff]; simp [idxF_neg])
  all_goals rw [hb]
def fits (n : Int) : Bool := decide (n ≤ 4194304) && true
theorem fits_v (n : Int) : VP Try.prog 53 [.lit (.int .i64 n)] (· = .ret (.lit (.bool (fits n)))) := by
  refine vp_of Try.func53 rfl Try.ntmps53 rfl Try.results53 fun B => ?_
  repeat' (first | fail | fail | refine nzl ?_ | refine nzd ?_ | ((first | with_reducible refine vl_id ?_ | with_reducible refine vd_id ?_); first | fail) | refine nzo ?_ | refine nc ?_ ?_ | (with_reducible intro _ <;> (try (exfalso; omega))) | refine vs_eqnil ?_ | refine vs_nenil ?_ | (refine nd ?_ ?_ <;> intro hg <;> (first | (exfalso; (try simp only [decide_eq_true_eq, decide_eq_false_iff_not] at hg); omega) | rw [hg])) | fail)
  all_goals simp [fits]
theorem fits4_v (s : S4) : VP Try.prog 57 [.sl false false [[.lit (.int .i64 s.a)], [.lit (.int .i64 s.b)], [.lit (.int .i64 s.c)], [.lit (.int .i64 s.d)]], .fn 53 [] []] (· = .ret (.lit (.bool (fits s.a && fits s.b && fits s.c && fits s.d)))) := by
  refine (all_i [s.a, s.b, s.c, s.d] (fun i => match [s.a, s.b, s.c, s.d][i]? with | some n => fits n | none => true) fun i n hn => by simp only [hn]; exact fits_v n).mono ?_
  rintro r rfl
  congr 3
  rw [Bool.eq_iff_iff]
  simp only [decide_eq_true_eq, Bool.and_eq_true]
  constructor
  · intro h; exact ⟨⟨⟨h 0 (by simp), h 1 (by simp)⟩, h 2 (by simp)⟩, h 3 (by simp)⟩
  · rintro ⟨⟨⟨h0, h1⟩, h2⟩, h3⟩ i hi
    match i, hi with
    | 0, _ => exact h0
    | 1, _ => exact h1
    | 2, _ => exact h2
    | 3, _ => exact h3
def mayD (o : DOp) : Bool := mayOp o.k o.f o.b.length
theorem may_d (o : DOp) : VP Try.prog 56 [.agg (opD o)] (· = .ret (.lit (.bool (mayD o)))) := by
  have := may_v o.k o.f (byD o.b)
  rw [byD_len] at this
  exact this
theorem opD_len (o : DOp) : (opD o).length = 3 := rfl
theorem alls_v (l : List DOp) : VP Try.prog 55 [.sl false false (l.map opD), .fn 56 [] []] (· = .ret (.lit (.bool (l.all mayD)))) := by
  refine (all_v (l.map opD) (fun x hx => by obtain ⟨o, _, rfl⟩ := List.mem_map.1 hx; rfl) (fun i => match l[i]? with | some o => mayD o | none => true) (fun i x hx => ?_) (fun x hx => by obtain ⟨o, _, rfl⟩ := List.mem_map.1 hx; unfold opD; infer_instance)).mono ?_
  · rw [List.getElem?_map, Option.map_eq_some_iff] at hx
    obtain ⟨o, ho, rfl⟩ := hx
    simp only [ho]; exact may_d o
  · rintro r rfl
    congr 3
    rw [Bool.eq_iff_iff]
    simp only [decide_eq_true_eq, List.all_eq_true, List.length_map]
    constructor
    · intro h o ho
      obtain ⟨i, hi, rfl⟩ := List.getElem_of_mem ho
      have := h i hi
      rwa [List.getElem?_eq_getElem hi] at this
    · intro h i hi
      rw [List.getElem?_eq_getElem hi]; exact h _ (List.getElem_mem hi)
end Go.Proofs.Ytjfaihpiohccbaa

namespace Go.Proofs.Ytjfaihpiohccbaa
open Go.RowKit
set_option maxRecDepth 10000
set_option maxHeartbeats 4000000
def flatK (d : Dk) : Bool := isFile d.head && decide (d.waits.length ≤ 4096) && decide (0 ≤ d.fuse) && decide (d.fuse ≤ 4096) && (!d.down || decide (d.fuse = 0))
def stepsOk : S4 → List DOp → Bool
  | _, [] => true
  | s, o :: l => fits ((aft o s).get o.f) && stepsOk (aft o s) l
def fits4 (s : S4) : Bool := fits s.a && fits s.b && fits s.c && fits s.d
def checkB (d : Dk) : Bool := flatK d && d.waits.all mayD && fits4 (sz4 d) && stepsOk (sz4 d) d.waits
theorem aft_in (s : S4) (o : DOp) (hs : s.in) (h : fits ((aft o s).get o.f) = true) (hf : 0 ≤ o.f ∧ o.f < 4) : (aft o s).in := by
  obtain ⟨k, f, b⟩ := o
  simp only [S4.in] at hs
  simp only at hf h
  have h4 : f = 0 ∨ f = 1 ∨ f = 2 ∨ f = 3 := by omega
  rcases h4 with rfl | rfl | rfl | rfl <;> simp [aft, aft1, S4.get, fits, S4.in] at h ⊢ <;> split at h <;> simp_all <;> omega
theorem check_v (d : Dk) (hw : ∀ o ∈ d.waits, o.b.length ≤ 1000000000) : VP Try.prog 24 [.agg (dkD d)] (· = .ret (.lit (.int .i64 (if checkB d then 0 else 320)))) := by
  simp only [dkD]
  refine vp_of Try.func24 rfl Try.ntmps24 rfl Try.results24 fun B => ?_
  refine vw_seq ?_
  repeat' (first | fail | fail | refine nzl ?_ | refine nzd ?_ | ((first | with_reducible refine vl_id ?_ | with_reducible refine vd_id ?_); first | fail) | ((fail_if_success (with_reducible refine vw_seq ?_)); refine nzo ?_) | refine nc ?_ ?_ | (with_reducible intro _ <;> (try (exfalso; omega))) | refine vs_eqnil ?_ | refine vs_nenil ?_ | (refine nd ?_ ?_ <;> intro hg <;> (first | (exfalso; (try simp only [decide_eq_true_eq, decide_eq_false_iff_not] at hg); omega) | rw [hg])) | fail)
  refine vw_cut (fun b : Bool => ⟨[(3, .d (.lit (.bool b))), (1, .ptr 0 0)], [.c 0 0 ((dkD d).map .d)], 1⟩) (fun b => b = flatK d) ?_ fun b hb => ?_
  · repeat' (first | fail | fail | refine nzl ?_ | refine nzd ?_ | ((first | with_reducible refine vl_id ?_ | with_reducible refine vd_id ?_); first | refine cz (file_v d.head) ?_) | refine nzo ?_ | refine nc ?_ ?_ | (with_reducible intro _ <;> (try (exfalso; omega))) | refine vs_eqnil ?_ | refine vs_nenil ?_ | (refine nd ?_ ?_ <;> intro hg <;> (first | (exfalso; (try simp only [decide_eq_true_eq, decide_eq_false_iff_not] at hg); omega) | rw [hg])) | fail)
    all_goals (refine nx_cut _ ?_ (sub_z); (try simp only [List.length_map] at *); simp [flatK, *]; try omega)
  · simp only [dkD]
    subst hb
    refine vw_seq ?_
    repeat' (first | fail | fail | refine nzl ?_ | refine nzd ?_ | ((first | with_reducible refine vl_id ?_ | with_reducible refine vd_id ?_); first | fail) | ((fail_if_success (with_reducible refine vw_seq ?_)); refine nzo ?_) | refine nc ?_ ?_ | (with_reducible intro _ <;> (try (exfalso; omega))) | refine vs_eqnil ?_ | refine vs_nenil ?_ | (refine nd ?_ ?_ <;> intro hg <;> (first | (exfalso; (try simp only [decide_eq_true_eq, decide_eq_false_iff_not] at hg); omega) | rw [hg])) | fail)
    refine vw_seq ?_
    repeat' (first | fail | fail | refine nzl ?_ | refine nzd ?_ | ((first | with_reducible refine vl_id ?_ | with_reducible refine vd_id ?_); first | refine cz (sized_v d) ?_) | ((fail_if_success (with_reducible refine vw_seq ?_)); refine nzo ?_) | refine nc ?_ ?_ | (with_reducible intro _ <;> (try (exfalso; omega))) | refine vs_eqnil ?_ | refine vs_nenil ?_ | (refine nd ?_ ?_ <;> intro hg <;> (first | (exfalso; (try simp only [decide_eq_true_eq, decide_eq_false_iff_not] at hg); omega) | rw [hg])) | fail)
    refine vw_seq ?_
    repeat' (first | fail | fail | refine nzl ?_ | refine nzd ?_ | ((first | with_reducible refine vl_id ?_ | with_reducible refine vd_id ?_); first | refine cz (alls_v d.waits) ?_ | refine cz (fits4_v (sz4 d)) ?_) | refine nzo ?_ | refine nc ?_ ?_ | (with_reducible intro _ <;> (try (exfalso; omega))) | refine vs_eqnil ?_ | refine vs_nenil ?_ | (refine nd ?_ ?_ <;> intro hg <;> (first | (exfalso; (try simp only [decide_eq_true_eq, decide_eq_false_iff_not] at hg); omega) | rw [hg])) | fail)
    · rename_i h1; rw [show checkB d = false by simp at h1; simp [checkB, h1]]; rfl
    · rename_i h1 h2; rw [show checkB d = false by have h2 : d.waits.all mayD = false := by simpa using h2
                                                   simp [checkB, h2]]; rfl
    · rename_i h1 h2 h3; rw [show checkB d = false by have h3 : fits4 (sz4 d) = false := by unfold fits4; simpa only [Bool.not_eq_true'] using h3
                                                      simp [checkB, h3]]; rfl
    rename_i h1 h2 h3
    have h1 : flatK d = true := by simpa using h1
    have h2 : d.waits.all mayD = true := by simpa using h2
    have h3 : fits4 (sz4 d) = true := by simpa [fits4] using h3
    have hin : (sz4 d).in := by simp [fits4, fits] at h3; simp [S4.in, sz4] at h3 ⊢; omega
    have hck : checkB d = stepsOk (sz4 d) d.waits := by simp [checkB, h1, h2, h3]
    rw [hck]
    refine vw_len 54 rfl fun hlen => ?_
    refine vw_loop (fun z : Nat × S4 => ⟨[(56, .d (.lit (.int .i64 z.1))), (55, .d (.lit (.int .i64 (d.waits.map opD).length))), (54, .d (.sl false false (d.waits.map opD))), (5, .ptr 1 0), (4, .fn (.func 53) [] [])], [.c 1 0 ((szD z.2).map .d)], 2⟩)
      (fun z => z.1 ≤ d.waits.length ∧ z.2.in ∧ stepsOk (sz4 d) d.waits = stepsOk z.2 (d.waits.drop z.1)) (fun z => d.waits.length - z.1) (0, sz4 d) (sub_z) ⟨Nat.zero_le _, hin, rfl⟩ fun z hz => ?_
    obtain ⟨i, s⟩ := z
    simp only at hz
    rcases Nat.lt_or_ge i d.waits.length with h | h
    · have ho : d.waits[i]? = some d.waits[i] := List.getElem?_eq_getElem h
      have hm := List.all_eq_true.1 h2 _ (List.getElem_mem h)
      have hl := hw _ (List.getElem_mem h)
      have hdrop : d.waits.drop i = d.waits[i] :: d.waits.drop (i + 1) := List.drop_eq_getElem_cons h
      generalize d.waits[i] = o at *
      have hx' : (d.waits.map opD)[((i : Nat) : Int).toNat]? = some (opD o) := by simp [ho]
      have hlt : (i : Int) < ((d.waits.map opD).length : Int) := by simpa using h
      have hf : 0 ≤ o.f ∧ o.f < 4 := by simp [mayD, mayOp, isFile] at hm; omega
      have haf := after_v s o hz.2.1 hf (by omega)
      obtain ⟨k, f, b⟩ := o
      simp only at hf
      have h4 : f = 0 ∨ f = 1 ∨ f = 2 ∨ f = 3 := by omega
      rcases h4 with rfl | rfl | rfl | rfl
      all_goals
        simp only [opD] at hx' haf
        repeat' (first | fail | fail | refine nzl ?_ | refine nzd ?_ | ((first | with_reducible refine vl_id ?_ | with_reducible refine vd_id ?_); first | refine cz (haf) ?_ | refine vs_call (fits_v _) ?_ | refine vs_pan (fits_v _) ?_ | refine vd_ret (fits_v _) ?_ | refine vd_ownp (fits_v _) ?_ | refine vd_own (fits_v _) ?_ | refine vs_lentp (fits_v _) ?_ | refine vd_lent (fits_v _) ?_) | refine nzo ?_ | refine nc ?_ ?_ | (with_reducible intro _ <;> (try (exfalso; omega))) | refine vs_eqnil ?_ | refine vs_nenil ?_ | (refine nd ?_ ?_ <;> intro hg <;> (first | (exfalso; (try simp only [decide_eq_true_eq, decide_eq_false_iff_not] at hg); omega) | rw [hg])) | fail)
      all_goals first | (rw [hz.2.2, hdrop]; simp_all [stepsOk, S4.get]; done) | skip
      all_goals rename_i hfit
      · have hg : fits ((aft ⟨k, 0, b⟩ s).get 0) = true := by simpa [S4.get] using hfit
        exact nx_loop (i + 1, aft ⟨k, 0, b⟩ s) ⟨by simp only; omega, aft_in s _ hz.2.1 hg (by simp), by rw [hz.2.2, hdrop]; simp [stepsOk, hg]⟩ (by simp only; omega) (sub_z)
      · have hg : fits ((aft ⟨k, 1, b⟩ s).get 1) = true := by simpa [S4.get] using hfit
        exact nx_loop (i + 1, aft ⟨k, 1, b⟩ s) ⟨by simp only; omega, aft_in s _ hz.2.1 hg (by simp), by rw [hz.2.2, hdrop]; simp [stepsOk, hg]⟩ (by simp only; omega) (sub_z)
      · have hg : fits ((aft ⟨k, 2, b⟩ s).get 2) = true := by simpa [S4.get] using hfit
        exact nx_loop (i + 1, aft ⟨k, 2, b⟩ s) ⟨by simp only; omega, aft_in s _ hz.2.1 hg (by simp), by rw [hz.2.2, hdrop]; simp [stepsOk, hg]⟩ (by simp only; omega) (sub_z)
      · have hg : fits ((aft ⟨k, 3, b⟩ s).get 3) = true := by simpa [S4.get] using hfit
        exact nx_loop (i + 1, aft ⟨k, 3, b⟩ s) ⟨by simp only; omega, aft_in s _ hz.2.1 hg (by simp), by rw [hz.2.2, hdrop]; simp [stepsOk, hg]⟩ (by simp only; omega) (sub_z)
    · have hlt : ¬ (i : Int) < ((d.waits.map opD).length : Int) := by simpa using h
      repeat' (first | fail | fail | refine nzl ?_ | refine nzd ?_ | ((first | with_reducible refine vl_id ?_ | with_reducible refine vd_id ?_); first | fail) | refine nzo ?_ | refine nc ?_ ?_ | (with_reducible intro _ <;> (try (exfalso; omega))) | refine vs_eqnil ?_ | refine vs_nenil ?_ | (refine nd ?_ ?_ <;> intro hg <;> (first | (exfalso; (try simp only [decide_eq_true_eq, decide_eq_false_iff_not] at hg); omega) | rw [hg])) | fail)
      all_goals (rw [hz.2.2, List.drop_eq_nil_of_le h]; rfl)
end Go.Proofs.Ytjfaihpiohccbaa
