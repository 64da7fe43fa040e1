/- Walks by data and names, part 40: Layer 21, by V: codec's TakeVector. The program's frames, by V: a reader of bytes. -/
import Derived.Test.YtbgcjnfhadhjeaaGreatPk28
import Derived.Test.YtbgcjnfhadhjeaaGreatPk39
namespace Go.Proofs.YtbgcjnfhadhjeaaGreat
set_option maxRecDepth 20000
open Go.RowKit
set_option maxRecDepth 10000
set_option maxHeartbeats 4000000
theorem Vy (b : List UInt8) (e : Int) : VP Tryz.prog 218 [.pt [CV b, Ar e]] (· = .ret (Ar (AH b).length)) := by
 refine Am fun B => ?_
 repeat' (first | refine Al ?_ | (refine Ay ?_; first | refine Aq ?_ | refine Bd ?_) | refine Ak ?_ | refine nc ?_ ?_ | (with_reducible intro _ <;> (try (exfalso; omega))) | refine Ad ?_ | (refine nd ?_ ?_ <;> intro hg <;> first | exact xo hg | rw [hg]))
 all_goals first | rfl | trace_state
theorem Ra (B0 : List UInt8) (hb : B0.length ≤ 1000000) : VP Tryz.prog 192 [CV B0] (· = .ret (.tup [.agg (Hz (Cv B0).1), Ar (Cv B0).2.1, Ar (Cv B0).2.2])) := by
 have hbl := AA B0
 have hmin : min ((AH B0).length : Int) 1048576 = ((AH B0).length : Int) := by omega
 have hcut : Fv none (some ((AH B0).length : Int)) (AH B0) = AH B0 := by rw [hbl, QK, List.take_of_length_le (Nat.le_refl _)]
 have cl := I7 B0 (by omega)
 refine Am fun B => ?_
 repeat' (first | refine Al ?_ | refine Ak ?_ | refine nc ?_ ?_ | (with_reducible intro _ <;> (try (exfalso; omega))) | refine Ad ?_ | (refine nd ?_ ?_ <;> intro hg <;> first | exact xo hg | rw [hg]))
 refine Ae 225 fun _ => ?_
 refine AC ?_
 repeat' (first | refine Al ?_ | ((fail_if_success (with_reducible refine AC ?_)); refine Ak ?_) | refine nc ?_ ?_ | (with_reducible intro _ <;> (try (exfalso; omega))) | refine Ad ?_ | (refine nd ?_ ?_ <;> intro hg <;> first | exact xo hg | rw [hg]))
 refine AC ?_
 repeat' (first | rw [hmin] | refine Al ?_ | ((fail_if_success (with_reducible refine AC ?_)); refine Ak ?_) | refine nc ?_ ?_ | (with_reducible intro _ <;> (try (exfalso; omega))) | refine Ad ?_ | (refine nd ?_ ?_ <;> intro hg <;> first | exact xo hg | rw [hg]))
 refine AC ?_
 repeat' (first | refine Al ?_ | ((fail_if_success (with_reducible refine AC ?_)); refine Ak ?_) | refine nc ?_ ?_ | (with_reducible intro _ <;> (try (exfalso; omega))) | refine Ad ?_ | (refine nd ?_ ?_ <;> intro hg <;> first | exact xo hg | rw [hg]))
 refine Nh 3 rfl ?_
 ·skip
  repeat' (first | rw [hcut] | refine Al ?_ | (refine Ay ?_; first | refine Ae 216 fun _ => ?_ | refine cz (cl) ?_ | refine Ae 258 fun _ => ?_ | refine Ae 226 fun _ => ?_ | refine Ae 185 fun _ => ?_ | refine Ae 220 fun _ => ?_ | refine Ae 218 fun _ => ?_ | refine Aq ?_ | refine Bd ?_ | (refine AK (Aa 110) ?_; first | refine Ag (Aa 110) ?_ | refine An (Ai 110) ?_ | (refine Ah (Ab _ 110) ?_ ?_ <;> intro _ <;> (try (exfalso; omega))) | (refine Ao (Ab _ 110) ?_ ?_ <;> intro _)) | refine AX ?_ | refine Bg ?_ | refine Bs (hc := AN (fd := 247) Tryz.func212 rfl Tryz.ntmps212 Tryz.results212 fun _ => ?_)) | refine Ak ?_ | refine nc ?_ ?_ | (with_reducible intro _ <;> (try (exfalso; omega))) | refine Ad ?_ | (refine nd ?_ ?_ <;> intro hg <;> first | exact xo hg | rw [hg]) | refine AR Tryz.func247 rfl Tryz.ntmps247 Tryz.results247 ?_)
  refine AF 9 ?_
  repeat' (first | rw [hcut] | refine Al ?_ | (refine Ay ?_; first | refine Ae 216 fun _ => ?_ | refine cz (cl) ?_ | refine Ae 258 fun _ => ?_ | refine Ae 226 fun _ => ?_ | refine Ae 185 fun _ => ?_ | refine Ae 220 fun _ => ?_ | refine Ae 218 fun _ => ?_ | refine Aq ?_ | refine Bd ?_ | (refine AK (Aa 110) ?_; first | refine Ag (Aa 110) ?_ | refine An (Ai 110) ?_ | (refine Ah (Ab _ 110) ?_ ?_ <;> intro _ <;> (try (exfalso; omega))) | (refine Ao (Ab _ 110) ?_ ?_ <;> intro _)) | refine AX ?_ | refine Bg ?_ | refine Bs (hc := AN (fd := 247) Tryz.func212 rfl Tryz.ntmps212 Tryz.results212 fun _ => ?_)) | refine Ak ?_ | refine nc ?_ ?_ | (with_reducible intro _ <;> (try (exfalso; omega))) | refine Ad ?_ | (refine nd ?_ ?_ <;> intro hg <;> first | exact xo hg | rw [hg]) | refine AR Tryz.func247 rfl Tryz.ntmps247 Tryz.results247 ?_)
  by_cases h0 : 8 ≤ B0.length
  rotate_left 1
  ·have c := CG true B0 8 (by omega) h0
   rw [show ((8 : Nat) : Int) = 8 from rfl] at c
   refine Aj [(4, none)] c ?_
   repeat' (first | rw [hcut] | refine Al ?_ | (refine Ay ?_; first | refine Ae 216 fun _ => ?_ | refine cz (cl) ?_ | refine Ae 258 fun _ => ?_ | refine Ae 226 fun _ => ?_ | refine Ae 185 fun _ => ?_ | refine Ae 220 fun _ => ?_ | refine Ae 218 fun _ => ?_ | refine Aq ?_ | refine Bd ?_ | (refine AK (Aa 110) ?_; first | refine Ag (Aa 110) ?_ | refine An (Ai 110) ?_ | (refine Ah (Ab _ 110) ?_ ?_ <;> intro _ <;> (try (exfalso; omega))) | (refine Ao (Ab _ 110) ?_ ?_ <;> intro _)) | refine AX ?_ | refine Bg ?_ | refine Bs (hc := AN (fd := 247) Tryz.func212 rfl Tryz.ntmps212 Tryz.results212 fun _ => ?_)) | refine Ak ?_ | refine nc ?_ ?_ | (with_reducible intro _ <;> (try (exfalso; omega))) | refine Ad ?_ | (refine nd ?_ ?_ <;> intro hg <;> first | exact xo hg | rw [hg]) | refine AR Tryz.func247 rfl Tryz.ntmps247 Tryz.results247 ?_)
   rw [Cv, if_pos (by omega)]
   rfl
  have c0 := Dv true B0 8 (by omega) h0
  rw [show ((8 : Nat) : Int) = 8 from rfl] at c0
  obtain ⟨B1, hB1⟩ : ∃ x, B0.drop 8 = x := ⟨_, rfl⟩
  rw [hB1] at c0
  have hl1 : B1.length = B0.length - 8 := by rw [← hB1]; simp
  refine Aj [(4, none)] c0 ?_
  clear c0
  repeat' (first | rw [hcut] | refine Al ?_ | (refine Ay ?_; first | refine Ae 216 fun _ => ?_ | refine cz (cl) ?_ | refine Ae 258 fun _ => ?_ | refine Ae 226 fun _ => ?_ | refine Ae 185 fun _ => ?_ | refine Ae 220 fun _ => ?_ | refine Ae 218 fun _ => ?_ | refine Aq ?_ | refine Bd ?_ | (refine AK (Aa 110) ?_; first | refine Ag (Aa 110) ?_ | refine An (Ai 110) ?_ | (refine Ah (Ab _ 110) ?_ ?_ <;> intro _ <;> (try (exfalso; omega))) | (refine Ao (Ab _ 110) ?_ ?_ <;> intro _)) | refine AX ?_ | refine Bg ?_ | refine Bs (hc := AN (fd := 247) Tryz.func212 rfl Tryz.ntmps212 Tryz.results212 fun _ => ?_)) | refine Ak ?_ | refine nc ?_ ?_ | (with_reducible intro _ <;> (try (exfalso; omega))) | refine Ad ?_ | (refine nd ?_ ?_ <;> intro hg <;> first | exact xo hg | rw [hg]) | refine AR Tryz.func247 rfl Tryz.ntmps247 Tryz.results247 ?_)
  by_cases h1 : 8 ≤ B1.length
  rotate_left 1
  ·have c := CG true B1 8 (by omega) h1
   rw [show ((8 : Nat) : Int) = 8 from rfl] at c
   refine Aj [(4, none)] c ?_
   repeat' (first | rw [hcut] | refine Al ?_ | (refine Ay ?_; first | refine Ae 216 fun _ => ?_ | refine cz (cl) ?_ | refine Ae 258 fun _ => ?_ | refine Ae 226 fun _ => ?_ | refine Ae 185 fun _ => ?_ | refine Ae 220 fun _ => ?_ | refine Ae 218 fun _ => ?_ | refine Aq ?_ | refine Bd ?_ | (refine AK (Aa 110) ?_; first | refine Ag (Aa 110) ?_ | refine An (Ai 110) ?_ | (refine Ah (Ab _ 110) ?_ ?_ <;> intro _ <;> (try (exfalso; omega))) | (refine Ao (Ab _ 110) ?_ ?_ <;> intro _)) | refine AX ?_ | refine Bg ?_ | refine Bs (hc := AN (fd := 247) Tryz.func212 rfl Tryz.ntmps212 Tryz.results212 fun _ => ?_)) | refine Ak ?_ | refine nc ?_ ?_ | (with_reducible intro _ <;> (try (exfalso; omega))) | refine Ad ?_ | (refine nd ?_ ?_ <;> intro hg <;> first | exact xo hg | rw [hg]) | refine AR Tryz.func247 rfl Tryz.ntmps247 Tryz.results247 ?_)
   rw [Cv, if_pos (by omega)]
   rfl
  have c1 := Dv true B1 8 (by omega) h1
  rw [show ((8 : Nat) : Int) = 8 from rfl] at c1
  obtain ⟨B2, hB2⟩ : ∃ x, B1.drop 8 = x := ⟨_, rfl⟩
  rw [hB2] at c1
  have hl2 : B2.length = B1.length - 8 := by rw [← hB2]; simp
  refine Aj [(4, none)] c1 ?_
  clear c1
  repeat' (first | rw [hcut] | refine Al ?_ | (refine Ay ?_; first | refine Ae 216 fun _ => ?_ | refine cz (cl) ?_ | refine Ae 258 fun _ => ?_ | refine Ae 226 fun _ => ?_ | refine Ae 185 fun _ => ?_ | refine Ae 220 fun _ => ?_ | refine Ae 218 fun _ => ?_ | refine Aq ?_ | refine Bd ?_ | (refine AK (Aa 110) ?_; first | refine Ag (Aa 110) ?_ | refine An (Ai 110) ?_ | (refine Ah (Ab _ 110) ?_ ?_ <;> intro _ <;> (try (exfalso; omega))) | (refine Ao (Ab _ 110) ?_ ?_ <;> intro _)) | refine AX ?_ | refine Bg ?_ | refine Bs (hc := AN (fd := 247) Tryz.func212 rfl Tryz.ntmps212 Tryz.results212 fun _ => ?_)) | refine Ak ?_ | refine nc ?_ ?_ | (with_reducible intro _ <;> (try (exfalso; omega))) | refine Ad ?_ | (refine nd ?_ ?_ <;> intro hg <;> first | exact xo hg | rw [hg]) | refine AR Tryz.func247 rfl Tryz.ntmps247 Tryz.results247 ?_)
  by_cases h2 : 8 ≤ B2.length
  rotate_left 1
  ·have c := CG true B2 8 (by omega) h2
   rw [show ((8 : Nat) : Int) = 8 from rfl] at c
   refine Aj [(4, none)] c ?_
   repeat' (first | rw [hcut] | refine Al ?_ | (refine Ay ?_; first | refine Ae 216 fun _ => ?_ | refine cz (cl) ?_ | refine Ae 258 fun _ => ?_ | refine Ae 226 fun _ => ?_ | refine Ae 185 fun _ => ?_ | refine Ae 220 fun _ => ?_ | refine Ae 218 fun _ => ?_ | refine Aq ?_ | refine Bd ?_ | (refine AK (Aa 110) ?_; first | refine Ag (Aa 110) ?_ | refine An (Ai 110) ?_ | (refine Ah (Ab _ 110) ?_ ?_ <;> intro _ <;> (try (exfalso; omega))) | (refine Ao (Ab _ 110) ?_ ?_ <;> intro _)) | refine AX ?_ | refine Bg ?_ | refine Bs (hc := AN (fd := 247) Tryz.func212 rfl Tryz.ntmps212 Tryz.results212 fun _ => ?_)) | refine Ak ?_ | refine nc ?_ ?_ | (with_reducible intro _ <;> (try (exfalso; omega))) | refine Ad ?_ | (refine nd ?_ ?_ <;> intro hg <;> first | exact xo hg | rw [hg]) | refine AR Tryz.func247 rfl Tryz.ntmps247 Tryz.results247 ?_)
   rw [Cv, if_pos (by omega)]
   rfl
  have c2 := Dv true B2 8 (by omega) h2
  rw [show ((8 : Nat) : Int) = 8 from rfl] at c2
  obtain ⟨B3, hB3⟩ : ∃ x, B2.drop 8 = x := ⟨_, rfl⟩
  rw [hB3] at c2
  have hl3 : B3.length = B2.length - 8 := by rw [← hB3]; simp
  refine Aj [(4, none)] c2 ?_
  clear c2
  repeat' (first | rw [hcut] | refine Al ?_ | (refine Ay ?_; first | refine Ae 216 fun _ => ?_ | refine cz (cl) ?_ | refine Ae 258 fun _ => ?_ | refine Ae 226 fun _ => ?_ | refine Ae 185 fun _ => ?_ | refine Ae 220 fun _ => ?_ | refine Ae 218 fun _ => ?_ | refine Aq ?_ | refine Bd ?_ | (refine AK (Aa 110) ?_; first | refine Ag (Aa 110) ?_ | refine An (Ai 110) ?_ | (refine Ah (Ab _ 110) ?_ ?_ <;> intro _ <;> (try (exfalso; omega))) | (refine Ao (Ab _ 110) ?_ ?_ <;> intro _)) | refine AX ?_ | refine Bg ?_ | refine Bs (hc := AN (fd := 247) Tryz.func212 rfl Tryz.ntmps212 Tryz.results212 fun _ => ?_)) | refine Ak ?_ | refine nc ?_ ?_ | (with_reducible intro _ <;> (try (exfalso; omega))) | refine Ad ?_ | (refine nd ?_ ?_ <;> intro hg <;> first | exact xo hg | rw [hg]) | refine AR Tryz.func247 rfl Tryz.ntmps247 Tryz.results247 ?_)
  by_cases h3 : 8 ≤ B3.length
  rotate_left 1
  ·have c := CG true B3 8 (by omega) h3
   rw [show ((8 : Nat) : Int) = 8 from rfl] at c
   refine Aj [(4, none)] c ?_
   repeat' (first | rw [hcut] | refine Al ?_ | (refine Ay ?_; first | refine Ae 216 fun _ => ?_ | refine cz (cl) ?_ | refine Ae 258 fun _ => ?_ | refine Ae 226 fun _ => ?_ | refine Ae 185 fun _ => ?_ | refine Ae 220 fun _ => ?_ | refine Ae 218 fun _ => ?_ | refine Aq ?_ | refine Bd ?_ | (refine AK (Aa 110) ?_; first | refine Ag (Aa 110) ?_ | refine An (Ai 110) ?_ | (refine Ah (Ab _ 110) ?_ ?_ <;> intro _ <;> (try (exfalso; omega))) | (refine Ao (Ab _ 110) ?_ ?_ <;> intro _)) | refine AX ?_ | refine Bg ?_ | refine Bs (hc := AN (fd := 247) Tryz.func212 rfl Tryz.ntmps212 Tryz.results212 fun _ => ?_)) | refine Ak ?_ | refine nc ?_ ?_ | (with_reducible intro _ <;> (try (exfalso; omega))) | refine Ad ?_ | (refine nd ?_ ?_ <;> intro hg <;> first | exact xo hg | rw [hg]) | refine AR Tryz.func247 rfl Tryz.ntmps247 Tryz.results247 ?_)
   rw [Cv, if_pos (by omega)]
   rfl
  have c3 := Dv true B3 8 (by omega) h3
  rw [show ((8 : Nat) : Int) = 8 from rfl] at c3
  obtain ⟨B4, hB4⟩ : ∃ x, B3.drop 8 = x := ⟨_, rfl⟩
  rw [hB4] at c3
  have hl4 : B4.length = B3.length - 8 := by rw [← hB4]; simp
  refine Aj [(4, none)] c3 ?_
  clear c3
  repeat' (first | rw [hcut] | refine Al ?_ | (refine Ay ?_; first | refine Ae 216 fun _ => ?_ | refine cz (cl) ?_ | refine Ae 258 fun _ => ?_ | refine Ae 226 fun _ => ?_ | refine Ae 185 fun _ => ?_ | refine Ae 220 fun _ => ?_ | refine Ae 218 fun _ => ?_ | refine Aq ?_ | refine Bd ?_ | (refine AK (Aa 110) ?_; first | refine Ag (Aa 110) ?_ | refine An (Ai 110) ?_ | (refine Ah (Ab _ 110) ?_ ?_ <;> intro _ <;> (try (exfalso; omega))) | (refine Ao (Ab _ 110) ?_ ?_ <;> intro _)) | refine AX ?_ | refine Bg ?_ | refine Bs (hc := AN (fd := 247) Tryz.func212 rfl Tryz.ntmps212 Tryz.results212 fun _ => ?_)) | refine Ak ?_ | refine nc ?_ ?_ | (with_reducible intro _ <;> (try (exfalso; omega))) | refine Ad ?_ | (refine nd ?_ ?_ <;> intro hg <;> first | exact xo hg | rw [hg]) | refine AR Tryz.func247 rfl Tryz.ntmps247 Tryz.results247 ?_)
  by_cases h4 : 8 ≤ B4.length
  rotate_left 1
  ·have c := CG true B4 8 (by omega) h4
   rw [show ((8 : Nat) : Int) = 8 from rfl] at c
   refine Aj [(4, none)] c ?_
   repeat' (first | rw [hcut] | refine Al ?_ | (refine Ay ?_; first | refine Ae 216 fun _ => ?_ | refine cz (cl) ?_ | refine Ae 258 fun _ => ?_ | refine Ae 226 fun _ => ?_ | refine Ae 185 fun _ => ?_ | refine Ae 220 fun _ => ?_ | refine Ae 218 fun _ => ?_ | refine Aq ?_ | refine Bd ?_ | (refine AK (Aa 110) ?_; first | refine Ag (Aa 110) ?_ | refine An (Ai 110) ?_ | (refine Ah (Ab _ 110) ?_ ?_ <;> intro _ <;> (try (exfalso; omega))) | (refine Ao (Ab _ 110) ?_ ?_ <;> intro _)) | refine AX ?_ | refine Bg ?_ | refine Bs (hc := AN (fd := 247) Tryz.func212 rfl Tryz.ntmps212 Tryz.results212 fun _ => ?_)) | refine Ak ?_ | refine nc ?_ ?_ | (with_reducible intro _ <;> (try (exfalso; omega))) | refine Ad ?_ | (refine nd ?_ ?_ <;> intro hg <;> first | exact xo hg | rw [hg]) | refine AR Tryz.func247 rfl Tryz.ntmps247 Tryz.results247 ?_)
   rw [Cv, if_pos (by omega)]
   rfl
  have c4 := Dv true B4 8 (by omega) h4
  rw [show ((8 : Nat) : Int) = 8 from rfl] at c4
  obtain ⟨B5, hB5⟩ : ∃ x, B4.drop 8 = x := ⟨_, rfl⟩
  rw [hB5] at c4
  have hl5 : B5.length = B4.length - 8 := by rw [← hB5]; simp
  refine Aj [(4, none)] c4 ?_
  clear c4
  repeat' (first | rw [hcut] | refine Al ?_ | (refine Ay ?_; first | refine Ae 216 fun _ => ?_ | refine cz (cl) ?_ | refine Ae 258 fun _ => ?_ | refine Ae 226 fun _ => ?_ | refine Ae 185 fun _ => ?_ | refine Ae 220 fun _ => ?_ | refine Ae 218 fun _ => ?_ | refine Aq ?_ | refine Bd ?_ | (refine AK (Aa 110) ?_; first | refine Ag (Aa 110) ?_ | refine An (Ai 110) ?_ | (refine Ah (Ab _ 110) ?_ ?_ <;> intro _ <;> (try (exfalso; omega))) | (refine Ao (Ab _ 110) ?_ ?_ <;> intro _)) | refine AX ?_ | refine Bg ?_ | refine Bs (hc := AN (fd := 247) Tryz.func212 rfl Tryz.ntmps212 Tryz.results212 fun _ => ?_)) | refine Ak ?_ | refine nc ?_ ?_ | (with_reducible intro _ <;> (try (exfalso; omega))) | refine Ad ?_ | (refine nd ?_ ?_ <;> intro hg <;> first | exact xo hg | rw [hg]) | refine AR Tryz.func247 rfl Tryz.ntmps247 Tryz.results247 ?_)
  by_cases h5 : 8 ≤ B5.length
  rotate_left 1
  ·have c := CG true B5 8 (by omega) h5
   rw [show ((8 : Nat) : Int) = 8 from rfl] at c
   refine Aj [(4, none)] c ?_
   repeat' (first | rw [hcut] | refine Al ?_ | (refine Ay ?_; first | refine Ae 216 fun _ => ?_ | refine cz (cl) ?_ | refine Ae 258 fun _ => ?_ | refine Ae 226 fun _ => ?_ | refine Ae 185 fun _ => ?_ | refine Ae 220 fun _ => ?_ | refine Ae 218 fun _ => ?_ | refine Aq ?_ | refine Bd ?_ | (refine AK (Aa 110) ?_; first | refine Ag (Aa 110) ?_ | refine An (Ai 110) ?_ | (refine Ah (Ab _ 110) ?_ ?_ <;> intro _ <;> (try (exfalso; omega))) | (refine Ao (Ab _ 110) ?_ ?_ <;> intro _)) | refine AX ?_ | refine Bg ?_ | refine Bs (hc := AN (fd := 247) Tryz.func212 rfl Tryz.ntmps212 Tryz.results212 fun _ => ?_)) | refine Ak ?_ | refine nc ?_ ?_ | (with_reducible intro _ <;> (try (exfalso; omega))) | refine Ad ?_ | (refine nd ?_ ?_ <;> intro hg <;> first | exact xo hg | rw [hg]) | refine AR Tryz.func247 rfl Tryz.ntmps247 Tryz.results247 ?_)
   rw [Cv, if_pos (by omega)]
   rfl
  have c5 := Dv true B5 8 (by omega) h5
  rw [show ((8 : Nat) : Int) = 8 from rfl] at c5
  obtain ⟨B6, hB6⟩ : ∃ x, B5.drop 8 = x := ⟨_, rfl⟩
  rw [hB6] at c5
  have hl6 : B6.length = B5.length - 8 := by rw [← hB6]; simp
  refine Aj [(4, none)] c5 ?_
  clear c5
  repeat' (first | rw [hcut] | refine Al ?_ | (refine Ay ?_; first | refine Ae 216 fun _ => ?_ | refine cz (cl) ?_ | refine Ae 258 fun _ => ?_ | refine Ae 226 fun _ => ?_ | refine Ae 185 fun _ => ?_ | refine Ae 220 fun _ => ?_ | refine Ae 218 fun _ => ?_ | refine Aq ?_ | refine Bd ?_ | (refine AK (Aa 110) ?_; first | refine Ag (Aa 110) ?_ | refine An (Ai 110) ?_ | (refine Ah (Ab _ 110) ?_ ?_ <;> intro _ <;> (try (exfalso; omega))) | (refine Ao (Ab _ 110) ?_ ?_ <;> intro _)) | refine AX ?_ | refine Bg ?_ | refine Bs (hc := AN (fd := 247) Tryz.func212 rfl Tryz.ntmps212 Tryz.results212 fun _ => ?_)) | refine Ak ?_ | refine nc ?_ ?_ | (with_reducible intro _ <;> (try (exfalso; omega))) | refine Ad ?_ | (refine nd ?_ ?_ <;> intro hg <;> first | exact xo hg | rw [hg]) | refine AR Tryz.func247 rfl Tryz.ntmps247 Tryz.results247 ?_)
  by_cases h6 : 8 ≤ B6.length
  rotate_left 1
  ·have c := CG true B6 8 (by omega) h6
   rw [show ((8 : Nat) : Int) = 8 from rfl] at c
   refine Aj [(4, none)] c ?_
   repeat' (first | rw [hcut] | refine Al ?_ | (refine Ay ?_; first | refine Ae 216 fun _ => ?_ | refine cz (cl) ?_ | refine Ae 258 fun _ => ?_ | refine Ae 226 fun _ => ?_ | refine Ae 185 fun _ => ?_ | refine Ae 220 fun _ => ?_ | refine Ae 218 fun _ => ?_ | refine Aq ?_ | refine Bd ?_ | (refine AK (Aa 110) ?_; first | refine Ag (Aa 110) ?_ | refine An (Ai 110) ?_ | (refine Ah (Ab _ 110) ?_ ?_ <;> intro _ <;> (try (exfalso; omega))) | (refine Ao (Ab _ 110) ?_ ?_ <;> intro _)) | refine AX ?_ | refine Bg ?_ | refine Bs (hc := AN (fd := 247) Tryz.func212 rfl Tryz.ntmps212 Tryz.results212 fun _ => ?_)) | refine Ak ?_ | refine nc ?_ ?_ | (with_reducible intro _ <;> (try (exfalso; omega))) | refine Ad ?_ | (refine nd ?_ ?_ <;> intro hg <;> first | exact xo hg | rw [hg]) | refine AR Tryz.func247 rfl Tryz.ntmps247 Tryz.results247 ?_)
   rw [Cv, if_pos (by omega)]
   rfl
  have c6 := Dv true B6 8 (by omega) h6
  rw [show ((8 : Nat) : Int) = 8 from rfl] at c6
  obtain ⟨B7, hB7⟩ : ∃ x, B6.drop 8 = x := ⟨_, rfl⟩
  rw [hB7] at c6
  have hl7 : B7.length = B6.length - 8 := by rw [← hB7]; simp
  refine Aj [(4, none)] c6 ?_
  clear c6
  repeat' (first | rw [hcut] | refine Al ?_ | (refine Ay ?_; first | refine Ae 216 fun _ => ?_ | refine cz (cl) ?_ | refine Ae 258 fun _ => ?_ | refine Ae 226 fun _ => ?_ | refine Ae 185 fun _ => ?_ | refine Ae 220 fun _ => ?_ | refine Ae 218 fun _ => ?_ | refine Aq ?_ | refine Bd ?_ | (refine AK (Aa 110) ?_; first | refine Ag (Aa 110) ?_ | refine An (Ai 110) ?_ | (refine Ah (Ab _ 110) ?_ ?_ <;> intro _ <;> (try (exfalso; omega))) | (refine Ao (Ab _ 110) ?_ ?_ <;> intro _)) | refine AX ?_ | refine Bg ?_ | refine Bs (hc := AN (fd := 247) Tryz.func212 rfl Tryz.ntmps212 Tryz.results212 fun _ => ?_)) | refine Ak ?_ | refine nc ?_ ?_ | (with_reducible intro _ <;> (try (exfalso; omega))) | refine Ad ?_ | (refine nd ?_ ?_ <;> intro hg <;> first | exact xo hg | rw [hg]) | refine AR Tryz.func247 rfl Tryz.ntmps247 Tryz.results247 ?_)
  by_cases h7 : 8 ≤ B7.length
  rotate_left 1
  ·have c := CG true B7 8 (by omega) h7
   rw [show ((8 : Nat) : Int) = 8 from rfl] at c
   refine Aj [(4, none)] c ?_
   repeat' (first | rw [hcut] | refine Al ?_ | (refine Ay ?_; first | refine Ae 216 fun _ => ?_ | refine cz (cl) ?_ | refine Ae 258 fun _ => ?_ | refine Ae 226 fun _ => ?_ | refine Ae 185 fun _ => ?_ | refine Ae 220 fun _ => ?_ | refine Ae 218 fun _ => ?_ | refine Aq ?_ | refine Bd ?_ | (refine AK (Aa 110) ?_; first | refine Ag (Aa 110) ?_ | refine An (Ai 110) ?_ | (refine Ah (Ab _ 110) ?_ ?_ <;> intro _ <;> (try (exfalso; omega))) | (refine Ao (Ab _ 110) ?_ ?_ <;> intro _)) | refine AX ?_ | refine Bg ?_ | refine Bs (hc := AN (fd := 247) Tryz.func212 rfl Tryz.ntmps212 Tryz.results212 fun _ => ?_)) | refine Ak ?_ | refine nc ?_ ?_ | (with_reducible intro _ <;> (try (exfalso; omega))) | refine Ad ?_ | (refine nd ?_ ?_ <;> intro hg <;> first | exact xo hg | rw [hg]) | refine AR Tryz.func247 rfl Tryz.ntmps247 Tryz.results247 ?_)
   rw [Cv, if_pos (by omega)]
   rfl
  have c7 := Dv true B7 8 (by omega) h7
  rw [show ((8 : Nat) : Int) = 8 from rfl] at c7
  obtain ⟨B8, hB8⟩ : ∃ x, B7.drop 8 = x := ⟨_, rfl⟩
  rw [hB8] at c7
  have hl8 : B8.length = B7.length - 8 := by rw [← hB8]; simp
  refine Aj [(4, none)] c7 ?_
  clear c7
  repeat' (first | rw [hcut] | refine Al ?_ | (refine Ay ?_; first | refine Ae 216 fun _ => ?_ | refine cz (cl) ?_ | refine Ae 258 fun _ => ?_ | refine Ae 226 fun _ => ?_ | refine Ae 185 fun _ => ?_ | refine Ae 220 fun _ => ?_ | refine Ae 218 fun _ => ?_ | refine Aq ?_ | refine Bd ?_ | (refine AK (Aa 110) ?_; first | refine Ag (Aa 110) ?_ | refine An (Ai 110) ?_ | (refine Ah (Ab _ 110) ?_ ?_ <;> intro _ <;> (try (exfalso; omega))) | (refine Ao (Ab _ 110) ?_ ?_ <;> intro _)) | refine AX ?_ | refine Bg ?_ | refine Bs (hc := AN (fd := 247) Tryz.func212 rfl Tryz.ntmps212 Tryz.results212 fun _ => ?_)) | refine Ak ?_ | refine nc ?_ ?_ | (with_reducible intro _ <;> (try (exfalso; omega))) | refine Ad ?_ | (refine nd ?_ ?_ <;> intro hg <;> first | exact xo hg | rw [hg]) | refine AR Tryz.func247 rfl Tryz.ntmps247 Tryz.results247 ?_)
  have hv : J8 B0 = ⟨0, A3 (B0.take 8), A3 (B1.take 8), A3 (B2.take 8), A3 (B3.take 8), A3 (B4.take 8), A3 (B5.take 8), A3 (B6.take 8), A3 (B7.take 8)⟩ := by
   rw [← hB7, ← hB6, ← hB5, ← hB4, ← hB3, ← hB2, ← hB1]
   simp only [J8, List.drop_take, List.drop_drop]
  obtain ⟨r, hr⟩ : ∃ r, D9 (J8 B0) = r := ⟨_, rfl⟩
  have cv := KQ (J8 B0)
  have ht : Cv B0 = if r then (J8 B0, 64, 0) else (.zero, 0, 290) := by rw [Cv, if_neg (by omega), hr]
  have h64 : ((AH B0).length : Int) - ((AH B8).length : Int) = 64 := by rw [AA, AA]; omega
  rw [hr, hv] at cv
  rw [ht, hv]
  clear ht hr hv
  cases r
  ·simp only [Bool.false_eq_true, if_false] at cv ⊢
   repeat' (first | refine Al ?_ | (refine Ay ?_; first | refine cz (cv) ?_ | (refine AK (Aa 290) ?_; first | refine Ag (Aa 290) ?_ | refine An (Ai 290) ?_ | (refine Ah (Ab _ 290) ?_ ?_ <;> intro _ <;> (try (exfalso; omega))) | (refine Ao (Ab _ 290) ?_ ?_ <;> intro _)) | refine Ae 218 fun _ => ?_ | refine Aq ?_ | refine Bd ?_) | refine Ak ?_ | refine nc ?_ ?_ | (with_reducible intro _ <;> (try (exfalso; omega))) | refine Ad ?_ | (refine nd ?_ ?_ <;> intro hg <;> first | exact xo hg | rw [hg]) | refine AR Tryz.func247 rfl Tryz.ntmps247 Tryz.results247 ?_)
   all_goals first | rfl | trace_state
  ·simp only [if_true] at cv ⊢
   have c9 := Vy B8 0
   repeat' (first | refine Bz (id := 10) [2] ?_ | refine Al ?_ | (refine Ay ?_; first | refine cz (cv) ?_ | refine cz (c9) ?_ | (refine AK (Aa 290) ?_; first | refine Ag (Aa 290) ?_ | refine An (Ai 290) ?_ | (refine Ah (Ab _ 290) ?_ ?_ <;> intro _ <;> (try (exfalso; omega))) | (refine Ao (Ab _ 290) ?_ ?_ <;> intro _)) | refine Ae 218 fun _ => ?_ | refine Aq ?_ | refine Bd ?_) | refine Ak ?_ | refine nc ?_ ?_ | (with_reducible intro _ <;> (try (exfalso; omega))) | refine Ad ?_ | (refine nd ?_ ?_ <;> intro hg <;> first | exact xo hg | rw [hg]) | refine AR Tryz.func247 rfl Tryz.ntmps247 Tryz.results247 ?_)
   all_goals first | (rw [h64]; rfl) | trace_state

set_option maxRecDepth 20000
set_option maxRecDepth 10000
abbrev DA : D := .ifc 111 (.agg [])
abbrev A2 (b o : D) (x : Fr) (t : List UInt8) : List V := ((Db b o x).map V.d) ++ [.d (.sl false true (AH t))]
instance : PB Tryz.prog 111 [] := ⟨by kernel_rfl⟩
theorem A1 (_ : Nat) : VP Tryz.prog 99 [.lit (.bool true)] (· = .ret (.tup [])) := by
 refine Am fun B => ?_
 repeat' (first | refine Al ?_ | refine Ak ?_ | refine nc ?_ ?_ | (with_reducible intro _ <;> (try (exfalso; omega))) | refine Ad ?_ | (refine nd ?_ ?_ <;> intro hg <;> first | exact xo hg | rw [hg]))
 all_goals rfl
theorem Cq (_ : Nat) : VP Tryz.prog 99 [.lit (.bool false)] (· = .panic DA) := by
 refine Am fun B => ?_
 repeat' (first | refine Al ?_ | refine Ak ?_ | refine nc ?_ ?_ | (with_reducible intro _ <;> (try (exfalso; omega))) | refine Ad ?_ | (refine nd ?_ ?_ <;> intro hg <;> first | exact xo hg | rw [hg]))
 all_goals rfl
theorem A6 (c : Bool) (_ : Nat) : VP Tryz.prog 99 [.lit (.bool c)] (· = if c then .ret (.tup []) else .panic DA) := by
 cases c with
 | true => exact A1 0
 | false => exact Cq 0
theorem NR (b o : D) (x : Fr) (t : List UInt8) (n : Nat) (hn : n ≤ t.length) (_ : t.length ≤ 1000000) : C6 Tryz.prog 154 1 [.ptr 0 0, .d (Ar n)] [.c 0 0 (A2 b o x t)] 1 (.ret (.d (.sl true true (AH (t.take n))))) [.c 0 0 (A2 b o x (t.drop n))] 1 := by
 have htl := AA t
 have h1 : Fv none (some (n : Int)) (AH t) = AH (t.take n) := QK t n
 have h2 : Fv (some (n : Int)) none (AH t) = AH (t.drop n) := Aau _ t n
 simp only [A2, Db, List.map_cons, List.map_nil, List.cons_append, List.nil_append]
 refine AJ fun B M => ?_
 repeat' (first | rw [h1] | rw [h2] | refine Al ?_ | (refine Ay ?_; first | (refine AK (A1 0) ?_; first | refine Ag (A1 0) ?_ | refine An (Cq 0) ?_ | (refine Ah (A6 _ 0) ?_ ?_ <;> intro _ <;> (try (exfalso; omega))) | (refine Ao (A6 _ 0) ?_ ?_ <;> intro _))) | refine Ak ?_ | refine nc ?_ ?_ | (with_reducible intro _ <;> (try (exfalso; omega))) | refine Ad ?_ | (refine nd ?_ ?_ <;> intro hg <;> first | exact xo hg | rw [hg]))
 all_goals first | exact A4 [] | trace_state
theorem RQ (b o : D) (x : Fr) (t : List UInt8) (n : Nat) (hn : ¬ n ≤ t.length) : C6 Tryz.prog 154 1 [.ptr 0 0, .d (Ar n)] [.c 0 0 (A2 b o x t)] 1 (.panic (.d DA)) [.c 0 0 (A2 b o x t)] 1 := by
 have htl := AA t
 simp only [A2, Db, List.map_cons, List.map_nil, List.cons_append, List.nil_append]
 refine AJ fun B M => ?_
 repeat' (first | refine Al ?_ | (refine Ay ?_; first | (refine AK (A1 0) ?_; first | refine Ag (A1 0) ?_ | refine An (Cq 0) ?_ | (refine Ah (A6 _ 0) ?_ ?_ <;> intro _ <;> (try (exfalso; omega))) | (refine Ao (A6 _ 0) ?_ ?_ <;> intro _))) | refine Ak ?_ | refine nc ?_ ?_ | (with_reducible intro _ <;> (try (exfalso; omega))) | refine Ad ?_ | (refine nd ?_ ?_ <;> intro hg <;> first | exact xo hg | rw [hg]))
 all_goals first | exact Az [] | trace_state
theorem O3 (b o : D) (x : Fr) (t : List UInt8) (n : Nat) (h8 : 1 ≤ n ∧ n ≤ 8) (hn : n ≤ t.length) (ht : t.length ≤ 1000000) : C6 Tryz.prog 98 1 [.ptr 0 0, .d (Ar n)] [.c 0 0 (A2 b o x t)] 1 (.ret (.d (AW (A3 (t.take n))))) [.c 0 0 (A2 b o x (t.drop n))] 1 := by
 have c1 := NR b o x t n hn ht
 have c2 := Ab1 (t.take n) n h8 (by rw [List.length_take]; omega)
 simp only [A2, Db, List.map_cons, List.map_nil, List.cons_append, List.nil_append] at c1 ⊢
 refine AJ fun B M => ?_
 repeat' (first | refine Al ?_ | (refine Ay ?_; first | (refine AK (A1 0) ?_; first | refine Ag (A1 0) ?_ | refine An (Cq 0) ?_ | (refine Ah (A6 _ 0) ?_ ?_ <;> intro _ <;> (try (exfalso; omega))) | (refine Ao (A6 _ 0) ?_ ?_ <;> intro _)) | refine Aj [(0, none)] c1 ?_ | refine cz (c2) ?_) | refine Ak ?_ | refine nc ?_ ?_ | (with_reducible intro _ <;> (try (exfalso; omega))) | refine Ad ?_ | (refine nd ?_ ?_ <;> intro hg <;> first | exact xo hg | rw [hg]))
 all_goals first | exact A4 [] | trace_state
theorem NQ (b o : D) (x : Fr) (t : List UInt8) (n : Nat) (hn : ¬ n ≤ t.length) : C6 Tryz.prog 98 1 [.ptr 0 0, .d (Ar n)] [.c 0 0 (A2 b o x t)] 1 (.panic (.d DA)) [.c 0 0 (A2 b o x t)] 1 := by
 have c1 := RQ b o x t n hn
 simp only [A2, Db, List.map_cons, List.map_nil, List.cons_append, List.nil_append] at c1 ⊢
 refine AJ fun B M => ?_
 repeat' (first | refine Al ?_ | (refine Ay ?_; first | refine Aj [(0, none)] c1 ?_) | refine Ak ?_ | refine nc ?_ ?_ | (with_reducible intro _ <;> (try (exfalso; omega))) | refine Ad ?_ | (refine nd ?_ ?_ <;> intro hg <;> first | exact xo hg | rw [hg]))
 all_goals first | exact Az [] | trace_state

end Go.Proofs.YtbgcjnfhadhjeaaGreat