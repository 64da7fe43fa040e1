/- Walks by data and names, part 32: Layer 21, by V: codec's TakeVector. Layer 19, by V: an operation's parts, read. -/
import Derived.Test.YtbgcjnfhadhjeaaGreatQk25
import Derived.Test.YtbgcjnfhadhjeaaGreatQk29
namespace Go.Proofs.YtbgcjnfhadhjeaaGreat
set_option maxRecDepth 20000
open Go.RowKit
set_option maxRecDepth 10000
set_option maxHeartbeats 4000000
theorem Vp (b : List UInt8) (e : Int) : VP Tryz.prog 218 [.pt [BD b, An e]] (· = .ret (An (AG b).length)) := by
 refine Al fun B => ?_
 repeat' (first | refine Ai ?_ | (refine As ?_; first | refine Ar ?_ | refine Bg ?_) | refine Ah ?_ | refine nc ?_ ?_ | (with_reducible intro _ <;> (try (exfalso; omega))) | refine Aa ?_ | (refine nd ?_ ?_ <;> intro hg <;> first | exact xo hg | rw [hg]))
 all_goals first | rfl | trace_state
theorem QQ (B0 : List UInt8) (hb : B0.length ≤ 1000000) : VP Tryz.prog 192 [BD B0] (· = .ret (.tup [.agg (Gv (BK B0).1), An (BK B0).2.1, An (BK B0).2.2])) := by
 have hbl := Av B0
 have hmin : min ((AG B0).length : Int) 1048576 = ((AG B0).length : Int) := by omega
 have hcut : CP none (some ((AG B0).length : Int)) (AG B0) = AG B0 := by rw [hbl, Pk, List.take_of_length_le (Nat.le_refl _)]
 have cl := Ji B0 (by omega)
 refine Al fun B => ?_
 repeat' (first | refine Ai ?_ | refine Ah ?_ | refine nc ?_ ?_ | (with_reducible intro _ <;> (try (exfalso; omega))) | refine Aa ?_ | (refine nd ?_ ?_ <;> intro hg <;> first | exact xo hg | rw [hg]))
 refine Ae 225 fun _ => ?_
 refine AS ?_
 repeat' (first | refine Ai ?_ | ((fail_if_success (with_reducible refine AS ?_)); refine Ah ?_) | refine nc ?_ ?_ | (with_reducible intro _ <;> (try (exfalso; omega))) | refine Aa ?_ | (refine nd ?_ ?_ <;> intro hg <;> first | exact xo hg | rw [hg]))
 refine AS ?_
 repeat' (first | rw [hmin] | refine Ai ?_ | ((fail_if_success (with_reducible refine AS ?_)); refine Ah ?_) | refine nc ?_ ?_ | (with_reducible intro _ <;> (try (exfalso; omega))) | refine Aa ?_ | (refine nd ?_ ?_ <;> intro hg <;> first | exact xo hg | rw [hg]))
 refine AS ?_
 repeat' (first | refine Ai ?_ | ((fail_if_success (with_reducible refine AS ?_)); refine Ah ?_) | refine nc ?_ ?_ | (with_reducible intro _ <;> (try (exfalso; omega))) | refine Aa ?_ | (refine nd ?_ ?_ <;> intro hg <;> first | exact xo hg | rw [hg]))
 refine Na 3 rfl ?_
 ·skip
  repeat' (first | rw [hcut] | refine Ai ?_ | (refine As ?_; first | refine Ae 216 fun _ => ?_ | refine cz (cl) ?_ | refine Ae 258 fun _ => ?_ | refine Ae 226 fun _ => ?_ | refine Ae 185 fun _ => ?_ | refine Ae 220 fun _ => ?_ | refine Ae 218 fun _ => ?_ | refine Ar ?_ | refine Bg ?_ | (refine AJ (Ab 110) ?_; first | refine Ag (Ab 110) ?_ | refine Ao (Ak 110) ?_ | (refine Aj (Ad _ 110) ?_ ?_ <;> intro _ <;> (try (exfalso; omega))) | (refine Ap (Ad _ 110) ?_ ?_ <;> intro _)) | refine AZ ?_ | refine Bl ?_ | refine BI (hc := AN (fd := 247) Tryz.func212 rfl Tryz.ntmps212 Tryz.results212 fun _ => ?_)) | refine Ah ?_ | refine nc ?_ ?_ | (with_reducible intro _ <;> (try (exfalso; omega))) | refine Aa ?_ | (refine nd ?_ ?_ <;> intro hg <;> first | exact xo hg | rw [hg]) | refine AU Tryz.func247 rfl Tryz.ntmps247 Tryz.results247 ?_)
  refine AB 9 ?_
  repeat' (first | rw [hcut] | refine Ai ?_ | (refine As ?_; first | refine Ae 216 fun _ => ?_ | refine cz (cl) ?_ | refine Ae 258 fun _ => ?_ | refine Ae 226 fun _ => ?_ | refine Ae 185 fun _ => ?_ | refine Ae 220 fun _ => ?_ | refine Ae 218 fun _ => ?_ | refine Ar ?_ | refine Bg ?_ | (refine AJ (Ab 110) ?_; first | refine Ag (Ab 110) ?_ | refine Ao (Ak 110) ?_ | (refine Aj (Ad _ 110) ?_ ?_ <;> intro _ <;> (try (exfalso; omega))) | (refine Ap (Ad _ 110) ?_ ?_ <;> intro _)) | refine AZ ?_ | refine Bl ?_ | refine BI (hc := AN (fd := 247) Tryz.func212 rfl Tryz.ntmps212 Tryz.results212 fun _ => ?_)) | refine Ah ?_ | refine nc ?_ ?_ | (with_reducible intro _ <;> (try (exfalso; omega))) | refine Aa ?_ | (refine nd ?_ ?_ <;> intro hg <;> first | exact xo hg | rw [hg]) | refine AU Tryz.func247 rfl Tryz.ntmps247 Tryz.results247 ?_)
  by_cases h0 : 8 ≤ B0.length
  rotate_left 1
  ·have c := CY true B0 8 (by omega) h0
   rw [show ((8 : Nat) : Int) = 8 from rfl] at c
   refine Am [(4, none)] c ?_
   repeat' (first | rw [hcut] | refine Ai ?_ | (refine As ?_; first | refine Ae 216 fun _ => ?_ | refine cz (cl) ?_ | refine Ae 258 fun _ => ?_ | refine Ae 226 fun _ => ?_ | refine Ae 185 fun _ => ?_ | refine Ae 220 fun _ => ?_ | refine Ae 218 fun _ => ?_ | refine Ar ?_ | refine Bg ?_ | (refine AJ (Ab 110) ?_; first | refine Ag (Ab 110) ?_ | refine Ao (Ak 110) ?_ | (refine Aj (Ad _ 110) ?_ ?_ <;> intro _ <;> (try (exfalso; omega))) | (refine Ap (Ad _ 110) ?_ ?_ <;> intro _)) | refine AZ ?_ | refine Bl ?_ | refine BI (hc := AN (fd := 247) Tryz.func212 rfl Tryz.ntmps212 Tryz.results212 fun _ => ?_)) | refine Ah ?_ | refine nc ?_ ?_ | (with_reducible intro _ <;> (try (exfalso; omega))) | refine Aa ?_ | (refine nd ?_ ?_ <;> intro hg <;> first | exact xo hg | rw [hg]) | refine AU Tryz.func247 rfl Tryz.ntmps247 Tryz.results247 ?_)
   rw [BK, if_pos (by omega)]
   rfl
  have c0 := DI true B0 8 (by omega) h0
  rw [show ((8 : Nat) : Int) = 8 from rfl] at c0
  obtain ⟨B1, hB1⟩ : ∃ x, B0.drop 8 = x := ⟨_, rfl⟩
  rw [hB1] at c0
  have hl1 : B1.length = B0.length - 8 := by rw [← hB1]; simp
  refine Am [(4, none)] c0 ?_
  clear c0
  repeat' (first | rw [hcut] | refine Ai ?_ | (refine As ?_; first | refine Ae 216 fun _ => ?_ | refine cz (cl) ?_ | refine Ae 258 fun _ => ?_ | refine Ae 226 fun _ => ?_ | refine Ae 185 fun _ => ?_ | refine Ae 220 fun _ => ?_ | refine Ae 218 fun _ => ?_ | refine Ar ?_ | refine Bg ?_ | (refine AJ (Ab 110) ?_; first | refine Ag (Ab 110) ?_ | refine Ao (Ak 110) ?_ | (refine Aj (Ad _ 110) ?_ ?_ <;> intro _ <;> (try (exfalso; omega))) | (refine Ap (Ad _ 110) ?_ ?_ <;> intro _)) | refine AZ ?_ | refine Bl ?_ | refine BI (hc := AN (fd := 247) Tryz.func212 rfl Tryz.ntmps212 Tryz.results212 fun _ => ?_)) | refine Ah ?_ | refine nc ?_ ?_ | (with_reducible intro _ <;> (try (exfalso; omega))) | refine Aa ?_ | (refine nd ?_ ?_ <;> intro hg <;> first | exact xo hg | rw [hg]) | refine AU Tryz.func247 rfl Tryz.ntmps247 Tryz.results247 ?_)
  by_cases h1 : 8 ≤ B1.length
  rotate_left 1
  ·have c := CY true B1 8 (by omega) h1
   rw [show ((8 : Nat) : Int) = 8 from rfl] at c
   refine Am [(4, none)] c ?_
   repeat' (first | rw [hcut] | refine Ai ?_ | (refine As ?_; first | refine Ae 216 fun _ => ?_ | refine cz (cl) ?_ | refine Ae 258 fun _ => ?_ | refine Ae 226 fun _ => ?_ | refine Ae 185 fun _ => ?_ | refine Ae 220 fun _ => ?_ | refine Ae 218 fun _ => ?_ | refine Ar ?_ | refine Bg ?_ | (refine AJ (Ab 110) ?_; first | refine Ag (Ab 110) ?_ | refine Ao (Ak 110) ?_ | (refine Aj (Ad _ 110) ?_ ?_ <;> intro _ <;> (try (exfalso; omega))) | (refine Ap (Ad _ 110) ?_ ?_ <;> intro _)) | refine AZ ?_ | refine Bl ?_ | refine BI (hc := AN (fd := 247) Tryz.func212 rfl Tryz.ntmps212 Tryz.results212 fun _ => ?_)) | refine Ah ?_ | refine nc ?_ ?_ | (with_reducible intro _ <;> (try (exfalso; omega))) | refine Aa ?_ | (refine nd ?_ ?_ <;> intro hg <;> first | exact xo hg | rw [hg]) | refine AU Tryz.func247 rfl Tryz.ntmps247 Tryz.results247 ?_)
   rw [BK, if_pos (by omega)]
   rfl
  have c1 := DI true B1 8 (by omega) h1
  rw [show ((8 : Nat) : Int) = 8 from rfl] at c1
  obtain ⟨B2, hB2⟩ : ∃ x, B1.drop 8 = x := ⟨_, rfl⟩
  rw [hB2] at c1
  have hl2 : B2.length = B1.length - 8 := by rw [← hB2]; simp
  refine Am [(4, none)] c1 ?_
  clear c1
  repeat' (first | rw [hcut] | refine Ai ?_ | (refine As ?_; first | refine Ae 216 fun _ => ?_ | refine cz (cl) ?_ | refine Ae 258 fun _ => ?_ | refine Ae 226 fun _ => ?_ | refine Ae 185 fun _ => ?_ | refine Ae 220 fun _ => ?_ | refine Ae 218 fun _ => ?_ | refine Ar ?_ | refine Bg ?_ | (refine AJ (Ab 110) ?_; first | refine Ag (Ab 110) ?_ | refine Ao (Ak 110) ?_ | (refine Aj (Ad _ 110) ?_ ?_ <;> intro _ <;> (try (exfalso; omega))) | (refine Ap (Ad _ 110) ?_ ?_ <;> intro _)) | refine AZ ?_ | refine Bl ?_ | refine BI (hc := AN (fd := 247) Tryz.func212 rfl Tryz.ntmps212 Tryz.results212 fun _ => ?_)) | refine Ah ?_ | refine nc ?_ ?_ | (with_reducible intro _ <;> (try (exfalso; omega))) | refine Aa ?_ | (refine nd ?_ ?_ <;> intro hg <;> first | exact xo hg | rw [hg]) | refine AU Tryz.func247 rfl Tryz.ntmps247 Tryz.results247 ?_)
  by_cases h2 : 8 ≤ B2.length
  rotate_left 1
  ·have c := CY true B2 8 (by omega) h2
   rw [show ((8 : Nat) : Int) = 8 from rfl] at c
   refine Am [(4, none)] c ?_
   repeat' (first | rw [hcut] | refine Ai ?_ | (refine As ?_; first | refine Ae 216 fun _ => ?_ | refine cz (cl) ?_ | refine Ae 258 fun _ => ?_ | refine Ae 226 fun _ => ?_ | refine Ae 185 fun _ => ?_ | refine Ae 220 fun _ => ?_ | refine Ae 218 fun _ => ?_ | refine Ar ?_ | refine Bg ?_ | (refine AJ (Ab 110) ?_; first | refine Ag (Ab 110) ?_ | refine Ao (Ak 110) ?_ | (refine Aj (Ad _ 110) ?_ ?_ <;> intro _ <;> (try (exfalso; omega))) | (refine Ap (Ad _ 110) ?_ ?_ <;> intro _)) | refine AZ ?_ | refine Bl ?_ | refine BI (hc := AN (fd := 247) Tryz.func212 rfl Tryz.ntmps212 Tryz.results212 fun _ => ?_)) | refine Ah ?_ | refine nc ?_ ?_ | (with_reducible intro _ <;> (try (exfalso; omega))) | refine Aa ?_ | (refine nd ?_ ?_ <;> intro hg <;> first | exact xo hg | rw [hg]) | refine AU Tryz.func247 rfl Tryz.ntmps247 Tryz.results247 ?_)
   rw [BK, if_pos (by omega)]
   rfl
  have c2 := DI true B2 8 (by omega) h2
  rw [show ((8 : Nat) : Int) = 8 from rfl] at c2
  obtain ⟨B3, hB3⟩ : ∃ x, B2.drop 8 = x := ⟨_, rfl⟩
  rw [hB3] at c2
  have hl3 : B3.length = B2.length - 8 := by rw [← hB3]; simp
  refine Am [(4, none)] c2 ?_
  clear c2
  repeat' (first | rw [hcut] | refine Ai ?_ | (refine As ?_; first | refine Ae 216 fun _ => ?_ | refine cz (cl) ?_ | refine Ae 258 fun _ => ?_ | refine Ae 226 fun _ => ?_ | refine Ae 185 fun _ => ?_ | refine Ae 220 fun _ => ?_ | refine Ae 218 fun _ => ?_ | refine Ar ?_ | refine Bg ?_ | (refine AJ (Ab 110) ?_; first | refine Ag (Ab 110) ?_ | refine Ao (Ak 110) ?_ | (refine Aj (Ad _ 110) ?_ ?_ <;> intro _ <;> (try (exfalso; omega))) | (refine Ap (Ad _ 110) ?_ ?_ <;> intro _)) | refine AZ ?_ | refine Bl ?_ | refine BI (hc := AN (fd := 247) Tryz.func212 rfl Tryz.ntmps212 Tryz.results212 fun _ => ?_)) | refine Ah ?_ | refine nc ?_ ?_ | (with_reducible intro _ <;> (try (exfalso; omega))) | refine Aa ?_ | (refine nd ?_ ?_ <;> intro hg <;> first | exact xo hg | rw [hg]) | refine AU Tryz.func247 rfl Tryz.ntmps247 Tryz.results247 ?_)
  by_cases h3 : 8 ≤ B3.length
  rotate_left 1
  ·have c := CY true B3 8 (by omega) h3
   rw [show ((8 : Nat) : Int) = 8 from rfl] at c
   refine Am [(4, none)] c ?_
   repeat' (first | rw [hcut] | refine Ai ?_ | (refine As ?_; first | refine Ae 216 fun _ => ?_ | refine cz (cl) ?_ | refine Ae 258 fun _ => ?_ | refine Ae 226 fun _ => ?_ | refine Ae 185 fun _ => ?_ | refine Ae 220 fun _ => ?_ | refine Ae 218 fun _ => ?_ | refine Ar ?_ | refine Bg ?_ | (refine AJ (Ab 110) ?_; first | refine Ag (Ab 110) ?_ | refine Ao (Ak 110) ?_ | (refine Aj (Ad _ 110) ?_ ?_ <;> intro _ <;> (try (exfalso; omega))) | (refine Ap (Ad _ 110) ?_ ?_ <;> intro _)) | refine AZ ?_ | refine Bl ?_ | refine BI (hc := AN (fd := 247) Tryz.func212 rfl Tryz.ntmps212 Tryz.results212 fun _ => ?_)) | refine Ah ?_ | refine nc ?_ ?_ | (with_reducible intro _ <;> (try (exfalso; omega))) | refine Aa ?_ | (refine nd ?_ ?_ <;> intro hg <;> first | exact xo hg | rw [hg]) | refine AU Tryz.func247 rfl Tryz.ntmps247 Tryz.results247 ?_)
   rw [BK, if_pos (by omega)]
   rfl
  have c3 := DI true B3 8 (by omega) h3
  rw [show ((8 : Nat) : Int) = 8 from rfl] at c3
  obtain ⟨B4, hB4⟩ : ∃ x, B3.drop 8 = x := ⟨_, rfl⟩
  rw [hB4] at c3
  have hl4 : B4.length = B3.length - 8 := by rw [← hB4]; simp
  refine Am [(4, none)] c3 ?_
  clear c3
  repeat' (first | rw [hcut] | refine Ai ?_ | (refine As ?_; first | refine Ae 216 fun _ => ?_ | refine cz (cl) ?_ | refine Ae 258 fun _ => ?_ | refine Ae 226 fun _ => ?_ | refine Ae 185 fun _ => ?_ | refine Ae 220 fun _ => ?_ | refine Ae 218 fun _ => ?_ | refine Ar ?_ | refine Bg ?_ | (refine AJ (Ab 110) ?_; first | refine Ag (Ab 110) ?_ | refine Ao (Ak 110) ?_ | (refine Aj (Ad _ 110) ?_ ?_ <;> intro _ <;> (try (exfalso; omega))) | (refine Ap (Ad _ 110) ?_ ?_ <;> intro _)) | refine AZ ?_ | refine Bl ?_ | refine BI (hc := AN (fd := 247) Tryz.func212 rfl Tryz.ntmps212 Tryz.results212 fun _ => ?_)) | refine Ah ?_ | refine nc ?_ ?_ | (with_reducible intro _ <;> (try (exfalso; omega))) | refine Aa ?_ | (refine nd ?_ ?_ <;> intro hg <;> first | exact xo hg | rw [hg]) | refine AU Tryz.func247 rfl Tryz.ntmps247 Tryz.results247 ?_)
  by_cases h4 : 8 ≤ B4.length
  rotate_left 1
  ·have c := CY true B4 8 (by omega) h4
   rw [show ((8 : Nat) : Int) = 8 from rfl] at c
   refine Am [(4, none)] c ?_
   repeat' (first | rw [hcut] | refine Ai ?_ | (refine As ?_; first | refine Ae 216 fun _ => ?_ | refine cz (cl) ?_ | refine Ae 258 fun _ => ?_ | refine Ae 226 fun _ => ?_ | refine Ae 185 fun _ => ?_ | refine Ae 220 fun _ => ?_ | refine Ae 218 fun _ => ?_ | refine Ar ?_ | refine Bg ?_ | (refine AJ (Ab 110) ?_; first | refine Ag (Ab 110) ?_ | refine Ao (Ak 110) ?_ | (refine Aj (Ad _ 110) ?_ ?_ <;> intro _ <;> (try (exfalso; omega))) | (refine Ap (Ad _ 110) ?_ ?_ <;> intro _)) | refine AZ ?_ | refine Bl ?_ | refine BI (hc := AN (fd := 247) Tryz.func212 rfl Tryz.ntmps212 Tryz.results212 fun _ => ?_)) | refine Ah ?_ | refine nc ?_ ?_ | (with_reducible intro _ <;> (try (exfalso; omega))) | refine Aa ?_ | (refine nd ?_ ?_ <;> intro hg <;> first | exact xo hg | rw [hg]) | refine AU Tryz.func247 rfl Tryz.ntmps247 Tryz.results247 ?_)
   rw [BK, if_pos (by omega)]
   rfl
  have c4 := DI true B4 8 (by omega) h4
  rw [show ((8 : Nat) : Int) = 8 from rfl] at c4
  obtain ⟨B5, hB5⟩ : ∃ x, B4.drop 8 = x := ⟨_, rfl⟩
  rw [hB5] at c4
  have hl5 : B5.length = B4.length - 8 := by rw [← hB5]; simp
  refine Am [(4, none)] c4 ?_
  clear c4
  repeat' (first | rw [hcut] | refine Ai ?_ | (refine As ?_; first | refine Ae 216 fun _ => ?_ | refine cz (cl) ?_ | refine Ae 258 fun _ => ?_ | refine Ae 226 fun _ => ?_ | refine Ae 185 fun _ => ?_ | refine Ae 220 fun _ => ?_ | refine Ae 218 fun _ => ?_ | refine Ar ?_ | refine Bg ?_ | (refine AJ (Ab 110) ?_; first | refine Ag (Ab 110) ?_ | refine Ao (Ak 110) ?_ | (refine Aj (Ad _ 110) ?_ ?_ <;> intro _ <;> (try (exfalso; omega))) | (refine Ap (Ad _ 110) ?_ ?_ <;> intro _)) | refine AZ ?_ | refine Bl ?_ | refine BI (hc := AN (fd := 247) Tryz.func212 rfl Tryz.ntmps212 Tryz.results212 fun _ => ?_)) | refine Ah ?_ | refine nc ?_ ?_ | (with_reducible intro _ <;> (try (exfalso; omega))) | refine Aa ?_ | (refine nd ?_ ?_ <;> intro hg <;> first | exact xo hg | rw [hg]) | refine AU Tryz.func247 rfl Tryz.ntmps247 Tryz.results247 ?_)
  by_cases h5 : 8 ≤ B5.length
  rotate_left 1
  ·have c := CY true B5 8 (by omega) h5
   rw [show ((8 : Nat) : Int) = 8 from rfl] at c
   refine Am [(4, none)] c ?_
   repeat' (first | rw [hcut] | refine Ai ?_ | (refine As ?_; first | refine Ae 216 fun _ => ?_ | refine cz (cl) ?_ | refine Ae 258 fun _ => ?_ | refine Ae 226 fun _ => ?_ | refine Ae 185 fun _ => ?_ | refine Ae 220 fun _ => ?_ | refine Ae 218 fun _ => ?_ | refine Ar ?_ | refine Bg ?_ | (refine AJ (Ab 110) ?_; first | refine Ag (Ab 110) ?_ | refine Ao (Ak 110) ?_ | (refine Aj (Ad _ 110) ?_ ?_ <;> intro _ <;> (try (exfalso; omega))) | (refine Ap (Ad _ 110) ?_ ?_ <;> intro _)) | refine AZ ?_ | refine Bl ?_ | refine BI (hc := AN (fd := 247) Tryz.func212 rfl Tryz.ntmps212 Tryz.results212 fun _ => ?_)) | refine Ah ?_ | refine nc ?_ ?_ | (with_reducible intro _ <;> (try (exfalso; omega))) | refine Aa ?_ | (refine nd ?_ ?_ <;> intro hg <;> first | exact xo hg | rw [hg]) | refine AU Tryz.func247 rfl Tryz.ntmps247 Tryz.results247 ?_)
   rw [BK, if_pos (by omega)]
   rfl
  have c5 := DI true B5 8 (by omega) h5
  rw [show ((8 : Nat) : Int) = 8 from rfl] at c5
  obtain ⟨B6, hB6⟩ : ∃ x, B5.drop 8 = x := ⟨_, rfl⟩
  rw [hB6] at c5
  have hl6 : B6.length = B5.length - 8 := by rw [← hB6]; simp
  refine Am [(4, none)] c5 ?_
  clear c5
  repeat' (first | rw [hcut] | refine Ai ?_ | (refine As ?_; first | refine Ae 216 fun _ => ?_ | refine cz (cl) ?_ | refine Ae 258 fun _ => ?_ | refine Ae 226 fun _ => ?_ | refine Ae 185 fun _ => ?_ | refine Ae 220 fun _ => ?_ | refine Ae 218 fun _ => ?_ | refine Ar ?_ | refine Bg ?_ | (refine AJ (Ab 110) ?_; first | refine Ag (Ab 110) ?_ | refine Ao (Ak 110) ?_ | (refine Aj (Ad _ 110) ?_ ?_ <;> intro _ <;> (try (exfalso; omega))) | (refine Ap (Ad _ 110) ?_ ?_ <;> intro _)) | refine AZ ?_ | refine Bl ?_ | refine BI (hc := AN (fd := 247) Tryz.func212 rfl Tryz.ntmps212 Tryz.results212 fun _ => ?_)) | refine Ah ?_ | refine nc ?_ ?_ | (with_reducible intro _ <;> (try (exfalso; omega))) | refine Aa ?_ | (refine nd ?_ ?_ <;> intro hg <;> first | exact xo hg | rw [hg]) | refine AU Tryz.func247 rfl Tryz.ntmps247 Tryz.results247 ?_)
  by_cases h6 : 8 ≤ B6.length
  rotate_left 1
  ·have c := CY true B6 8 (by omega) h6
   rw [show ((8 : Nat) : Int) = 8 from rfl] at c
   refine Am [(4, none)] c ?_
   repeat' (first | rw [hcut] | refine Ai ?_ | (refine As ?_; first | refine Ae 216 fun _ => ?_ | refine cz (cl) ?_ | refine Ae 258 fun _ => ?_ | refine Ae 226 fun _ => ?_ | refine Ae 185 fun _ => ?_ | refine Ae 220 fun _ => ?_ | refine Ae 218 fun _ => ?_ | refine Ar ?_ | refine Bg ?_ | (refine AJ (Ab 110) ?_; first | refine Ag (Ab 110) ?_ | refine Ao (Ak 110) ?_ | (refine Aj (Ad _ 110) ?_ ?_ <;> intro _ <;> (try (exfalso; omega))) | (refine Ap (Ad _ 110) ?_ ?_ <;> intro _)) | refine AZ ?_ | refine Bl ?_ | refine BI (hc := AN (fd := 247) Tryz.func212 rfl Tryz.ntmps212 Tryz.results212 fun _ => ?_)) | refine Ah ?_ | refine nc ?_ ?_ | (with_reducible intro _ <;> (try (exfalso; omega))) | refine Aa ?_ | (refine nd ?_ ?_ <;> intro hg <;> first | exact xo hg | rw [hg]) | refine AU Tryz.func247 rfl Tryz.ntmps247 Tryz.results247 ?_)
   rw [BK, if_pos (by omega)]
   rfl
  have c6 := DI true B6 8 (by omega) h6
  rw [show ((8 : Nat) : Int) = 8 from rfl] at c6
  obtain ⟨B7, hB7⟩ : ∃ x, B6.drop 8 = x := ⟨_, rfl⟩
  rw [hB7] at c6
  have hl7 : B7.length = B6.length - 8 := by rw [← hB7]; simp
  refine Am [(4, none)] c6 ?_
  clear c6
  repeat' (first | rw [hcut] | refine Ai ?_ | (refine As ?_; first | refine Ae 216 fun _ => ?_ | refine cz (cl) ?_ | refine Ae 258 fun _ => ?_ | refine Ae 226 fun _ => ?_ | refine Ae 185 fun _ => ?_ | refine Ae 220 fun _ => ?_ | refine Ae 218 fun _ => ?_ | refine Ar ?_ | refine Bg ?_ | (refine AJ (Ab 110) ?_; first | refine Ag (Ab 110) ?_ | refine Ao (Ak 110) ?_ | (refine Aj (Ad _ 110) ?_ ?_ <;> intro _ <;> (try (exfalso; omega))) | (refine Ap (Ad _ 110) ?_ ?_ <;> intro _)) | refine AZ ?_ | refine Bl ?_ | refine BI (hc := AN (fd := 247) Tryz.func212 rfl Tryz.ntmps212 Tryz.results212 fun _ => ?_)) | refine Ah ?_ | refine nc ?_ ?_ | (with_reducible intro _ <;> (try (exfalso; omega))) | refine Aa ?_ | (refine nd ?_ ?_ <;> intro hg <;> first | exact xo hg | rw [hg]) | refine AU Tryz.func247 rfl Tryz.ntmps247 Tryz.results247 ?_)
  by_cases h7 : 8 ≤ B7.length
  rotate_left 1
  ·have c := CY true B7 8 (by omega) h7
   rw [show ((8 : Nat) : Int) = 8 from rfl] at c
   refine Am [(4, none)] c ?_
   repeat' (first | rw [hcut] | refine Ai ?_ | (refine As ?_; first | refine Ae 216 fun _ => ?_ | refine cz (cl) ?_ | refine Ae 258 fun _ => ?_ | refine Ae 226 fun _ => ?_ | refine Ae 185 fun _ => ?_ | refine Ae 220 fun _ => ?_ | refine Ae 218 fun _ => ?_ | refine Ar ?_ | refine Bg ?_ | (refine AJ (Ab 110) ?_; first | refine Ag (Ab 110) ?_ | refine Ao (Ak 110) ?_ | (refine Aj (Ad _ 110) ?_ ?_ <;> intro _ <;> (try (exfalso; omega))) | (refine Ap (Ad _ 110) ?_ ?_ <;> intro _)) | refine AZ ?_ | refine Bl ?_ | refine BI (hc := AN (fd := 247) Tryz.func212 rfl Tryz.ntmps212 Tryz.results212 fun _ => ?_)) | refine Ah ?_ | refine nc ?_ ?_ | (with_reducible intro _ <;> (try (exfalso; omega))) | refine Aa ?_ | (refine nd ?_ ?_ <;> intro hg <;> first | exact xo hg | rw [hg]) | refine AU Tryz.func247 rfl Tryz.ntmps247 Tryz.results247 ?_)
   rw [BK, if_pos (by omega)]
   rfl
  have c7 := DI true B7 8 (by omega) h7
  rw [show ((8 : Nat) : Int) = 8 from rfl] at c7
  obtain ⟨B8, hB8⟩ : ∃ x, B7.drop 8 = x := ⟨_, rfl⟩
  rw [hB8] at c7
  have hl8 : B8.length = B7.length - 8 := by rw [← hB8]; simp
  refine Am [(4, none)] c7 ?_
  clear c7
  repeat' (first | rw [hcut] | refine Ai ?_ | (refine As ?_; first | refine Ae 216 fun _ => ?_ | refine cz (cl) ?_ | refine Ae 258 fun _ => ?_ | refine Ae 226 fun _ => ?_ | refine Ae 185 fun _ => ?_ | refine Ae 220 fun _ => ?_ | refine Ae 218 fun _ => ?_ | refine Ar ?_ | refine Bg ?_ | (refine AJ (Ab 110) ?_; first | refine Ag (Ab 110) ?_ | refine Ao (Ak 110) ?_ | (refine Aj (Ad _ 110) ?_ ?_ <;> intro _ <;> (try (exfalso; omega))) | (refine Ap (Ad _ 110) ?_ ?_ <;> intro _)) | refine AZ ?_ | refine Bl ?_ | refine BI (hc := AN (fd := 247) Tryz.func212 rfl Tryz.ntmps212 Tryz.results212 fun _ => ?_)) | refine Ah ?_ | refine nc ?_ ?_ | (with_reducible intro _ <;> (try (exfalso; omega))) | refine Aa ?_ | (refine nd ?_ ?_ <;> intro hg <;> first | exact xo hg | rw [hg]) | refine AU Tryz.func247 rfl Tryz.ntmps247 Tryz.results247 ?_)
  have hv : Hc B0 = ⟨0, AV (B0.take 8), AV (B1.take 8), AV (B2.take 8), AV (B3.take 8), AV (B4.take 8), AV (B5.take 8), AV (B6.take 8), AV (B7.take 8)⟩ := by
   rw [← hB7, ← hB6, ← hB5, ← hB4, ← hB3, ← hB2, ← hB1]
   simp only [Hc, List.drop_take, List.drop_drop]
  obtain ⟨r, hr⟩ : ∃ r, Ej (Hc B0) = r := ⟨_, rfl⟩
  have cv := KN (Hc B0)
  have ht : BK B0 = if r then (Hc B0, 64, 0) else (.zero, 0, 290) := by rw [BK, if_neg (by omega), hr]
  have h64 : ((AG B0).length : Int) - ((AG B8).length : Int) = 64 := by rw [Av, Av]; omega
  rw [hr, hv] at cv
  rw [ht, hv]
  clear ht hr hv
  cases r
  ·simp only [Bool.false_eq_true, if_false] at cv ⊢
   repeat' (first | refine Ai ?_ | (refine As ?_; first | refine cz (cv) ?_ | (refine AJ (Ab 290) ?_; first | refine Ag (Ab 290) ?_ | refine Ao (Ak 290) ?_ | (refine Aj (Ad _ 290) ?_ ?_ <;> intro _ <;> (try (exfalso; omega))) | (refine Ap (Ad _ 290) ?_ ?_ <;> intro _)) | refine Ae 218 fun _ => ?_ | refine Ar ?_ | refine Bg ?_) | refine Ah ?_ | refine nc ?_ ?_ | (with_reducible intro _ <;> (try (exfalso; omega))) | refine Aa ?_ | (refine nd ?_ ?_ <;> intro hg <;> first | exact xo hg | rw [hg]) | refine AU Tryz.func247 rfl Tryz.ntmps247 Tryz.results247 ?_)
   all_goals first | rfl | trace_state
  ·simp only [if_true] at cv ⊢
   have c9 := Vp B8 0
   repeat' (first | refine Bw (id := 10) [2] ?_ | refine Ai ?_ | (refine As ?_; first | refine cz (cv) ?_ | refine cz (c9) ?_ | (refine AJ (Ab 290) ?_; first | refine Ag (Ab 290) ?_ | refine Ao (Ak 290) ?_ | (refine Aj (Ad _ 290) ?_ ?_ <;> intro _ <;> (try (exfalso; omega))) | (refine Ap (Ad _ 290) ?_ ?_ <;> intro _)) | refine Ae 218 fun _ => ?_ | refine Ar ?_ | refine Bg ?_) | refine Ah ?_ | refine nc ?_ ?_ | (with_reducible intro _ <;> (try (exfalso; omega))) | refine Aa ?_ | (refine nd ?_ ?_ <;> intro hg <;> first | exact xo hg | rw [hg]) | refine AU Tryz.func247 rfl Tryz.ntmps247 Tryz.results247 ?_)
   all_goals first | (rw [h64]; rfl) | trace_state

set_option maxRecDepth 20000
set_option maxRecDepth 10000
abbrev Ko (r l px : V) (i : Ba) (k x y x2 y2 z : Int) (c : BO) (w h : Int) (tg : Ba) : List V := [r, .d (AK i.t), .d (An i.s), .d (AK i.q), .d (An k), .d (An x), .d (An y), .d (An x2), .d (An y2), .d (An z),
 .d (.lit (vb c.r)), .d (.lit (vb c.g)), .d (.lit (vb c.b)), .d (.lit (vb c.a)), .d (An w), .d (An h), px, .d (AK tg.t), .d (An tg.s), .d (AK tg.q), l]
abbrev Mw (r l : V) : List V := [r, .d .any, .d .any, .d .any, .d .any, .d .any, .d .any, .d .any, .d .any, .d .any, .d .any, .d .any, .d .any, .d .any, .d .any, .d .any, .d .any, .d .any, .d .any, .d .any, l]
abbrev E5 (b : List UInt8) : List V := [.d (.sl false true (AG b)), .d (An 0)]
theorem Adl (u : UInt8) (t : List UInt8) : AV ((u :: t).take 1) = u.toNat := by simp [AV]
theorem F7 (u : UInt8) (t : List UInt8) : Dk Tryz.prog 219 1 [.ptr 0 0, .d (An 1)] [.c 0 0 (E5 (u :: t))] 1 (.ret (.d (AK u.toNat))) [.c 0 0 (E5 t)] 1 := by
 have c := DI true (u :: t) 1 (by omega) (by simp)
 rw [Adl] at c
 exact c
theorem H9 : Dk Tryz.prog 219 1 [.ptr 0 0, .d (An 1)] [.c 0 0 (E5 [])] 1 (.ret (.d (AK 0))) [.c 0 0 [.d (.sl false true (AG [])), .d (An 110)]] 1 := CY true [] 1 (by omega) (by simp)
theorem rd8 (b : List UInt8) (h : 8 ≤ b.length) : Dk Tryz.prog 219 1 [.ptr 0 0, .d (An 8)] [.c 0 0 (E5 b)] 1 (.ret (.d (AK (AV (b.take 8))))) [.c 0 0 (E5 (b.drop 8))] 1 := DI true b 8 (by omega) h
theorem Xj (b : List UInt8) (h : ¬ 8 ≤ b.length) : Dk Tryz.prog 219 1 [.ptr 0 0, .d (An 8)] [.c 0 0 (E5 b)] 1 (.ret (.d (AK 0))) [.c 0 0 [.d (.sl false true (AG b)), .d (An 110)]] 1 := CY true b 8 (by omega) h
theorem Adk (u v : UInt8) (t : List UInt8) : AV ((u :: v :: t).take 2) = 256 * u.toNat + v.toNat := by simp [AV]
theorem rd2 (u v : UInt8) (t : List UInt8) : Dk Tryz.prog 219 1 [.ptr 0 0, .d (An 2)] [.c 0 0 (E5 (u :: v :: t))] 1 (.ret (.d (AK (256 * u.toNat + v.toNat : Nat)))) [.c 0 0 (E5 t)] 1 := by
 have c := DI true (u :: v :: t) 2 (by omega) (by simp)
 rw [Adk] at c
 exact c
theorem Adh (b : List UInt8) (h : ¬ 2 ≤ b.length) : Dk Tryz.prog 219 1 [.ptr 0 0, .d (An 2)] [.c 0 0 (E5 b)] 1 (.ret (.d (AK 0))) [.c 0 0 [.d (.sl false true (AG b)), .d (An 110)]] 1 := CY true b 2 (by omega) h
theorem KB {px : D} {i : Ba} {k x y x2 y2 z : Int} {c : BO} {w h : Int} {tg : Ba} (u v : UInt8) (t : List UInt8) : Dk Tryz.prog 248 2 [.ptr 0 0] [.c 0 0 (Ko (.ptr 1 0) Cp (.d px) i k x y x2 y2 z c w h tg), .c 1 0 (E5 (u :: v :: t))] 2 (.ret (.tup [])) [.c 0 0 (Ko (.ptr 1 0) Cp (.d px) i k ((u.toNat : Int) + -64) ((v.toNat : Int) + -64) x2 y2 z c w h tg), .c 1 0 (E5 t)] 2 := by
 have hu := u.toNat_lt
 have hv := v.toNat_lt
 have c1 := F7 u (v :: t)
 have c2 := F7 v t
 refine AH fun B M => ?_
 repeat' (first | refine Ai ?_ | (refine As ?_; first | refine Am [(1, none)] c1 ?_ | refine Am [(1, none)] c2 ?_ | refine Ae 185 fun _ => ?_ | refine Ae 220 fun _ => ?_ | refine Ar ?_ | refine Aw ?_ | refine Ax ?_ | (refine AJ (Ab 110) ?_; first | refine Ag (Ab 110) ?_ | refine Ao (Ak 110) ?_ | (refine Aj (Ad _ 110) ?_ ?_ <;> intro _ <;> (try (exfalso; omega))) | (refine Ap (Ad _ 110) ?_ ?_ <;> intro _)) | refine Ae 271 fun _ => ?_) | refine Ah ?_ | refine nc ?_ ?_ | (with_reducible intro _ <;> (try (exfalso; omega))) | refine Aa ?_ | (refine nd ?_ ?_ <;> intro hg <;> first | exact xo hg | rw [hg]))
 exact A8 []
theorem Yu {px : D} {i : Ba} {k x y x2 y2 z : Int} {c : BO} {w h : Int} {tg : Ba} (u v : UInt8) (t : List UInt8) : Dk Tryz.prog 249 2 [.ptr 0 0] [.c 0 0 (Ko (.ptr 1 0) Cp (.d px) i k x y x2 y2 z c w h tg), .c 1 0 (E5 (u :: v :: t))] 2 (.ret (.tup [])) [.c 0 0 (Ko (.ptr 1 0) Cp (.d px) i k x y ((u.toNat : Int) + -64) ((v.toNat : Int) + -64) z c w h tg), .c 1 0 (E5 t)] 2 := by
 have hu := u.toNat_lt
 have hv := v.toNat_lt
 have c1 := F7 u (v :: t)
 have c2 := F7 v t
 refine AH fun B M => ?_
 repeat' (first | refine Ai ?_ | (refine As ?_; first | refine Am [(1, none)] c1 ?_ | refine Am [(1, none)] c2 ?_ | refine Ae 185 fun _ => ?_ | refine Ae 220 fun _ => ?_ | refine Ar ?_ | refine Aw ?_ | refine Ax ?_ | (refine AJ (Ab 110) ?_; first | refine Ag (Ab 110) ?_ | refine Ao (Ak 110) ?_ | (refine Aj (Ad _ 110) ?_ ?_ <;> intro _ <;> (try (exfalso; omega))) | (refine Ap (Ad _ 110) ?_ ?_ <;> intro _)) | refine Ae 271 fun _ => ?_) | refine Ah ?_ | refine nc ?_ ?_ | (with_reducible intro _ <;> (try (exfalso; omega))) | refine Aa ?_ | (refine nd ?_ ?_ <;> intro hg <;> first | exact xo hg | rw [hg]))
 exact A8 []
theorem I9 {px : D} {i : Ba} {k x y x2 y2 z : Int} {c : BO} {w h : Int} {tg : Ba} (b : List UInt8) (hb : Ck b = none) : Dk Tryz.prog 248 2 [.ptr 0 0] [.c 0 0 (Ko (.ptr 1 0) Cp (.d px) i k x y x2 y2 z c w h tg), .c 1 0 (E5 b)] 2 (.panic (.d (GM 110))) [.c 0 0 (Mw (.ptr 1 0) Cp), .c 1 0 [.d .any, .d .any]] 2 := by
 match b, hb with
 | [], _ =>
  have c1 := H9
  refine AH fun B M => ?_
  repeat' (first | refine Ai ?_ | (refine As ?_; first | refine Am [(1, none)] c1 ?_ | refine Ae 185 fun _ => ?_ | refine Ae 220 fun _ => ?_ | refine Ar ?_ | refine Aw ?_ | refine Ax ?_ | (refine AJ (Ab 110) ?_; first | refine Ag (Ab 110) ?_ | refine Ao (Ak 110) ?_ | (refine Aj (Ad _ 110) ?_ ?_ <;> intro _ <;> (try (exfalso; omega))) | (refine Ap (Ad _ 110) ?_ ?_ <;> intro _)) | refine Ae 271 fun _ => ?_) | refine Ah ?_ | refine nc ?_ ?_ | (with_reducible intro _ <;> (try (exfalso; omega))) | refine Aa ?_ | (refine nd ?_ ?_ <;> intro hg <;> first | exact xo hg | rw [hg]))
  exact Ay []
 | [u], _ =>
  have hu := u.toNat_lt
  have c1 := F7 u []
  have c2 := H9
  refine AH fun B M => ?_
  repeat' (first | refine Ai ?_ | (refine As ?_; first | refine Am [(1, none)] c1 ?_ | refine Am [(1, none)] c2 ?_ | refine Ae 185 fun _ => ?_ | refine Ae 220 fun _ => ?_ | refine Ar ?_ | refine Aw ?_ | refine Ax ?_ | (refine AJ (Ab 110) ?_; first | refine Ag (Ab 110) ?_ | refine Ao (Ak 110) ?_ | (refine Aj (Ad _ 110) ?_ ?_ <;> intro _ <;> (try (exfalso; omega))) | (refine Ap (Ad _ 110) ?_ ?_ <;> intro _)) | refine Ae 271 fun _ => ?_) | refine Ah ?_ | refine nc ?_ ?_ | (with_reducible intro _ <;> (try (exfalso; omega))) | refine Aa ?_ | (refine nd ?_ ?_ <;> intro hg <;> first | exact xo hg | rw [hg]))
  exact Ay []
theorem TC {px : D} {i : Ba} {k x y x2 y2 z : Int} {c : BO} {w h : Int} {tg : Ba} (b : List UInt8) (hb : Ck b = none) : Dk Tryz.prog 249 2 [.ptr 0 0] [.c 0 0 (Ko (.ptr 1 0) Cp (.d px) i k x y x2 y2 z c w h tg), .c 1 0 (E5 b)] 2 (.panic (.d (GM 110))) [.c 0 0 (Mw (.ptr 1 0) Cp), .c 1 0 [.d .any, .d .any]] 2 := by
 match b, hb with
 | [], _ =>
  have c1 := H9
  refine AH fun B M => ?_
  repeat' (first | refine Ai ?_ | (refine As ?_; first | refine Am [(1, none)] c1 ?_ | refine Ae 185 fun _ => ?_ | refine Ae 220 fun _ => ?_ | refine Ar ?_ | refine Aw ?_ | refine Ax ?_ | (refine AJ (Ab 110) ?_; first | refine Ag (Ab 110) ?_ | refine Ao (Ak 110) ?_ | (refine Aj (Ad _ 110) ?_ ?_ <;> intro _ <;> (try (exfalso; omega))) | (refine Ap (Ad _ 110) ?_ ?_ <;> intro _)) | refine Ae 271 fun _ => ?_) | refine Ah ?_ | refine nc ?_ ?_ | (with_reducible intro _ <;> (try (exfalso; omega))) | refine Aa ?_ | (refine nd ?_ ?_ <;> intro hg <;> first | exact xo hg | rw [hg]))
  exact Ay []
 | [u], _ =>
  have hu := u.toNat_lt
  have c1 := F7 u []
  have c2 := H9
  refine AH fun B M => ?_
  repeat' (first | refine Ai ?_ | (refine As ?_; first | refine Am [(1, none)] c1 ?_ | refine Am [(1, none)] c2 ?_ | refine Ae 185 fun _ => ?_ | refine Ae 220 fun _ => ?_ | refine Ar ?_ | refine Aw ?_ | refine Ax ?_ | (refine AJ (Ab 110) ?_; first | refine Ag (Ab 110) ?_ | refine Ao (Ak 110) ?_ | (refine Aj (Ad _ 110) ?_ ?_ <;> intro _ <;> (try (exfalso; omega))) | (refine Ap (Ad _ 110) ?_ ?_ <;> intro _)) | refine Ae 271 fun _ => ?_) | refine Ah ?_ | refine nc ?_ ?_ | (with_reducible intro _ <;> (try (exfalso; omega))) | refine Aa ?_ | (refine nd ?_ ?_ <;> intro hg <;> first | exact xo hg | rw [hg]))
  exact Ay []
theorem QV {px : D} {i : Ba} {k x y x2 y2 z : Int} {c : BO} {w h : Int} {tg : Ba} (u v : UInt8) (t : List UInt8) : Dk Tryz.prog 250 2 [.ptr 0 0] [.c 0 0 (Ko (.ptr 1 0) Cp (.d px) i k x y x2 y2 z c w h tg), .c 1 0 (E5 (u :: v :: t))] 2 (.ret (.tup [])) [.c 0 0 (Ko (.ptr 1 0) Cp (.d px) i k x y x2 y2 ((256 * u.toNat + v.toNat : Nat) : Int) c w h tg), .c 1 0 (E5 t)] 2 := by
 have hu := u.toNat_lt
 have hv := v.toNat_lt
 have hn : 256 * u.toNat + v.toNat < 65536 := by omega
 have c1 := rd2 u v t
 generalize 256 * u.toNat + v.toNat = n at *
 refine AH fun B M => ?_
 repeat' (first | refine Ai ?_ | (refine As ?_; first | refine Am [(1, none)] c1 ?_ | refine Ae 185 fun _ => ?_ | refine Ae 220 fun _ => ?_ | refine Ar ?_ | refine Aw ?_ | refine Ax ?_ | (refine AJ (Ab 110) ?_; first | refine Ag (Ab 110) ?_ | refine Ao (Ak 110) ?_ | (refine Aj (Ad _ 110) ?_ ?_ <;> intro _ <;> (try (exfalso; omega))) | (refine Ap (Ad _ 110) ?_ ?_ <;> intro _))) | refine Ah ?_ | refine nc ?_ ?_ | (with_reducible intro _ <;> (try (exfalso; omega))) | refine Aa ?_ | (refine nd ?_ ?_ <;> intro hg <;> first | exact xo hg | rw [hg]))
 exact A8 []
theorem Oy {px : D} {i : Ba} {k x y x2 y2 z : Int} {c : BO} {w h : Int} {tg : Ba} (b : List UInt8) (hb : Dh b = none) : Dk Tryz.prog 250 2 [.ptr 0 0] [.c 0 0 (Ko (.ptr 1 0) Cp (.d px) i k x y x2 y2 z c w h tg), .c 1 0 (E5 b)] 2 (.panic (.d (GM 110))) [.c 0 0 (Mw (.ptr 1 0) Cp), .c 1 0 [.d .any, .d .any]] 2 := by
 have c1 := Adh b (by
  match b, hb with
  | [], _ => simp
  | [_], _ => simp)
 refine AH fun B M => ?_
 repeat' (first | refine Ai ?_ | (refine As ?_; first | refine Am [(1, none)] c1 ?_ | refine Ae 185 fun _ => ?_ | refine Ae 220 fun _ => ?_ | refine Ar ?_ | refine Aw ?_ | refine Ax ?_ | (refine AJ (Ab 110) ?_; first | refine Ag (Ab 110) ?_ | refine Ao (Ak 110) ?_ | (refine Aj (Ad _ 110) ?_ ?_ <;> intro _ <;> (try (exfalso; omega))) | (refine Ap (Ad _ 110) ?_ ?_ <;> intro _))) | refine Ah ?_ | refine nc ?_ ?_ | (with_reducible intro _ <;> (try (exfalso; omega))) | refine Aa ?_ | (refine nd ?_ ?_ <;> intro hg <;> first | exact xo hg | rw [hg]))
 exact Ay []

end Go.Proofs.YtbgcjnfhadhjeaaGreat