/- Walks by data and names, part 39: The program's frames, by V: the same, plain; parts and numbers of octets; ids that rise. Frames, by V: kinds, words, and the table of fields. -/
import Derived.Test.YtbgcjnfhadhjeaaGreatPk36
import Derived.Test.YtbgcjnfhadhjeaaGreatPk32
import Derived.Test.YtbgcjnfhadhjeaaGreatPk38
import Derived.Test.YtbgcjnfhadhjeaaGreatPk35
import Derived.Test.YtbgcjnfhadhjeaaGreatPk31
namespace Go.Proofs.YtbgcjnfhadhjeaaGreat
set_option maxRecDepth 20000
open Go.RowKit
set_option maxRecDepth 10000
set_option maxHeartbeats 4000000
theorem Dx (a b : Fr) : VP Tryz.prog 12 [.agg (Bx a), .agg (Bx b)] (· = .ret (.lit (.bool (decide (a = b))))) := by
 have c1 := HR a.bs b.bs
 have c2 := XZ a.os b.os
 simp only [Bx, Cj]
 refine Am fun B => ?_
 repeat' (first | refine Al ?_ | (refine Ay ?_; first | refine cz (c1) ?_ | refine cz (c2) ?_ | refine Y6 ?_) | refine Ak ?_ | refine nc ?_ ?_ | (with_reducible intro _ <;> (try (exfalso; omega))) | refine Ad ?_ | (refine nd ?_ ?_ <;> intro hg <;> first | exact xo hg | rw [hg]))
 all_goals (clear c1 c2; have hq := YH a b; (try simp only [Tw] at *); (try norm_cast at *); simp_all)
theorem ZL (a b : List UInt8) (ha : a.length ≤ 1000000) (hb : b.length ≤ 256) : VP Tryz.prog 133 [CV a, CV b] (· = .ret (.tup [.sl true true (AH (a ++ (Av 2 b.length ++ b))), Ar 0])) := by
 have c1 := Qy 2 b.length (by omega) (by omega)
 have c2 := LY a (Av 2 b.length) (by rw [As]; omega)
 have c3 := LY (a ++ Av 2 b.length) b (by rw [List.length_append, As]; omega)
 rw [List.append_assoc] at c3
 have hbl := AA b
 simp only [Int.cast_ofNat_Int] at c1
 rw [← hbl] at c1 c2 c3 ⊢
 refine Am fun B => ?_
 repeat' (first | refine Al ?_ | (refine Ay ?_; first | refine cz (c1) ?_ | refine cz (c2) ?_ | refine cz (c3) ?_) | refine Ak ?_ | refine nc ?_ ?_ | (with_reducible intro _ <;> (try (exfalso; omega))) | refine Ad ?_ | (refine nd ?_ ?_ <;> intro hg <;> first | exact xo hg | rw [hg]))
 all_goals rfl
theorem Ab1 (b : List UInt8) (w : Nat) (hw : 1 ≤ w ∧ w ≤ 8) (hl : b.length = w) : VP Tryz.prog 153 [CV b, Ar 0, Ar w] (· = .ret (.tup [AW (A3 b), Ar 0])) := by
 have hbl := AA b
 have c1 := RO w (by omega)
 have c2 := Ve b (by omega)
 have hcut : Fv (some 0) (some (0 + (w : Int))) (AH b) = AH b := by
  rw [show (0 : Int) + (w : Int) = (w : Int) by omega, GD]; simp only [Option.getD_some, Int.toNat_zero, List.drop_zero, Int.toNat_natCast]; exact List.take_of_length_le (by omega)
 refine Am fun B => ?_
 repeat' (first | rw [hcut] | refine Al ?_ | (refine Ay ?_; first | refine cz (c1) ?_ | refine cz (c2) ?_ | (refine AK (Bc 110) ?_; first | refine Ag (Bc 110) ?_ | refine An (Df 110) ?_ | (refine Ah (Bo _ 110) ?_ ?_ <;> intro _ <;> (try (exfalso; omega))) | (refine Ao (Bo _ 110) ?_ ?_ <;> intro _)) | (refine AK (Bc 111) ?_; first | refine Ag (Bc 111) ?_ | refine An (Df 111) ?_ | (refine Ah (Bo _ 111) ?_ ?_ <;> intro _ <;> (try (exfalso; omega))) | (refine Ao (Bo _ 111) ?_ ?_ <;> intro _)) | (refine AK (Bc 2) ?_; first | refine Ag (Bc 2) ?_ | refine An (Df 2) ?_ | (refine Ah (Bo _ 2) ?_ ?_ <;> intro _ <;> (try (exfalso; omega))) | (refine Ao (Bo _ 2) ?_ ?_ <;> intro _)) | refine Ae 199 fun _ => ?_ | refine Bs (hc := AN (fd := 229) Tryz.func198 rfl Tryz.ntmps198 Tryz.results198 fun _ => ?_)) | refine Ak ?_ | refine nc ?_ ?_ | (with_reducible intro _ <;> (try (exfalso; omega))) | refine Ad ?_ | (refine nd ?_ ?_ <;> intro hg <;> first | exact xo hg | rw [hg]) | refine AR Tryz.func229 rfl Tryz.ntmps229 Tryz.results229 ?_)
 all_goals rfl
theorem Hh (f : Fr) (hk : 1 ≤ f.k ∧ f.k ≤ 5) : VP Tryz.prog 39 [.agg (Bx f)] (· = .ret (.agg (Bx (Eo f)))) := by
 refine VP.le ?_
 obtain ⟨k, ep, si, sn, ix, my, bs, os, v, fl, fq, pr, tl, w⟩ := f
 rcases Jy hk.1 hk.2 with h | h | h | h | h <;> simp only at h <;> subst h
 all_goals
  first
   | rw [show Eo ⟨1, ep, si, sn, ix, my, bs, os, v, fl, fq, pr, tl, w⟩ = ⟨1, ep, si, sn, ix, 0, [], [], .zero, 0, 0, 0, 0, .zero⟩ from rfl]
   | rw [show Eo ⟨2, ep, si, sn, ix, my, bs, os, v, fl, fq, pr, tl, w⟩ = ⟨2, ep, si, sn, ix, my, bs, [], .zero, 0, 0, 0, 0, .zero⟩ from rfl]
   | rw [show Eo ⟨3, ep, si, sn, ix, my, bs, os, v, fl, fq, pr, tl, w⟩ = ⟨3, ep, si, 0, 0, 0, [], os, .zero, 0, 0, 0, 0, .zero⟩ from rfl]
   | rw [show Eo ⟨4, ep, si, sn, ix, my, bs, os, v, fl, fq, pr, tl, w⟩ = ⟨4, ep, si, 0, 0, 0, [], [], v, fl, fq, 0, 0, .zero⟩ from rfl]
   | rw [show Eo ⟨5, ep, si, sn, ix, my, bs, os, v, fl, fq, pr, tl, w⟩ = ⟨5, ep, 0, 0, 0, 0, [], [], v, 0, 0, pr, tl, w⟩ from rfl]
  simp only [Bx, Cj, Db, Vc.zero]
  refine Am fun B => ?_
  repeat' (first | (refine DU (by kernel_rfl) ?_; repeat' (first | refine Ba ?_ | refine DC ?_ | refine Cn ?_ | refine Bt ?_ | refine Ct ?_)) | refine Al ?_ | refine Ak ?_ | refine nc ?_ ?_ | (with_reducible intro _ <;> (try (exfalso; omega))) | refine Ad ?_ | (refine nd ?_ ?_ <;> intro hg <;> first | exact xo hg | rw [hg]))
 all_goals (simp only [HN, AH, List.map_nil, Int.ofNat_zero]; infer_instance)

set_option maxRecDepth 20000
set_option maxRecDepth 10000
abbrev Pa (k : Int) : List D := [.lit (Bl (Bp k)), .sl false true (EN (AV k))]
theorem XW : VP Tryz.prog 95 [] (· = .ret (.agg [.lit (Bl []), .sl false true [], .lit (Bl (Bp 1)), .sl false true (EN (AV 1)), .lit (Bl (Bp 2)), .sl false true (EN (AV 2)), .lit (Bl (Bp 3)), .sl false true (EN (AV 3)),
  .lit (Bl (Bp 4)), .sl false true (EN (AV 4)), .lit (Bl (Bp 5)), .sl false true (EN (AV 5))])) := by
 refine VP.le ?_
 refine Am fun B => ?_
 repeat' (first | refine Al ?_ | refine Ak ?_ | refine nc ?_ ?_ | (with_reducible intro _ <;> (try (exfalso; omega))) | refine Ad ?_ | (refine nd ?_ ?_ <;> intro hg <;> first | exact xo hg | rw [hg]))
 all_goals (simp only [HN, AV, Bp, EN, Iz, Fl.nm, List.map_cons, List.map_nil, AT, Int.reduceEq, if_true, if_false]; infer_instance)
theorem O1 (k : Int) : VP Tryz.prog 54 [Ar k] (· = .ret (.agg (Pa k))) := by
 have c := XW
 refine VP.le ?_
 rcases IV k with rfl | rfl | rfl | rfl | rfl | ⟨h1, h2, h3, h4, h5⟩
 all_goals
  refine Am fun B => ?_
  repeat' (first | refine Al ?_ | (refine Ay ?_; first | refine cz (c) ?_ | refine MA ?_) | refine Ak ?_ | refine nc ?_ ?_ | (with_reducible intro _ <;> (try (exfalso; omega))) | refine Ad ?_ | (refine nd ?_ ?_ <;> intro hg <;> first | exact xo hg | rw [hg]))
 all_goals first | exact AP _ | skip
 all_goals
  have e1 : Bp k = [] := by
   simp only [Bp]
   rw [if_neg h1, if_neg h2, if_neg h3, if_neg h4, if_neg h5]
  have e2 : AV k = [] := by
   simp only [AV]
   rw [if_neg h1, if_neg h2, if_neg h3, if_neg h4, if_neg h5]
  simp only [Pa, e1, e2, HN, List.map_nil]
  infer_instance
theorem GR (k : Int) : VP Tryz.prog 17 [Ar k] (· = .ret (.lit (Bl (Bp k)))) := by
 have c := O1 k
 refine Am fun B => ?_
 repeat' (first | refine Al ?_ | (refine Ay ?_; first | refine cz (c) ?_) | refine Ak ?_ | refine nc ?_ ?_ | (with_reducible intro _ <;> (try (exfalso; omega))) | refine Ad ?_ | (refine nd ?_ ?_ <;> intro hg <;> first | exact xo hg | rw [hg]))
 all_goals rfl
def Oh : Fl → FuncId
 | .ep => 126
 | .si => 128
 | .sn => 129
 | .ix => 130
 | .my => 131
 | .v => 142
 | .fl => 143
 | .fq => 144
 | .pr => 145
 | .tl => 146
 | .w => 147
 | _ => 0
abbrev FP (n : Fl) : List D := [.pt [.fn (Oh n) [] []]]
def H7 : Fl → D
 | .si => .fn 174 [] (FP .si)
 | .ix => .fn 174 [] (FP .ix)
 | .my => .fn 174 [] (FP .my)
 | .v => .fn 188 [] (FP .v)
 | .w => .fn 188 [] (FP .w)
 | .bs => .lit (.func (.func 132) #[] #[])
 | .os => .lit (.func (.func 135) #[] #[])
 | n => .fn 171 [] (FP n)
def H6 : Fl → D
 | .si => .fn 175 [] (FP .si)
 | .ix => .fn 175 [] (FP .ix)
 | .my => .fn 175 [] (FP .my)
 | .v => .fn 190 [] (FP .v)
 | .w => .fn 190 [] (FP .w)
 | .bs => .lit (.func (.func 134) #[] #[])
 | .os => .lit (.func (.func 138) #[] #[])
 | n => .fn 173 [] (FP n)
abbrev Fs (n : Fl) : List D := [Iz n, H7 n, H6 n]
def BU : List Fl := [.ep, .si, .sn, .ix, .my, .bs, .os, .v, .fl, .fq, .pr, .tl, .w]
theorem Ji (n : List UInt8) (a : FuncId) : VP Tryz.prog 125 [.lit (Bl n), .fn a [] []] (· = .ret (.agg [.lit (Bl n), .fn 171 [] [.pt [.fn a [] []]], .fn 173 [] [.pt [.fn a [] []]]])) := by
 refine Am fun B => ?_
 repeat' (first | refine Al ?_ | refine Ak ?_ | refine nc ?_ ?_ | (with_reducible intro _ <;> (try (exfalso; omega))) | refine Ad ?_ | (refine nd ?_ ?_ <;> intro hg <;> first | exact xo hg | rw [hg]))
 all_goals rfl
theorem Nr (n : List UInt8) (a : FuncId) : VP Tryz.prog 127 [.lit (Bl n), .fn a [] []] (· = .ret (.agg [.lit (Bl n), .fn 174 [] [.pt [.fn a [] []]], .fn 175 [] [.pt [.fn a [] []]]])) := by
 refine Am fun B => ?_
 repeat' (first | refine Al ?_ | refine Ak ?_ | refine nc ?_ ?_ | (with_reducible intro _ <;> (try (exfalso; omega))) | refine Ad ?_ | (refine nd ?_ ?_ <;> intro hg <;> first | exact xo hg | rw [hg]))
 all_goals rfl
theorem Tq (n : List UInt8) (a : FuncId) : VP Tryz.prog 141 [.lit (Bl n), .fn a [] []] (· = .ret (.agg [.lit (Bl n), .fn 188 [] [.pt [.fn a [] []]], .fn 190 [] [.pt [.fn a [] []]]])) := by
 refine Am fun B => ?_
 repeat' (first | refine Al ?_ | refine Ak ?_ | refine nc ?_ ?_ | (with_reducible intro _ <;> (try (exfalso; omega))) | refine Ad ?_ | (refine nd ?_ ?_ <;> intro hg <;> first | exact xo hg | rw [hg]))
 all_goals rfl
theorem JD : VP Tryz.prog 86 [] (· = .ret (.sl false true (BU.map Fs))) := by
 refine VP.le ?_
 refine Am fun B => ?_
 have c1 := Ji (Fl.nm .ep) 126
 have c2 := Nr (Fl.nm .si) 128
 have c3 := Ji (Fl.nm .sn) 129
 have c4 := Nr (Fl.nm .ix) 130
 have c5 := Nr (Fl.nm .my) 131
 have c9 := Tq (Fl.nm .v) 142
 have c10 := Ji (Fl.nm .fl) 143
 have c11 := Ji (Fl.nm .fq) 144
 have c12 := Ji (Fl.nm .pr) 145
 have c13 := Ji (Fl.nm .tl) 146
 have c14 := Tq (Fl.nm .w) 147
 simp only [Fl.nm] at c1 c2 c3 c4 c5 c9 c10 c11 c12 c13 c14
 repeat' (first | refine CW ?_ | refine Al ?_ | (refine Ay ?_; first | refine cz (c1) ?_ | refine cz (c2) ?_ | refine cz (c3) ?_ | refine cz (c4) ?_ | refine cz (c5) ?_ | refine cz (c9) ?_ | refine cz (c10) ?_ | refine cz (c11) ?_ | refine cz (c12) ?_ | refine cz (c13) ?_ | refine cz (c14) ?_) | refine Ak ?_ | refine nc ?_ ?_ | (with_reducible intro _ <;> (try (exfalso; omega))) | refine Ad ?_ | (refine nd ?_ ?_ <;> intro hg <;> first | exact xo hg | rw [hg]))
 all_goals exact AP _

end Go.Proofs.YtbgcjnfhadhjeaaGreat