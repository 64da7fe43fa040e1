/- Walks by data and names, part 46: The program's frames, by V: Gs (rows of bytes). frame.Uses: strings.Join of the kit's shelf, laid at the seat's program. Layer 20's laws, by V: join, own. -/
import Derived.Shelf.Strings.OnBuilder
import Derived.Test.YtbgcjnfhadhjeaaGreatQk45
import Derived.Test.YtbgcjnfhadhjeaaGreatQk31
import Derived.Test.YtbgcjnfhadhjeaaGreatQk39
import Derived.Test.YtbgcjnfhadhjeaaGreatQk26
namespace Go.Proofs.YtbgcjnfhadhjeaaGreat
set_option maxRecDepth 20000
open Go.RowKit
set_option maxRecDepth 10000
set_option maxHeartbeats 8000000
def F5 (b : List UInt8) : List D := [BD b]
theorem K1 (l : List (List UInt8)) : (l.map F5).length = l.length := List.length_map _
instance AaZ (l : List (List UInt8)) : CO (l.map F5) (l.map F5) := BM l _ _ (fun _ => by unfold F5; infer_instance) (fun _ => rfl)
def D9 (l : List (List UInt8)) : List Fr := l.flatMap fun b => if (BG b).2 = 0 then [(BG b).1] else []
theorem Lm (l : List (List UInt8)) : (D9 l).length ≤ l.length := by
 induction l with
 | nil => simp [D9]
 | cons b l ih =>
  simp only [D9, List.flatMap_cons, List.length_append, List.length_cons] at ih ⊢
  split <;> simp only [List.length_cons, List.length_nil] <;> omega
instance Sv (l : List Fr) : FN (l.map Mn) := HU l _
instance Acn (l : List Fr) : CO (l.map Mn) (l.map Cc) := BM l _ _ (fun _ => inferInstance) (fun _ => rfl)
theorem OJ (l : List (List UInt8)) (h5 : l.length ≤ 66) (hl : ∀ b ∈ l, b.length ≤ 900000) : VP Tryz.prog 26 [.sl false false (l.map F5)] (· = .ret (.tup [.sl false true ((D9 l).map Mn), An ((l.length : Int) - (D9 l).length)])) := by
 refine VP.le ?_
 refine Al fun B => ?_
 have hlm := K1 l
 repeat' (first | refine Ai ?_ | refine Ah ?_ | refine nc ?_ ?_ | (with_reducible intro _ <;> (try (exfalso; omega))) | refine Aa ?_ | (refine nd ?_ ?_ <;> intro hg <;> first | exact xo hg | rw [hg]))
 refine HI 4 28 30 rfl ?_
 refine Bo 9 l F5 (fun (i : Nat) (_ : Unit) => ⟨[(11, I .i64 i), (10, I .i64 (l.map F5).length), (9, .d (.sl false false (l.map F5))), (4, .row 0 0), (0, .d (.sl false false (l.map F5)))], [.r true true 0 0 28 30 ((D9 (l.take i)).map Mn)], 1⟩) (fun i _ => True) () (AE) trivial (fun i y x hT hi hx hx' hlt hlm hlen hdr => ?_) (fun y hT hlt hlm => ?_)
 ·have htk : D9 (l.take (i + 1)) = D9 (l.take i) ++ (if (BG x).2 = 0 then [(BG x).1] else []) := by rw [List.take_add_one, hx]; simp [D9]
  have htl : ((D9 (l.take i)).map Mn).length ≤ i := by rw [List.length_map]; have := Lm (l.take i); simp only [List.length_take] at this; omega
  have c := K6 x (hl x (List.mem_of_getElem? hx))
  obtain ⟨f, hf⟩ : ∃ f, (BG x).1 = f := ⟨_, rfl⟩
  obtain ⟨e, he⟩ : ∃ e, (BG x).2 = e := ⟨_, rfl⟩
  rw [hf, he] at c htk
  obtain ⟨L, hL⟩ : ∃ L, D9 (l.take i) = L := ⟨_, rfl⟩
  rw [hL] at htk htl ⊢
  have htl2 : L.length ≤ i := by rw [List.length_map] at htl; exact htl
  simp only [F5] at hx'
  simp only [Mn, Dn, Do] at c
  repeat' (first | refine Ai ?_ | (refine As ?_; first | refine cz (c) ?_) | refine Ah ?_ | refine nc ?_ ?_ | (with_reducible intro _ <;> (try (exfalso; omega))) | refine Aa ?_ | (refine nd ?_ ?_ <;> intro hg <;> first | exact xo hg | rw [hg]))
  all_goals refine Bd () hi trivial ?_
  ·simp only [htk]
   rw [if_pos (c := e = 0) (by assumption), List.map_append]
   exact (Eo [(0, _, _)])
  ·simp only [htk]
   rw [if_neg (c := e = 0) (by assumption), List.append_nil]
   exact (Eo [(0, _, _)])
 ·rw [List.take_of_length_le (Nat.le_refl _)]
  have hok : ((D9 l).map Mn).length ≤ l.length := by rw [List.length_map]; exact Lm l
  repeat' (first | refine Ai ?_ | refine Ah ?_ | refine nc ?_ ?_ | (with_reducible intro _ <;> (try (exfalso; omega))) | refine Aa ?_ | (refine nd ?_ ?_ <;> intro hg <;> first | exact xo hg | rw [hg]))
  rw [K1, List.length_map]
  exact A7 _

set_option maxRecDepth 20000
open Go.RowKit Go.Shelf
set_option maxHeartbeats 4000000
def TU : Go.Shelf.Ren := ⟨fun | 156 => 20 | 165 => 55 | 166 => 56 | 169 => 57 | 240 => 96 | 241 => 97 | 276 => 151 | 277 => 152 | n => n,
 fun | 0 => 0 | 3 => 3 | 4 => 4 | 5 => 5 | 9 => 9 | 20 => 20 | 31 => 42 | 37 => 23 | 70 => 101 | 72 => 103 | 75 => 106 | 76 => 107 | 80 => 109 | 127 => 149 | 164 => 197 | n => n, fun n => n⟩
theorem QY : Lays.n156 Tryz.prog TU := by constructor <;> first | kernel_rfl | (intro w; kernel_rfl)
theorem ZA : Builder.X72 Tryz.prog TU := by constructor <;> kernel_rfl
theorem Oz : Builder.Extra Tryz.prog TU := { toX72 := ZA, t5 := by kernel_rfl, a5 := fun w => by kernel_rfl, z5 := fun w => by kernel_rfl, v5 := fun w => by kernel_rfl, infoByte := by kernel_rfl, cellsByte := by kernel_rfl, sizeByte := by kernel_rfl, neB5 := by decide }
abbrev Yx (l : List (List UInt8)) : List (List D) := l.map fun x => [.lit (By x)]
theorem SD (l : List (List UInt8)) (j : Nat) : (l.flatMap fun x => ([By x] : List Value))[j]? = (l[j]?).map By := by
 induction l generalizing j with
 | nil => simp
 | cons x l ih => cases j with
  | zero => rfl
  | succ j => simpa [List.flatMap_cons] using ih j
theorem WU (c f : Bool) (l : List (List UInt8)) (sep : List UInt8) (h1 : l.length ≤ 140737488355328) (h2 : (Lib.join l sep).length ≤ 140737488355328) : VP Tryz.prog 20 [.sl c f (Yx l), .lit (By sep)] (· = .ret (.lit (By (Lib.join l sep)))) := by
 refine Mu (Bu Tryz.func20 rfl rfl) fun U w us hus => ?_
 simp only [dreps] at hus
 obtain ⟨u1, us1, rfl, k1, u2, us2, rfl, k2, rfl⟩ := hus
 simp only [drep] at k2
 subst k2
 obtain ⟨a, cap, rfl, e1, e2, e3, hr⟩ := RA (fun x => [By x]) k1
 cases l with
 | nil =>
  refine (Any.strings_Join_none QY Oz a cap ⟨sep.toArray⟩ w).mono fun e w' ⟨he, hw⟩ => ?_
  subst hw
  exact ⟨Below.refl _ _, _, he, by simp only [drep]; rfl⟩
 | cons x l =>
  obtain ⟨b, o, rfl, hc⟩ := hr 0 (By x) rfl
  have hj := Any.strings_Join QY Oz b o cap ((x :: l).map fun n => (⟨n.toArray⟩ : ByteArray)) ⟨sep.toArray⟩ w (fun j y hy => by
   rw [List.getElem?_map] at hy
   obtain ⟨z, hz, rfl⟩ := Option.map_eq_some_iff.1 hy
   obtain ⟨b', o', e, hc'⟩ := hr j (By z) (by rw [SD, hz]; rfl)
   cases e; exact hc') (World.block_lt_of_cell? w _ hc) (by rw [List.length_map]; exact h1) (by rw [List.length_map]; exact e1)
  have hm : ((x :: l).map fun n => (⟨n.toArray⟩ : ByteArray)).map (·.data.toList) = x :: l := by
   rw [List.map_map]; exact (List.map_congr_left fun _ _ => rfl).trans (List.map_id _)
  rw [hm, List.length_map] at hj
  refine (hj h2).mono fun e w' ⟨he, hw⟩ => ⟨hw, _, he, by simp only [drep]⟩
def Oj (k : Int) : List UInt8 := Lib.join ((Bb k).map Fl.nm) [44, 32]
theorem WM (k : Int) : VP Tryz.prog 19 [An k] (· = .ret (.lit (By (Oj k)))) := by
 have c := OV k
 have hl : ((Bb k).map Fl.nm).length ≤ 13 ∧ (Oj k).length ≤ 200 := by
  unfold Oj Bb
  repeat' split
  all_goals decide
 have e : Yx ((Bb k).map Fl.nm) = Fa (Bb k) := List.map_map
 have j := WU false false ((Bb k).map Fl.nm) [44, 32] (by omega) (by have := hl.2; unfold Oj at this; omega)
 rw [e] at j
 refine Al fun B => ?_
 repeat' (first | refine Ai ?_ | (refine As ?_; first | refine cz (c) ?_ | refine cz (j) ?_) | refine Ah ?_ | refine nc ?_ ?_ | (with_reducible intro _ <;> (try (exfalso; omega))) | refine Aa ?_ | (refine nd ?_ ?_ <;> intro hg <;> first | exact xo hg | rw [hg]))
 all_goals rfl

set_option maxRecDepth 10000
set_option maxHeartbeats 8000000
def CU : Fr := { Fr.zero with k := 1, ep := 3, si := 2, ix := 7 }
theorem Vx : VP Tryz.prog 31 [] (· = .ret (.agg (Mn CU))) := by
 refine VP.le ?_
 refine Al fun B => ?_
 repeat' (first | refine Ai ?_ | refine Ah ?_ | refine nc ?_ ?_ | (with_reducible intro _ <;> (try (exfalso; omega))) | refine Aa ?_ | (refine nd ?_ ?_ <;> intro hg <;> first | exact xo hg | rw [hg]))
 simp only [Cm, CU, Mn, Dn, Do, Fr.zero, Vc.zero, AG, List.map_nil, Int.cast_ofNat_Int]
 infer_instance
abbrev AcE : List V := [.d .any, .d .any, .d .any, .d .any, .d .any, .d .any, .d .any, .d .any, .d .any, .d .any, .d .any, .d .any, .d .any, .d .any, .d .any, .d .any, .d .any, .d .any, .d .any, .d .any, .d .any, .d .any, .d .any, .d .any, .d .any, .d .any, .d .any, .d .any, .d .any, .d .any]

end Go.Proofs.YtbgcjnfhadhjeaaGreat