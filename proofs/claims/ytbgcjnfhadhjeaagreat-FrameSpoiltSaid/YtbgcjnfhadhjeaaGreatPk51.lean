/- Walks by data and names, part 51: The program's frames, by V: Gk (rows of bytes). frame.Uses: strings.Join of the kit's shelf, laid at the seat's program. Layer 20's laws, by V: join, own. -/
import Derived.Shelf.Strings.OnBuilder
import Derived.Test.YtbgcjnfhadhjeaaGreatPk50
import Derived.Test.YtbgcjnfhadhjeaaGreatPk35
import Derived.Test.YtbgcjnfhadhjeaaGreatPk39
import Derived.Test.YtbgcjnfhadhjeaaGreatPk28
namespace Go.Proofs.YtbgcjnfhadhjeaaGreat
set_option maxRecDepth 20000
open Go.RowKit
set_option maxRecDepth 10000
set_option maxHeartbeats 8000000
def K2 (b : List UInt8) : List D := [CV b]
theorem OP (l : List (List UInt8)) : (l.map K2).length = l.length := List.length_map _
instance AaH (l : List (List UInt8)) : CC (l.map K2) (l.map K2) := BS l _ _ (fun _ => by unfold K2; infer_instance) (fun _ => rfl)
def IN (l : List (List UInt8)) : List Fr := l.flatMap fun b => if (CY b).2 = 0 then [(CY b).1] else []
theorem O0 (l : List (List UInt8)) : (IN l).length ≤ l.length := by
 induction l with
 | nil => simp [IN]
 | cons b l ih =>
  simp only [IN, List.flatMap_cons, List.length_append, List.length_cons] at ih ⊢
  split <;> simp only [List.length_cons, List.length_nil] <;> omega
instance SC (l : List Fr) : FI (l.map Gl) := HI l _
instance Acb (l : List Fr) : CC (l.map Gl) (l.map Bx) := BS l _ _ (fun _ => inferInstance) (fun _ => rfl)
theorem Un (l : List (List UInt8)) (h5 : l.length ≤ 66) (hl : ∀ b ∈ l, b.length ≤ 900000) : VP Tryz.prog 26 [.sl false false (l.map K2)] (· = .ret (.tup [.sl false true ((IN l).map Gl), Ar ((l.length : Int) - (IN l).length)])) := by
 refine VP.le ?_
 refine Am fun B => ?_
 have hlm := OP l
 repeat' (first | refine Al ?_ | refine Ak ?_ | refine nc ?_ ?_ | (with_reducible intro _ <;> (try (exfalso; omega))) | refine Ad ?_ | (refine nd ?_ ?_ <;> intro hg <;> first | exact xo hg | rw [hg]))
 refine Hw 4 28 30 rfl ?_
 refine Bi 9 l K2 (fun (i : Nat) (_ : Unit) => ⟨[(11, I .i64 i), (10, I .i64 (l.map K2).length), (9, .d (.sl false false (l.map K2))), (4, .row 0 0), (0, .d (.sl false false (l.map K2)))], [.r true true 0 0 28 30 ((IN (l.take i)).map Gl)], 1⟩) (fun i _ => True) () (AI) trivial (fun i y x hT hi hx hx' hlt hlm hlen hdr => ?_) (fun y hT hlt hlm => ?_)
 ·have htk : IN (l.take (i + 1)) = IN (l.take i) ++ (if (CY x).2 = 0 then [(CY x).1] else []) := by rw [List.take_add_one, hx]; simp [IN]
  have htl : ((IN (l.take i)).map Gl).length ≤ i := by rw [List.length_map]; have := O0 (l.take i); simp only [List.length_take] at this; omega
  have c := Jp x (hl x (List.mem_of_getElem? hx))
  obtain ⟨f, hf⟩ : ∃ f, (CY x).1 = f := ⟨_, rfl⟩
  obtain ⟨e, he⟩ : ∃ e, (CY x).2 = e := ⟨_, rfl⟩
  rw [hf, he] at c htk
  obtain ⟨L, hL⟩ : ∃ L, IN (l.take i) = L := ⟨_, rfl⟩
  rw [hL] at htk htl ⊢
  have htl2 : L.length ≤ i := by rw [List.length_map] at htl; exact htl
  simp only [K2] at hx'
  simp only [Gl, Cj, Db] at c
  repeat' (first | refine Al ?_ | (refine Ay ?_; first | refine cz (c) ?_) | refine Ak ?_ | refine nc ?_ ?_ | (with_reducible intro _ <;> (try (exfalso; omega))) | refine Ad ?_ | (refine nd ?_ ?_ <;> intro hg <;> first | exact xo hg | rw [hg]))
  all_goals refine Be () hi trivial ?_
  ·simp only [htk]
   rw [if_pos (c := e = 0) (by assumption), List.map_append]
   exact (CO [(0, _, _)])
  ·simp only [htk]
   rw [if_neg (c := e = 0) (by assumption), List.append_nil]
   exact (CO [(0, _, _)])
 ·rw [List.take_of_length_le (Nat.le_refl _)]
  have hok : ((IN l).map Gl).length ≤ l.length := by rw [List.length_map]; exact O0 l
  repeat' (first | refine Al ?_ | refine Ak ?_ | refine nc ?_ ?_ | (with_reducible intro _ <;> (try (exfalso; omega))) | refine Ad ?_ | (refine nd ?_ ?_ <;> intro hg <;> first | exact xo hg | rw [hg]))
  rw [OP, List.length_map]
  exact AP _

set_option maxRecDepth 20000
open Go.RowKit Go.Shelf
set_option maxHeartbeats 4000000
def TY : Go.Shelf.Ren := ⟨fun | 156 => 20 | 165 => 55 | 166 => 56 | 169 => 57 | 240 => 96 | 241 => 97 | 276 => 151 | 277 => 152 | n => n,
 fun | 0 => 0 | 3 => 3 | 4 => 4 | 5 => 5 | 9 => 9 | 20 => 20 | 31 => 42 | 37 => 23 | 70 => 101 | 72 => 103 | 75 => 106 | 76 => 107 | 80 => 109 | 127 => 149 | 164 => 197 | n => n, fun n => n⟩
theorem Rj : Lays.n156 Tryz.prog TY := by constructor <;> first | kernel_rfl | (intro w; kernel_rfl)
theorem Zq : Builder.X72 Tryz.prog TY := by constructor <;> kernel_rfl
theorem OI : Builder.Extra Tryz.prog TY := { toX72 := Zq, t5 := by kernel_rfl, a5 := fun w => by kernel_rfl, z5 := fun w => by kernel_rfl, v5 := fun w => by kernel_rfl, infoByte := by kernel_rfl, cellsByte := by kernel_rfl, sizeByte := by kernel_rfl, neB5 := by decide }
abbrev TS (l : List (List UInt8)) : List (List D) := l.map fun x => [.lit (Bl x)]
theorem SJ (l : List (List UInt8)) (j : Nat) : (l.flatMap fun x => ([Bl x] : List Value))[j]? = (l[j]?).map Bl := by
 induction l generalizing j with
 | nil => simp
 | cons x l ih => cases j with
  | zero => rfl
  | succ j => simpa [List.flatMap_cons] using ih j
theorem Rf (c f : Bool) (l : List (List UInt8)) (sep : List UInt8) (h1 : l.length ≤ 140737488355328) (h2 : (Lib.join l sep).length ≤ 140737488355328) : VP Tryz.prog 20 [.sl c f (TS l), .lit (Bl sep)] (· = .ret (.lit (Bl (Lib.join l sep)))) := by
 refine MB (Bq Tryz.func20 rfl rfl) fun U w us hus => ?_
 simp only [dreps] at hus
 obtain ⟨u1, us1, rfl, k1, u2, us2, rfl, k2, rfl⟩ := hus
 simp only [drep] at k2
 subst k2
 obtain ⟨a, cap, rfl, e1, e2, e3, hr⟩ := RW (fun x => [Bl x]) k1
 cases l with
 | nil =>
  refine (Any.strings_Join_none Rj OI a cap ⟨sep.toArray⟩ w).mono fun e w' ⟨he, hw⟩ => ?_
  subst hw
  exact ⟨Below.refl _ _, _, he, by simp only [drep]; rfl⟩
 | cons x l =>
  obtain ⟨b, o, rfl, hc⟩ := hr 0 (Bl x) rfl
  have hj := Any.strings_Join Rj OI b o cap ((x :: l).map fun n => (⟨n.toArray⟩ : ByteArray)) ⟨sep.toArray⟩ w (fun j y hy => by
   rw [List.getElem?_map] at hy
   obtain ⟨z, hz, rfl⟩ := Option.map_eq_some_iff.1 hy
   obtain ⟨b', o', e, hc'⟩ := hr j (Bl z) (by rw [SJ, hz]; rfl)
   cases e; exact hc') (World.block_lt_of_cell? w _ hc) (by rw [List.length_map]; exact h1) (by rw [List.length_map]; exact e1)
  have hm : ((x :: l).map fun n => (⟨n.toArray⟩ : ByteArray)).map (·.data.toList) = x :: l := by
   rw [List.map_map]; exact (List.map_congr_left fun _ _ => rfl).trans (List.map_id _)
  rw [hm, List.length_map] at hj
  refine (hj h2).mono fun e w' ⟨he, hw⟩ => ⟨hw, _, he, by simp only [drep]⟩
def H5 (k : Int) : List UInt8 := Lib.join ((AV k).map Fl.nm) [44, 32]
theorem Q5 (k : Int) : VP Tryz.prog 19 [Ar k] (· = .ret (.lit (Bl (H5 k)))) := by
 have c := O1 k
 have hl : ((AV k).map Fl.nm).length ≤ 13 ∧ (H5 k).length ≤ 200 := by
  unfold H5 AV
  repeat' split
  all_goals decide
 have e : TS ((AV k).map Fl.nm) = EN (AV k) := List.map_map
 have j := Rf false false ((AV k).map Fl.nm) [44, 32] (by omega) (by have := hl.2; unfold H5 at this; omega)
 rw [e] at j
 refine Am fun B => ?_
 repeat' (first | refine Al ?_ | (refine Ay ?_; first | refine cz (c) ?_ | refine cz (j) ?_) | refine Ak ?_ | refine nc ?_ ?_ | (with_reducible intro _ <;> (try (exfalso; omega))) | refine Ad ?_ | (refine nd ?_ ?_ <;> intro hg <;> first | exact xo hg | rw [hg]))
 all_goals rfl

set_option maxRecDepth 10000
set_option maxHeartbeats 8000000
def Cz : Fr := { Fr.zero with k := 1, ep := 3, si := 2, ix := 7 }
theorem VN : VP Tryz.prog 31 [] (· = .ret (.agg (Gl Cz))) := by
 refine VP.le ?_
 refine Am fun B => ?_
 repeat' (first | refine Al ?_ | refine Ak ?_ | refine nc ?_ ?_ | (with_reducible intro _ <;> (try (exfalso; omega))) | refine Ad ?_ | (refine nd ?_ ?_ <;> intro hg <;> first | exact xo hg | rw [hg]))
 simp only [HN, Cz, Gl, Cj, Db, Fr.zero, Vc.zero, AH, List.map_nil, Int.cast_ofNat_Int]
 infer_instance
abbrev Py : List V := [.d .any, .d .any, .d .any, .d .any, .d .any, .d .any, .d .any, .d .any, .d .any, .d .any, .d .any, .d .any, .d .any, .d .any, .d .any, .d .any, .d .any, .d .any, .d .any, .d .any, .d .any, .d .any, .d .any, .d .any, .d .any, .d .any, .d .any, .d .any, .d .any, .d .any]
def NM (f : Fr) : Fr := { f with bs := f.bs.take 260, os := (f.os.take 6).map Xw }
theorem HF (f : Fr) : VP Tryz.prog 9 [.agg (Bx f)] (· = .ret (.agg (Gl (NM f)))) := by
 refine VP.le ?_
 have hb := AA f.bs
 have ho := DW f.os
 have hcb : Fv none (some (min ((AH f.bs).length : Int) 260)) (AH f.bs) = AH (f.bs.take 260) := V6 _ f.bs 260
 have hcut : Fv none (some (min ((f.os.map oD).length : Int) 6)) (f.os.map oD) = (f.os.take 6).map oD := V6 oD f.os 6
 have hml : (f.os.take 6).length ≤ 6 := by simp; omega
 have cb := I7 (f.bs.take 260) (by simp; omega)
 simp only [Bx, Gl, Cj, Db, NM]
 refine Am fun B => ?_
 repeat' (first | rw [hcut] | refine Al ?_ | (refine Ay ?_; first | (rw [hcb]; first | refine cz (cb) ?_)) | refine Ak ?_ | refine nc ?_ ?_ | (with_reducible intro _ <;> (try (exfalso; omega))) | refine Ad ?_ | (refine nd ?_ ?_ <;> intro hg <;> first | exact xo hg | rw [hg]))
 clear hcut hcb cb
 generalize f.os.take 6 = m at *
 generalize f.bs.take 260 = q at *
 refine Hw 3 71 19 rfl ?_
 refine Bi 21 m oD (fun (i : Nat) (_ : Unit) => ⟨[(23, I .i64 i), (22, I .i64 (m.map oD).length), (21, .d (Ej m)), (3, .row 2 0), (2, .ptr 1 0), (1, .ptr 0 0)], [.r true true 2 0 71 19 (((m.take i).map Xw).map oM), .c 1 0 Py, .c 0 0 ((Db (.sl false true (AH q)) (Ej f.os) f).map .d)], 3⟩) (fun i _ => True) () (AI) trivial (fun i y x hT hi hx hx' hlt hlm hlen hdr => ?_) (fun y hT hlt hlm => ?_)
 ·have htk : m.take (i + 1) = m.take i ++ [x] := by rw [List.take_add_one, hx]; rfl
  have htl : (((m.take i).map Xw).map oM).length ≤ 66 := by simp; omega
  have c := M7 (x.px.take 66) (by simp; omega)
  have hpl := Dl x.px
  have hcp : Fv none (some (min ((x.px.map CI).length : Int) 66)) (x.px.map CI) = (x.px.take 66).map CI := V6 CI x.px 66
  simp only [oD, De] at hx'
  repeat' (first | refine Al ?_ | (refine Ay ?_; first | (rw [hcp]; first | refine cz (c) ?_)) | refine Ak ?_ | refine nc ?_ ?_ | (with_reducible intro _ <;> (try (exfalso; omega))) | refine Ad ?_ | (refine nd ?_ ?_ <;> intro hg <;> first | exact xo hg | rw [hg]))
  refine Be () hi trivial ?_
  simp only [htk, List.map_append, List.map_cons, List.map_nil]
  exact (CO [(2, _, _)])
 ·rw [List.take_of_length_le (Nat.le_refl _)]
  repeat' (first | refine Al ?_ | refine Ak ?_ | refine nc ?_ ?_ | (with_reducible intro _ <;> (try (exfalso; omega))) | refine Ad ?_ | (refine nd ?_ ?_ <;> intro hg <;> first | exact xo hg | rw [hg]))
  first | exact AP _ | (simp only [HN]; infer_instance)

end Go.Proofs.YtbgcjnfhadhjeaaGreat