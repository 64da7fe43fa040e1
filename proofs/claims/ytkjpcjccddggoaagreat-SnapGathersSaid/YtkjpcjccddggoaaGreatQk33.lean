/- Walks by data and names, part 33: runs: the reader's tiles. -/
import Derived.Test.YtkjpcjccddggoaaGreatQk32
namespace Go.Proofs.YtkjpcjccddggoaaGreat
set_option maxRecDepth 20000
open Go.RowKit
/-- the tiles of bytes, so many, behind tiles that are read already; Zf: the zero of the next place -/
def readTs (Zf : List (List Col) → List Col) : Nat → List (List Col) → List UInt8 → Option (List (List Col) × Nat)
  | 0, A, _ => some (A, 0)
  | _ + 1, _, [] => none
  | m + 1, A, b :: l =>
    if b = 0 then (readTs Zf m (A ++ [Zf A]) l).map fun p => (p.1, p.2 + 1)
    else match readT [] (b :: l) with
      | none => none
      | some (T, k) => if T = Zf A then none else (readTs Zf m (A ++ [T]) ((b :: l).drop k)).map fun p => (p.1, p.2 + k)
theorem readT_le (T : List Col) (l : List UInt8) (T' : List Col) (k : Nat) (hr : readT T l = some (T', k)) : k ≤ l.length := by
  by_cases h : T.length = 64
  · rw [readT_full T l h] at hr; cases hr; omega
  · match l, hr with
    | m :: r :: g :: b :: a :: rest, hr =>
      rw [readT, if_neg h] at hr
      split at hr
      · obtain ⟨p, hp, he⟩ := Option.map_eq_some_iff.1 hr
        cases he
        have := readT_le _ rest p.1 p.2 hp
        simp; omega
      · cases hr
    | [], hr => unfold readT at hr; simp [h] at hr
    | [_], hr => unfold readT at hr; simp [h] at hr
    | [_, _], hr => unfold readT at hr; simp [h] at hr
    | [_, _, _], hr => unfold readT at hr; simp [h] at hr
    | [_, _, _, _], hr => unfold readT at hr; simp [h] at hr
termination_by l.length
theorem OwnT.kept {base br : Nat} {w w' : World} {v : Value} {A : List (List Col)} (h : OwnT base w v A) (hg : w.grownBy w' (some br)) (hb : br < base) : OwnT base w' v A :=
  ⟨h.1, h.2.kept hg (.inr (fun e => own_ne h.2 hb e.symm))⟩
theorem OwnT.below {base : Nat} {w w' : World} {v : Value} {A : List (List Col)} (h : OwnT base w v A) (hb : Below w.heap.size w w') : OwnT base w' v A := ⟨h.1, ownsRow_below h.2 hb (Nat.le_refl _)⟩
theorem Kept.grown {w w1 w2 : World} {br : Nat} (h : Kept (· = br) w w1) (hg : w1.grownBy w2 (some br)) : Kept (· = br) w w2 := h.trans (.of_grown hg (by rintro k ⟨⟩; rfl))
theorem Kept.trans' {w w1 w2 : World} {S : Nat → Prop} {row : Option Nat} (h : Kept S w w1) (hg : w1.grownBy w2 row) (hr : ∀ k, row = some k → w.heap.size ≤ k) : Kept S w w2 :=
  ⟨hg.os.trans h.os, hg.tape.trans h.tape, hg.output.trans h.output, Nat.le_trans h.size hg.size, fun i hi hn => (hg.block i (Nat.lt_of_lt_of_le hi h.size) (fun e => by have := hr i e.symm; omega)).trans (h.block i hi hn)⟩
theorem Bytes.kept {w w' : World} {bs : Value} {l : List UInt8} {br : Nat} {cs : Array Value} {t : TypeId} (h : Bytes w bs l) (hb : Blk w br cs t) (hn : noB cs) (hg : Kept (· = br) w w') : Bytes w' bs l :=
  h.keep hb hn ⟨hg.os, hg.tape, hg.output, hg.size, fun k hk hne => hg.block k hk (fun e => hne (by rw [e]))⟩
/-- the reader, under way -/
structure RdInv (br : Nat) (w0 w : World) (wd hg bs tl : Value) (at_ : Nat) (A : List (List Col)) : Prop where
  kept : Kept (· = br) w0 w
  blk : Blk w br (rdC wd hg tl bs at_) 181
  own : OwnT w0.heap.size w tl A
theorem RdInv.below {br : Nat} {w0 w w' : World} {wd hg bs tl : Value} {at_ : Nat} {A : List (List Col)} (h : RdInv br w0 w wd hg bs tl at_ A) (hb : Below w.heap.size w w') : RdInv br w0 w' wd hg bs tl at_ A :=
  ⟨h.kept.trans (.of_below hb), h.blk.below hb h.blk.lt, h.own.below hb⟩
theorem RdInv.append {br : Nat} {w0 w w1 : World} {wd hg bs tl v : Value} {at_ : Nat} {A : List (List Col)} {T : List Col} (h : RdInv br w0 w wd hg bs tl at_ A)
    (hown : w1.ownsRow w0.heap.size 109 256 v (A.length + 1) (tlc A ++ (tcells T).toList)) (hg1 : w.grownBy w1 tl.ownBlock) (hbr : br < w0.heap.size) (hT : T.length = 64) : RdInv br w0 (w1.setCell ⟨br, 2, none⟩ v) wd hg bs v at_ (A ++ [T]) where
  kept := by
    refine Kept.setCell (h.kept.trans' hg1 (fun k hk => (h.own.2.lt k hk).1)) br 2 v (.inr rfl)
  blk := (h.blk.grown hg1 (own_ne h.own.2 hbr)).set 2 v
  own := by
    refine OwnT.kept (w := w1) ⟨?_, ?_⟩ (gb_set (gb_refl _ _) 2 v) hbr
    · intro U hU
      rcases List.mem_append.1 hU with hU | hU
      · exact h.own.1 U hU
      · obtain rfl : U = T := by simpa using hU
        exact hT
    · rw [List.length_append, List.length_singleton, show tlc (A ++ [T]) = tlc A ++ (tcells T).toList from by simp [tlc]]
      exact hown
/-- a closure that tells the zero of the next place -/
structure ZeroDyn (br : Nat) (w0 : World) (wd hg bs z : Value) (Zf : List (List Col) → List Col) (n : Nat) (f : FuncId) (cv : Value) : Prop where
  val : z = .func (.func f) #[] #[cv]
  enters : ∀ (i : Value) (w : World), (callFunc f #[i, cv]).run Tryz.prog w = .ok (.enter f #[i, cv]) w
  len : ∀ A, All64 A → A.length < n → (Zf A).length = 64
  tells : ∀ w tl at_ A, RdInv br w0 w wd hg bs tl at_ A → A.length < n → Calls Tryz.prog f #[.int .i64 A.length, cv] w fun e w' => e = .returned (tileV (Zf A)) ∧ Below w.heap.size w w'
structure TilesGot (br : Nat) (w0 w' : World) (wd hg bs : Value) (at_ : Nat) (e : Ending) (A : List (List Col)) (k : Nat) : Prop where
  ret : e = .returned (.tuple #[])
  inv : ∃ tl, RdInv br w0 w' wd hg bs tl (at_ + k) A
structure TilesNot (br : Nat) (w0 w' : World) (e : Ending) : Prop where
  ret : e = .panicked wrongP
  kept : Kept (· = br) w0 w'
def TilesPost (br : Nat) (w0 w' : World) (wd hg bs : Value) (at_ : Nat) (e : Ending) : Option (List (List Col) × Nat) → Prop
  | some (A, k) => TilesGot br w0 w' wd hg bs at_ e A k
  | none => TilesNot br w0 w' e
set_option maxRecDepth 100000 in
set_option maxHeartbeats 4000000 in
theorem rdtiles_any (W H at_ br : Nat) (bs z : Value) (l : List UInt8) (w : World) (hW : W ≤ 4) (hH : H ≤ 4) (h : Blk w br (rdC (.int .i64 W) (.int .i64 H) (.slice none 0 0) bs at_) 181) (hb : Bytes w bs l) (ha : at_ ≤ l.length)
    (Zf : List (List Col) → List Col) (f : FuncId) (cv : Value) (hz : ZeroDyn br w (.int .i64 W) (.int .i64 H) bs z Zf (W * H) f cv) :
    Calls Tryz.prog 125 #[rd br, z] w fun e w' => TilesPost br w w' (.int .i64 W) (.int .i64 H) bs at_ e (readTs Zf (W * H) [] (l.drop at_)) := by
  obtain ⟨hzv, hen, hzl, htl⟩ := hz
  subst hzv
  have hbs := hb
  obtain ⟨ab, cb, rfl, hcb1, hcb2, _, _⟩ := hbs
  unfold maxLen at hcb2
  have hmul : W * H ≤ 16 := by
    have := Nat.mul_le_mul hW hH; omega
  have hwm : IntKind.i64.wrap ((W : Int) * (H : Int)) = ((W * H : Nat) : Int) := wr64 _ _ (by simp) (by omega)
  have c0 := h.cell 0
  have c1 := h.cell 1
  simp only [List.getElem?_toArray, List.getElem?_cons_zero, List.getElem?_cons_succ] at c0 c1
  obtain ⟨n, hn⟩ : ∃ n, W * H = n := ⟨_, rfl⟩
  rw [hn] at hwm hmul hzl htl ⊢
  have hbr := h.lt
  go_enter Tryz.func125, Tryz.ntmps125
  go_wp2
  refine wp_region_cuts [.q [_, _, _, _, _, _, _, _, _, _, _, _]] [] rfl (fun w'' => Below w.heap.size w w'') (by kernel_rfl) (by kernel_rfl) (fun _ _ d _ _ h => by cases d <;> exact h) ?_
  refine cut_q (by (repeat (first | assumption | exact Below.refl _ _ | refine below_dN ?_ _ | refine Below.alloc ?_ (by first | exact Nat.le_refl _ | omega | (simp; fail_if_success (focus skip)) | (simp; omega)) _ | refine Below.setCell ?_ (by first | exact Nat.le_refl _ | omega | (simp; fail_if_success (focus skip)) | (simp; omega)) _ | refine Below.drew ?_ | refine Below.trans ?_ (Below.mono (by assumption) (by first | exact Nat.le_refl _ | omega | (simp; fail_if_success (focus skip)) | (simp; omega)))))) ?_
  repeat (first | go_big_quiet_step ((intros; rfl)) | quiet_step ((intros; rfl)) | fail | (refine wq_loadB rfl rfl (by kernel_rfl) (by assumption) ?_; simp only [Act.put, List.setIfInBounds_toArray, List.set_cons_succ, List.set_cons_zero]))
  refine wpQuiet_nil ?_
  refine cut_end ?_
  go_wp2
  go_loopw [17] (fun i wr => ∃ (A : List (List Col)) (j : Nat) (tl : Value), A.length ≤ n ∧ i = .int .i64 A.length ∧ at_ + j ≤ l.length ∧ readTs Zf n [] (l.drop at_) = (readTs Zf (n - A.length) A (l.drop (at_ + j))).map (fun p => (p.1, p.2 + j)) ∧ RdInv br w wr (.int .i64 W) (.int .i64 H) (.slice ab l.length cb) tl (at_ + j) A)
    (fun i _ => n - (intOf i).toNat)
  case atStart =>
    refine ⟨[], 0, .slice none 0 0, by simp, rfl, by omega, by simp, ?_, h, ⟨by simp [All64], World.ownsRow_nil _ _ _ _⟩⟩
    exact .of_below (by (repeat (first | assumption | exact Below.refl _ _ | refine below_dN ?_ _ | refine Below.alloc ?_ (by first | exact Nat.le_refl _ | omega | (simp; fail_if_success (focus skip)) | (simp; omega)) _ | refine Below.setCell ?_ (by first | exact Nat.le_refl _ | omega | (simp; fail_if_success (focus skip)) | (simp; omega)) _ | refine Below.drew ?_ | refine Below.trans ?_ (Below.mono (by assumption) (by first | exact Nat.le_refl _ | omega | (simp; fail_if_success (focus skip)) | (simp; omega))))))
  case round =>
    obtain ⟨A, j, tl, hA, rfl, hj, hr, hI⟩ := hrel
    have HR := Lib.hid hr
    clear hr
    have hnoB : ∀ m : Nat, noB (rdC (.int .i64 W) (.int .i64 H) tl (.slice ab l.length cb) m) := by
      obtain ⟨a3, c3, rfl, _, _⟩ := ownsRow_slice hI.own.2
      exact fun m => noB_rd _ _ _ _ _ _ _ _ m
    have hbW : Bytes wr (.slice ab l.length cb) l := hb.kept h (fun jj x => by
      rcases jj with _ | _ | _ | _ | _ | jj <;> simp) hI.kept
    obtain ⟨p, hp⟩ : ∃ p, at_ + j = p := ⟨_, rfl⟩
    have hp' := Lib.hid hp
    have hblk := hI.blk
    rw [hp] at hblk
    have hjp : p ≤ l.length := by omega
    have hown := hI.own
    have hs1 := hI.kept.size
    have hAl := hI.own.1
    obtain ⟨k, hkA⟩ : ∃ k, A.length = k := ⟨_, rfl⟩
    rw [hkA]
    have hkA' := Lib.hid hkA
    by_cases hlt : k < n
    · have hZl := hzl A hAl (by omega)
      have htell := fun (w' : World) (hI' : RdInv br w w' (.int .i64 W) (.int .i64 H) (.slice ab l.length cb) tl (at_ + j) A) => htl w' tl (at_ + j) A hI' (by omega)
      obtain ⟨m, hm⟩ : ∃ m, n - k = m + 1 := ⟨n - k - 1, by omega⟩
      cases hX : l.drop (at_ + j) with
      | nil =>
        have hll : l.length < p + 1 := by have := congrArg List.length hX; simp at this; omega
        have hno : readTs Zf n [] (l.drop at_) = none := by rw [HR.out, hkA, hm, hX]; rfl
        go_wp2_with (go_at_call 123; refine (next_no _ _ _ _ p br 1 l _ hblk hbW hjp (by omega) hll).mono ?_; rintro e w' ⟨rfl, hb2⟩)
        refine ⟨rfl, ?_⟩
        rw [hno]
        exact ⟨rfl, hI.kept.trans (.of_below hb2)⟩
      | cons b rest =>
        have hll : p + 1 ≤ l.length := by have := congrArg List.length hX; simp at this; omega
        have htk : (l.drop p).take 1 = [b] := by rw [← hp, hX]; rfl
        have hwp : IntKind.i64.wrap (((p + 1 : Nat) : Int) - 1) = (p : Int) := wr64 _ _ (by omega) (by omega)
        have hwp' : IntKind.i64.wrap ((p : Int) + 1 - 1) = (p : Int) := wr64 _ _ (by omega) (by omega)
        have hrest : rest = l.drop (at_ + (j + 1)) := by
          have := congrArg (List.drop 1) hX
          rw [List.drop_drop] at this
          simpa [Nat.add_assoc] using this.symm
        by_cases hb0 : b = 0
        · have hq : ((b.toNat : Int) == 0) = true := by simp [hb0]
          have HX : Hid (readTs Zf n [] (l.drop at_) = (readTs Zf (n - (A ++ [Zf A]).length) (A ++ [Zf A]) (l.drop (at_ + (j + 1)))).map (fun p => (p.1, p.2 + (j + 1)))) := by
            refine Lib.hid ?_
            rw [HR.out, hkA, hm, hX, readTs, if_pos hb0, hrest, show n - (A ++ [Zf A]).length = m from by simp; omega, Option.map_map]
            congr 1; funext p; simp [Function.comp]; omega
          clear HR hb0
          go_wp2_with (go_at_call 123; refine (next_yes _ _ _ _ p br 1 l _ hblk hbW hjp (by omega) (by omega) hll).mono ?_; rw [htk]; rintro e w1 ⟨v, rfl, hv, hB1, hg1⟩; obtain ⟨av, cv1, rfl, hcv1, hcv2, _, rv⟩ := (show IsSl w1 v 1 [vb b] from hv); obtain ⟨bb, oo, rfl, cb1⟩ := rv 0 (vb b) rfl; rw [Nat.add_zero] at cb1; obtain ⟨x1, x2, x3⟩ := hB1.all; have hB2 : Blk (w1.setCell ⟨br, 4, none⟩ (.int .i64 p)) br (rdC (.int .i64 W) (.int .i64 H) tl (.slice ab l.length cb) p) 181 := hB1.set 4 _; have hg2 := gb_set hg1 4 (.int .i64 p); have hbW2 := hbW.keep hblk (hnoB _) hg2)
          have hI1 : RdInv br w w1 (.int .i64 W) (.int .i64 H) (.slice ab l.length cb) tl (p + 1) A := ⟨hI.kept.grown hg1, hB1, hown.kept hg1 hbr⟩
          refine wp_region_cuts [.q [_, _, _, _, _, _, _, _], .e _, .e _, .e _] [_, _, _, _] rfl (fun w'' => Blk w'' br (rdC (.int .i64 W) (.int .i64 H) tl (.slice ab l.length cb) (p + 1)) 181) (by kernel_rfl) (by kernel_rfl) (fun _ _ d _ _ h => by cases d <;> exact h) ?_
          refine cut_q hB1 ?_
          repeat (first | go_big_quiet_step ((intros; rfl)) | quiet_step ((intros; rfl)) | (refine wq_load1 (v := tl) rfl rfl (by kernel_rfl) (fun w'' hC => hC.cell 2) ?_; simp only [Act.put, List.setIfInBounds_toArray, List.set_cons_succ, List.set_cons_zero]) | (refine wq_loadB rfl rfl (by kernel_rfl) (by assumption) ?_; simp only [Act.put, List.setIfInBounds_toArray, List.set_cons_succ, List.set_cons_zero]))
          refine wpQuiet_nil ?_
          refine cut_e ?_
          have hId := hI1.below ((Below.refl _ w1).drew)
          have htc := htl w1.drew tl (p + 1) A hId (by omega)
          rw [hkA] at htc
          go_wp2
          refine htc.mono ?_
          rintro e w4 ⟨rfl, hb4⟩
          have hI4 := hId.below hb4
          have hs4 := hI4.kept.size
          go_wp2
          refine ⟨hI4.blk, ?_⟩
          refine cut_e ?_
          go_wp2_with (refine wl_buildSlice_tile rfl rfl hZl ?_)
          have hI5 := hI4.below ((Below.refl _ w4).alloc (Nat.le_refl _) (.cells (tcells (Zf A)) 109))
          refine ⟨hI5.blk, ?_⟩
          refine cut_e ?_
          go_wp2_with (at_builtin; refine wl_append w.heap.size elem_tile rfl rfl rfl hI5.own.2 (IsSl.new rfl (by decide)) (by simp [tcells_size, hZl]) (by have := one_tlc [Zf A]; simpa [tlc] using this) (by unfold maxLen; omega) (by omega) (by simp; omega) ?_; intro v' w6 hown6 hg6; obtain ⟨a6, c6, rfl, hc6, hm6⟩ := ownsRow_slice hown6)
          have hne6 : some br ≠ tl.ownBlock := own_ne hI5.own.2 hbr
          have hB6 := hI5.blk.grown hg6 hne6
          obtain ⟨y1, y2, y3⟩ := hB6.all
          refine ⟨hB6, ?_⟩
          refine cut_end ?_
          go_wp2
          go_roundw
          case rel =>
            have hl1 : (A ++ [Zf A]).length = k + 1 := by simp [hkA]
            refine ⟨A ++ [Zf A], j + 1, .slice a6 (k + 1) c6, by omega, by rw [hl1]; go_num, by omega, HX.out, ?_⟩
            rw [show at_ + (j + 1) = p + 1 from by omega]
            have HH := hI5.append hown6 hg6 hbr hZl
            rw [hkA] at HH
            exact HH
          case measure => simp only [intOf]; omega
        · have hq : ((b.toNat : Int) == 0) = false := by
            have : b.toNat ≠ 0 := fun e => hb0 (UInt8.toNat_inj.1 (by simpa using e))
            simp; omega
          cases hT : readT [] (l.drop (at_ + j)) with
          | none =>
            have hno : readTs Zf n [] (l.drop at_) = none := by rw [HR.out, hkA, hm, hX, readTs, if_neg hb0, ← hX, hT]; rfl
            have hTp := hT
            rw [hp] at hTp
            go_wp2_with (first | (go_at_call 123; refine (next_yes _ _ _ _ p br 1 l _ hblk hbW hjp (by omega) (by omega) hll).mono ?_; rw [htk]; rintro e w1 ⟨v, rfl, hv, hB1, hg1⟩; obtain ⟨av, cv1, rfl, hcv1, hcv2, _, rv⟩ := (show IsSl w1 v 1 [vb b] from hv); obtain ⟨bb, oo, rfl, cb1⟩ := rv 0 (vb b) rfl; rw [Nat.add_zero] at cb1; obtain ⟨x1, x2, x3⟩ := hB1.all; have hB2 : Blk (w1.setCell ⟨br, 4, none⟩ (.int .i64 p)) br (rdC (.int .i64 W) (.int .i64 H) tl (.slice ab l.length cb) p) 181 := hB1.set 4 _; have hg2 := gb_set hg1 4 (.int .i64 p); have hbW2 := hbW.keep hblk (hnoB _) hg2) | (go_at_call 148; refine (rdtile_any _ _ _ _ p br l _ hB2 hbW2 hjp hnoB).mono ?_; rw [hTp]; rintro e w3 ⟨rfl, hB3, hg3⟩))
            rw [hno]
            exact ⟨rfl, rfl, hI.kept.trans ((Kept.of_grown hg2 (by rintro k ⟨⟩; rfl)).trans (.of_grown hg3 (by rintro k ⟨⟩; rfl)))⟩
          | some p =>
            obtain ⟨T, kk⟩ := p
            have hT64 := readT_len _ _ _ _ hT
            by_cases hTZ : T = Zf A
            · have hno : readTs Zf n [] (l.drop at_) = none := by
                rw [HR.out, hkA, hm, hX, readTs, if_neg hb0, ← hX, hT]
                simp only [if_pos hTZ]; rfl
              have hqz : (T != Zf A) = false := by simp [hTZ]
              clear hTZ
              have hTp := hT
              rw [hp] at hTp
              go_wp2_with (first | (go_at_call 123; refine (next_yes _ _ _ _ p br 1 l _ hblk hbW hjp (by omega) (by omega) hll).mono ?_; rw [htk]; rintro e w1 ⟨v, rfl, hv, hB1, hg1⟩; obtain ⟨av, cv1, rfl, hcv1, hcv2, _, rv⟩ := (show IsSl w1 v 1 [vb b] from hv); obtain ⟨bb, oo, rfl, cb1⟩ := rv 0 (vb b) rfl; rw [Nat.add_zero] at cb1; obtain ⟨x1, x2, x3⟩ := hB1.all; have hB2 : Blk (w1.setCell ⟨br, 4, none⟩ (.int .i64 p)) br (rdC (.int .i64 W) (.int .i64 H) tl (.slice ab l.length cb) p) 181 := hB1.set 4 _; have hg2 := gb_set hg1 4 (.int .i64 p); have hbW2 := hbW.keep hblk (hnoB _) hg2) | refine wl_alloc_tile rfl ?_ | refine wl_store_tile_new rfl rfl rfl rfl (by rfl) hT64 ?_ | (go_at_call 148; refine (rdtile_any _ _ _ _ p br l _ hB2 hbW2 hjp hnoB).mono ?_; rw [hTp]; rintro e w3 ⟨rfl, hB3, hg3⟩))
              have hI3 : RdInv br w w3 (.int .i64 W) (.int .i64 H) (.slice ab l.length cb) tl (p + kk) A := ⟨(hI.kept.grown hg2).grown hg3, hB3, (hown.kept hg2 hbr).kept hg3 hbr⟩
              have hn3 := Blk.new w3 (tcells T) 109
              have hI4 := hI3.below ((Below.refl _ w3).alloc (Nat.le_refl _) (.cells (tcells T) 109))
              obtain ⟨W4, hW4⟩ : ∃ W4, w3.alloc (.cells (tcells T) 109) = W4 := ⟨_, rfl⟩
              rw [hW4] at hn3 hI4 ⊢
              clear hW4
              refine wp_region_cuts [.q [_, _, _], .e _] [_, _] rfl (fun w'' => Blk w'' w3.heap.size (tcells T) 109) (by kernel_rfl) (by kernel_rfl) (fun _ _ d _ _ h => by cases d <;> exact h) ?_
              refine cut_q hn3 ?_
              repeat (first | go_big_quiet_step ((intros; rfl)) | quiet_step ((intros; rfl)) | (refine wq_load_tile rfl rfl hT64 (fun w'' hC => Blk.tileAt hC) ?_; simp only [Act.put, List.setIfInBounds_toArray, List.set_cons_succ, List.set_cons_zero]) | (refine wq_loadB rfl rfl (by kernel_rfl) (by assumption) ?_; simp only [Act.put, List.setIfInBounds_toArray, List.set_cons_succ, List.set_cons_zero]))
              refine wpQuiet_nil ?_
              refine cut_e ?_
              have hId := hI4.below ((Below.refl _ W4).drew)
              have htc := htl W4.drew tl (p + kk) A hId (by omega)
              rw [hkA] at htc
              go_wp2
              refine htc.mono ?_
              rintro e w5 ⟨rfl, hb5⟩
              have hI5 := hId.below hb5
              have hn5 : Blk w5 w3.heap.size (tcells T) 109 := Blk.below (w := W4.drew) hn3 hb5 hn3.lt
              have hs5 := hI5.kept.size
              go_wp2
              refine ⟨hn5, ?_⟩
              refine cut_end ?_
              go_wp2_with (first | (refine wl_neq_tile rfl rfl rfl hT64 hZl ?_; rw [hqz]) | (go_at_call 124; refine (need_false _).mono ?_; rintro e w6 ⟨rfl, rfl⟩))
              rw [hno]
              exact ⟨rfl, rfl, hI5.kept⟩
            · have hqz : (T != Zf A) = true := by simpa using hTZ
              have HX : Hid (readTs Zf n [] (l.drop at_) = (readTs Zf (n - (A ++ [T]).length) (A ++ [T]) (l.drop (at_ + (j + kk)))).map (fun p => (p.1, p.2 + (j + kk)))) := by
                refine Lib.hid ?_
                rw [HR.out, hkA, hm, hX, readTs, if_neg hb0, ← hX, hT]
                simp only [if_neg hTZ, List.drop_drop]
                rw [show n - (A ++ [T]).length = m from by simp; omega, Option.map_map, Nat.add_assoc]
                congr 1; funext p; simp [Function.comp]; omega
              clear HR
              clear hTZ
              have hTp := hT
              rw [hp] at hTp
              go_wp2_with (first | (go_at_call 123; refine (next_yes _ _ _ _ p br 1 l _ hblk hbW hjp (by omega) (by omega) hll).mono ?_; rw [htk]; rintro e w1 ⟨v, rfl, hv, hB1, hg1⟩; obtain ⟨av, cv1, rfl, hcv1, hcv2, _, rv⟩ := (show IsSl w1 v 1 [vb b] from hv); obtain ⟨bb, oo, rfl, cb1⟩ := rv 0 (vb b) rfl; rw [Nat.add_zero] at cb1; obtain ⟨x1, x2, x3⟩ := hB1.all; have hB2 : Blk (w1.setCell ⟨br, 4, none⟩ (.int .i64 p)) br (rdC (.int .i64 W) (.int .i64 H) tl (.slice ab l.length cb) p) 181 := hB1.set 4 _; have hg2 := gb_set hg1 4 (.int .i64 p); have hbW2 := hbW.keep hblk (hnoB _) hg2) | refine wl_alloc_tile rfl ?_ | refine wl_store_tile_new rfl rfl rfl rfl (by rfl) hT64 ?_ | (go_at_call 148; refine (rdtile_any _ _ _ _ p br l _ hB2 hbW2 hjp hnoB).mono ?_; rw [hTp]; rintro e w3 ⟨rfl, hB3, hg3⟩))
              have hI3 : RdInv br w w3 (.int .i64 W) (.int .i64 H) (.slice ab l.length cb) tl (p + kk) A := ⟨(hI.kept.grown hg2).grown hg3, hB3, (hown.kept hg2 hbr).kept hg3 hbr⟩
              have hn3 := Blk.new w3 (tcells T) 109
              have hI4 := hI3.below ((Below.refl _ w3).alloc (Nat.le_refl _) (.cells (tcells T) 109))
              obtain ⟨W4, hW4⟩ : ∃ W4, w3.alloc (.cells (tcells T) 109) = W4 := ⟨_, rfl⟩
              rw [hW4] at hn3 hI4 ⊢
              clear hW4
              refine wp_region_cuts [.q [_, _, _], .e _] [_, _] rfl (fun w'' => Blk w'' w3.heap.size (tcells T) 109) (by kernel_rfl) (by kernel_rfl) (fun _ _ d _ _ h => by cases d <;> exact h) ?_
              refine cut_q hn3 ?_
              repeat (first | go_big_quiet_step ((intros; rfl)) | quiet_step ((intros; rfl)) | (refine wq_load_tile rfl rfl hT64 (fun w'' hC => Blk.tileAt hC) ?_; simp only [Act.put, List.setIfInBounds_toArray, List.set_cons_succ, List.set_cons_zero]) | (refine wq_loadB rfl rfl (by kernel_rfl) (by assumption) ?_; simp only [Act.put, List.setIfInBounds_toArray, List.set_cons_succ, List.set_cons_zero]))
              refine wpQuiet_nil ?_
              refine cut_e ?_
              have hId := hI4.below ((Below.refl _ W4).drew)
              have htc := htl W4.drew tl (p + kk) A hId (by omega)
              rw [hkA] at htc
              go_wp2
              refine htc.mono ?_
              rintro e w5 ⟨rfl, hb5⟩
              have hI5 := hId.below hb5
              have hn5 : Blk w5 w3.heap.size (tcells T) 109 := Blk.below (w := W4.drew) hn3 hb5 hn3.lt
              have hs5 := hI5.kept.size
              go_wp2
              refine ⟨hn5, ?_⟩
              refine cut_end ?_
              go_wp2_with (first | (refine wl_neq_tile rfl rfl rfl hT64 hZl ?_; rw [hqz]) | (go_at_call 124; refine (need_true _).mono ?_; rintro e w6 ⟨rfl, rfl⟩))
              have hB5 := hI5.blk
              refine wp_region_cuts [.q [_, _, _, _, _, _, _], .e _, .e _] [_, _, _, _] rfl (fun w'' => Blk w'' w3.heap.size (tcells T) 109 ∧ Blk w'' br (rdC (.int .i64 W) (.int .i64 H) tl (.slice ab l.length cb) (p + kk)) 181) (by kernel_rfl) (by kernel_rfl) (fun _ _ d _ _ h => by cases d <;> exact h) ?_
              refine cut_q ⟨hn5, hB5⟩ ?_
              repeat (first | go_big_quiet_step ((intros; rfl)) | quiet_step ((intros; rfl)) | (refine wq_load_tile rfl rfl hT64 (fun w'' hC => Blk.tileAt hC.1) ?_; simp only [Act.put, List.setIfInBounds_toArray, List.set_cons_succ, List.set_cons_zero]) | (refine wq_load1 (v := tl) rfl rfl (by kernel_rfl) (fun w'' hC => hC.2.cell 2) ?_; simp only [Act.put, List.setIfInBounds_toArray, List.set_cons_succ, List.set_cons_zero]) | (refine wq_loadB rfl rfl (by kernel_rfl) (by assumption) ?_; simp only [Act.put, List.setIfInBounds_toArray, List.set_cons_succ, List.set_cons_zero]))
              refine wpQuiet_nil ?_
              refine cut_e ?_
              go_wp2_with (refine wl_buildSlice_tile rfl rfl hT64 ?_)
              have hI6 := hI5.below ((Below.refl _ w5).drew.alloc (Nat.le_refl _) (.cells (tcells T) 109))
              refine ⟨⟨hn5.drew.alloc _, hI6.blk⟩, ?_⟩
              refine cut_e ?_
              go_wp2_with (at_builtin; refine wl_append w.heap.size elem_tile rfl rfl rfl hI6.own.2 (IsSl.new rfl (by decide)) (by simp [tcells_size, hT64]) (by have := one_tlc [T]; simpa [tlc] using this) (by unfold maxLen; omega) (by omega) (by simp; omega) ?_; intro v' w7 hown7 hg7; obtain ⟨a7, c7, rfl, hc7, hm7⟩ := ownsRow_slice hown7)
              have hne7 : some br ≠ tl.ownBlock := own_ne hI6.own.2 hbr
              have hB7 := hI6.blk.grown hg7 hne7
              obtain ⟨y1, y2, y3⟩ := hB7.all
              have hne8 : some w3.heap.size ≠ tl.ownBlock := fun e => by have := (hI3.own.2.lt _ e.symm).2; omega
              refine ⟨⟨(hn5.drew.alloc _).grown hg7 hne8, hB7⟩, ?_⟩
              refine cut_end ?_
              go_wp2
              go_roundw
              case rel =>
                have hl1 : (A ++ [T]).length = k + 1 := by simp [hkA]
                refine ⟨A ++ [T], j + kk, .slice a7 (k + 1) c7, by omega, by rw [hl1]; go_num, by have := readT_le _ _ _ _ hT; simp at this; omega, HX.out, ?_⟩
                rw [show at_ + (j + kk) = p + kk from by omega]
                have HH := hI6.append hown7 hg7 hbr hT64
                rw [hkA] at HH
                exact HH
              case measure => simp only [intOf]; omega
    · obtain hkn : k = n := by omega
      go_wp2
      go_end0
      have hsome : readTs Zf n [] (l.drop at_) = some (A, j) := by rw [HR.out, hkA, hkn, Nat.sub_self]; simp [readTs]
      rw [hsome]
      exact ⟨rfl, tl, hI⟩
end Go.Proofs.YtkjpcjccddggoaaGreat
