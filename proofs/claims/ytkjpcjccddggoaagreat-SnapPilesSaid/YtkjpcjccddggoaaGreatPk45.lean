/- Walks by data and names, part 45: gessoref10.tiles: tiles that are read, one behind the other. gessoref10.ReadCanvas. -/
import Derived.Test.YtkjpcjccddggoaaGreatPk40
import Derived.Test.YtkjpcjccddggoaaGreatPk44
namespace Go.Proofs.YtkjpcjccddggoaaGreat
set_option maxRecDepth 20000
open Go.RowKit
/-- the tile that a byte 0 stands for -/
def zeroOf (O : List (List Col)) (A : List (List Col)) : List Col := if 0 < O.length then oldF O A else aheadF A
theorem zeroOf_len (O A : List (List Col)) (hO : All64 O) (hA : All64 A) (hm : 0 < O.length → A.length < O.length) : (zeroOf O A).length = 64 := by
  unfold zeroOf
  split
  · rename_i h
    unfold oldF oldZ
    rw [List.getD_eq_getElem?_getD, List.getElem?_eq_getElem (hm h)]
    exact hO _ (by simp)
  · exact aheadF_len A hA
structure RtInv (w W : World) (b : Value) (l : List UInt8) (o : Value) (O : List (List Col)) (out : Value) (A : List (List Col)) : Prop where
  bel : Below w.heap.size w W
  bs : Bytes W b l
  os : Tiles W o O
  own : OwnT w.heap.size W out A
theorem RtInv.below {w W W' : World} {b : Value} {l : List UInt8} {o : Value} {O : List (List Col)} {out : Value} {A : List (List Col)} (h : RtInv w W b l o O out A) (hb : Below W.heap.size W W') : RtInv w W' b l o O out A :=
  ⟨Below.up h.bel hb, h.bs.below hb, h.os.below hb, h.own.below hb⟩
def RefTs (w w' : World) (e : Ending) : Option (List (List Col) × Nat) → Prop
  | some (A, k) => ∃ a c, e = .returned (.tuple #[.slice a A.length c, .int .i64 ((2 + k : Nat) : Int)]) ∧ OwnT w.heap.size w' (.slice a A.length c) A
  | none => e = .returned (.tuple #[.slice none 0 0, .int .i64 0])
set_option maxRecDepth 100000 in
set_option maxHeartbeats 2000000 in
theorem reftiles_any (many : Nat) (b o : Value) (l : List UInt8) (O : List (List Col)) (w : World) (hb : Bytes w b l) (ho : Tiles w o O) (hl : l.length ≤ 100000) (h2 : 2 ≤ l.length) (hm : many ≤ 1000) (hO : 0 < O.length → many ≤ O.length) :
    Calls Tryz.prog 127 #[b, .int .i64 many, o] w fun e w' => Below w.heap.size w w' ∧ RefTs w w' e (readTs (zeroOf O) many [] (l.drop 2)) := by
  have hb' := hb
  obtain ⟨ab, cb, rfl, hcb, hmb, hnb, rb⟩ := hb'
  obtain ⟨ao, co, rfl, hco, hmo⟩ := ho.slice
  unfold maxLen at hmb hmo
  go_enter Tryz.func127, Tryz.ntmps127
  go_wp2
  go_loopw [8, 9, 15] (fun out at_ i wr => ∃ (k p : Nat) (A : List (List Col)), k ≤ many ∧ i = .int .i64 k ∧ A.length = k ∧ at_ = .int .i64 p ∧ 2 ≤ p ∧ p ≤ l.length ∧
      readTs (zeroOf O) many [] (l.drop 2) = (readTs (zeroOf O) (many - k) A (l.drop p)).map (fun q => (q.1, q.2 + (p - 2))) ∧ RtInv w wr (.slice ab l.length cb) l (.slice ao O.length co) O out A)
    (fun _ _ i _ => many - (intOf i).toNat)
  case atStart => exact ⟨0, 2, [], by omega, rfl, rfl, rfl, by omega, h2, by simp, Below.refl _ _, hb, ho, ⟨by simp [All64], World.ownsRow_nil _ _ _ _⟩⟩
  case round =>
    obtain ⟨k, p, A, hk, rfl, hA, rfl, hp2, hpl, hX, hI⟩ := hrel
    obtain ⟨aA, cA, rfl, hcA, hmA⟩ := ownsRow_slice hI.own.2
    rw [hA] at hI hcA ⊢
    have HX := Lib.hid hX
    have HA := Lib.hid hA
    clear hX hA
    by_cases hlt : k < many
    · have hZ64 := zeroOf_len O A ho.1 hI.own.1 (fun h => by have := hO h; have := HA.out; omega)
      obtain ⟨Z, eZ⟩ : ∃ Z, zeroOf O A = Z := ⟨_, rfl⟩
      rw [eZ] at hZ64
      have HZ := Lib.hid eZ
      clear eZ
      have bN := Blk.new wr (tcells noTile) 109
      go_upto_if 21 with (first | refine wl_build_tile rfl ?_ | refine wl_alloc_tile rfl ?_ | refine wl_store_tile_new rfl rfl rfl rfl (by rfl) noTile_len ?_)
      go_cut [11] (fun s11 wx => s11 = .pointer (some ⟨wr.heap.size, 0, none⟩) ∧ Blk wx wr.heap.size (tcells Z) 109 ∧ Below wr.heap.size wr wx)
      case first =>
        by_cases hO0 : 0 < O.length
        · have hkO : k < O.length := by have := hO hO0; omega
          have hO0' : (0 : Int) < (O.length : Int) := by omega
          obtain ⟨b2, o2, rfl, hT, hb2⟩ := hI.os.get k hkO
          have hT' := hT.below (Below.new wr (.cells (tcells noTile) 109)) hb2
          have hOZ : O[k] = Z := by
            rw [← HZ.out]; unfold zeroOf oldF oldZ
            rw [if_pos hO0, HA.out, List.getD_eq_getElem?_getD, List.getElem?_eq_getElem hkO]; rfl
          rw [hOZ] at hT'
          clear hOZ hT
          go_wp2_with (first | refine wl_load_tile rfl rfl hZ64 hT' ?_ | refine wl_store_tile rfl rfl rfl bN (by rfl) hZ64 ?_)
          go_meet
          case rel => exact ⟨rfl, Blk.setRow bN, Below.setRow (Below.new wr _) (Nat.le_refl _) _⟩
        · by_cases hk0 : k = 0
          · subst hk0
            have hNZ : noTile = Z := by
              have hA0 : A = [] := List.eq_nil_of_length_eq_zero HA.out
              rw [← HZ.out, hA0]; unfold zeroOf; rw [if_neg hO0]; rfl
            rw [hNZ] at bN ⊢
            clear hNZ
            go_wp2
            go_meet
            case rel => exact ⟨rfl, bN, Below.new wr _⟩
          · obtain ⟨k', rfl⟩ : ∃ k', k = k' + 1 := ⟨k - 1, by omega⟩
            have hkA : k' < A.length := by have := HA.out; omega
            have hlenA : A.length = k' + 1 := HA.out
            obtain ⟨b2, o2, rfl, hT, hb2⟩ := (show Tiles wr (.slice aA (k' + 1) cA) A from hI.own.tiles).get k' hkA
            have hT' := hT.below (Below.new wr (.cells (tcells noTile) 109)) hb2
            have hOZ : A[k'] = Z := by
              rw [← HZ.out]; unfold zeroOf aheadF aheadZ
              rw [if_neg hO0, if_neg (by omega), hlenA, Nat.add_sub_cancel, List.getD_eq_getElem?_getD, List.getElem?_eq_getElem hkA]; rfl
            rw [hOZ] at hT'
            have hw1 : IntKind.i64.wrap (((k' + 1 : Nat) : Int) - 1) = (k' : Int) := wr64 _ _ (by omega) (by omega)
            have hw2 : IntKind.i64.wrap ((k' : Int) + 1 - 1) = (k' : Int) := wr64 _ _ (by omega) (by omega)
            clear hOZ hT hlenA
            go_wp2_with (first | refine wl_load_tile rfl rfl hZ64 hT' ?_ | refine wl_store_tile rfl rfl rfl bN (by rfl) hZ64 ?_)
            go_meet
            case rel => exact ⟨rfl, Blk.setRow bN, Below.setRow (Below.new wr _) (Nat.le_refl _) _⟩
      case rest =>
        obtain ⟨rfl, bZ, hBc⟩ := hcut
        have hI2 := hI.below hBc
        obtain ⟨pZ, hpZ⟩ : ∃ p, wr.heap.size = p := ⟨_, rfl⟩
        have hpw : w.heap.size ≤ pZ := by rw [← hpZ]; exact hI.bel.size
        rw [hpZ] at bZ ⊢
        clear bN hpZ hI hBc hcA
        obtain ⟨X, eX⟩ : ∃ X, l.drop p = X := ⟨_, rfl⟩
        have hXl : X.length = l.length - p := by rw [← eX]; simp
        have HX2 : Hid (readTs (zeroOf O) many [] (l.drop 2) = (readTs (zeroOf O) (many - k) A X).map (fun q => (q.1, q.2 + (p - 2)))) := by rw [← eX]; exact HX
        have HEX := Lib.hid eX
        obtain ⟨m, hm1⟩ : ∃ m, many - k = m + 1 := ⟨many - k - 1, by omega⟩
        have HM1 := Lib.hid hm1
        clear HX eX hm1
        have hal : A.length = k := HA.out
        have hk1000 : k ≤ 1000 := by omega
        have hbs := hI2.bs
        have hpl' : ¬ (l.length : Int) < (p : Int) := by omega
        have hl1 : ∀ T : List Col, (A ++ [T]).length = k + 1 := fun T => by simp [hal]
        have HL1 := Lib.hid hl1
        clear hal hl1
        cases X with
        | nil =>
          have hjl : p = l.length := by simp at hXl; omega
          have HNO : Hid (readTs (zeroOf O) many [] (l.drop 2) = none) := by refine Lib.hid ?_; rw [HX2.out, HM1.out]; rfl
          have hq1 : ¬ (p : Int) < (l.length : Int) := by omega
          clear hjl hXl
          go_wp2_with (refine wl_slice_l p rfl rfl rfl hbs hpl ?_; intro a' c' hb')
          rw [HEX.out] at hb'
          refine (refread_any _ _ _ hb').mono ?_
          rintro e W5 ⟨hB5, he⟩
          change e = .returned (.tuple #[tileV noTile, .int .i64 0]) at he
          subst he
          go_wp2_with (first | refine wl_alloc_tile rfl ?_ | refine wl_store_tile_new rfl rfl rfl rfl (by rfl) noTile_len ?_)
          refine bodyPost_ret (results_tmp2 rfl _ _ _) rfl ?_
          rw [HNO.out]
          exact ⟨(hI2.below (Below.upA hB5 _)).bel, rfl⟩
        | cons b rest =>
          have hlt2 : p < l.length := by simp at hXl; omega
          have hq1 : (p : Int) < (l.length : Int) := by omega
          obtain ⟨bb, oo, rfl, cbb⟩ := hbs.get p hlt2
          have hlp : l[p] = b := by
            have := congrArg (fun L => L[0]?) HEX.out
            simp [hlt2] at this
            exact this
          rw [hlp] at cbb
          have hrest : l.drop (p + 1) = rest := by
            have := congrArg (List.drop 1) HEX.out
            rw [List.drop_drop] at this
            simpa using this
          have HR := Lib.hid hrest
          clear hlp hrest hXl
          by_cases hb0 : b = 0
          · have hq : ((b.toNat : Int) == 0) = true := by simp [hb0]
            have HX3 : Hid (readTs (zeroOf O) many [] (l.drop 2) = (readTs (zeroOf O) (many - (k + 1)) (A ++ [Z]) (l.drop (p + 1))).map (fun q => (q.1, q.2 + (p + 1 - 2)))) := by
              refine Lib.hid ?_
              rw [HX2.out, HM1.out, readTs, if_pos hb0, HZ.out, HR.out, show many - (k + 1) = m from by have := HM1.out; omega, Option.map_map]
              congr 1; funext q; simp [Function.comp]; omega
            clear HX2 hb0
            have hI3 := hI2.below (Below.new wc (.cells (tcells Z) 109))
            go_wp2_with (first | refine wl_load_tile rfl rfl hZ64 bZ.tileAt ?_ | refine wl_buildSlice_tile rfl rfl hZ64 ?_ | (at_builtin; refine wl_append w.heap.size elem_tile rfl rfl rfl hI3.own.2 (IsSl.new rfl (by decide)) (by simp [tcells_size, hZ64]) (by have := one_tlc [Z]; simpa [tlc] using this) (by unfold maxLen; have := HA.out; omega) (by have := HA.out; omega) (by have := hI3.bel.size; simp at this ⊢; omega) ?_; intro v' w6 hown6 hg6))
            have hown7 : OwnT w.heap.size w6 v' (A ++ [Z]) := ⟨by intro T hT; rcases List.mem_append.1 hT with h | h; exact hI3.own.1 T h; rw [List.mem_singleton.1 h]; exact hZ64, by
              rw [HL1.out Z]
              have := hown6
              rw [HA.out] at this
              simpa [tlc] using this⟩
            have hb6 := below_append hI3.bel (Nat.le_refl _) hI3.bel.size hI3.own.2 hg6
            have hb6' := below_append (Below.refl w.heap.size _) (Nat.le_refl _) hI3.bel.size hI3.own.2 hg6
            go_roundw
            case rel => exact ⟨k + 1, p + 1, A ++ [Z], by omega, by go_num, HL1.out Z, by go_num, by omega, by omega, HX3.out, hb6, hb.below hb6, ho.below hb6, hown7⟩
            case measure => simp only [intOf]; omega
          · have hq : ((b.toNat : Int) == 0) = false := by
              rw [beq_eq_false_iff_ne]
              intro h
              exact hb0 (UInt8.toNat_inj.1 (by simpa using h))
            cases hT : readTile (b :: rest) with
            | none =>
              have HNO : Hid (readTs (zeroOf O) many [] (l.drop 2) = none) := by
                refine Lib.hid ?_
                rw [HX2.out, HM1.out, readTs, if_neg hb0, show readT [] (b :: rest) = none from hT]; rfl
              have HT := Lib.hid hT
              clear hT hb0
              go_wp2_with (refine wl_slice_l p rfl rfl rfl hbs hpl ?_; intro a' c' hb')
              rw [HEX.out] at hb'
              refine (refread_any _ _ _ hb').mono ?_
              rintro e W5 ⟨hB5, he⟩
              rw [HT.out] at he
              change e = .returned (.tuple #[tileV noTile, .int .i64 0]) at he
              subst he
              go_wp2_with (first | refine wl_alloc_tile rfl ?_ | refine wl_store_tile_new rfl rfl rfl rfl (by rfl) noTile_len ?_)
              refine bodyPost_ret (results_tmp2 rfl _ _ _) rfl ?_
              rw [HNO.out]
              exact ⟨(hI2.below (Below.upA hB5 _)).bel, rfl⟩
            | some q =>
              obtain ⟨T, n⟩ := q
              have hT64 := readT_len _ _ _ _ hT
              have hn0 := readT_pos _ _ _ hT
              have hnl := readT_le _ _ _ _ hT
              rw [← HEX.out, List.length_drop] at hnl
              have hn0' : ((n : Int) == 0) = false := by rw [beq_eq_false_iff_ne]; omega
              have HT := Lib.hid hT
              by_cases hTZ : T = Z
              · have HNO : Hid (readTs (zeroOf O) many [] (l.drop 2) = none) := by
                  refine Lib.hid ?_
                  rw [HX2.out, HM1.out, readTs, if_neg hb0, show readT [] (b :: rest) = _ from hT]
                  simp only [HZ.out, if_pos hTZ]; rfl
                have hqe : (T == Z) = true := by simpa using hTZ
                clear hT hb0 hTZ
                go_wp2_with (refine wl_slice_l p rfl rfl rfl hbs hpl ?_; intro a' c' hb')
                rw [HEX.out] at hb'
                refine (refread_any _ _ _ hb').mono ?_
                rintro e W5 ⟨hB5, he⟩
                rw [HT.out] at he
                change e = .returned (.tuple #[tileV T, .int .i64 n]) at he
                subst he
                have bT5 := Blk.new W5 (tcells T) 109
                have bZ5 := (Blk.up bZ hB5).alloc (.cells (tcells T) 109)
                go_wp2_with (first | refine wl_alloc_tile rfl ?_ | refine wl_store_tile_new rfl rfl rfl rfl (by rfl) hT64 ?_ | refine wl_load_tile rfl rfl hT64 bT5.tileAt ?_ | refine wl_load_tile rfl rfl hZ64 bZ5.tileAt ?_ | (refine wl_eql_tile rfl rfl rfl hT64 hZ64 ?_; rw [hqe]))
                refine bodyPost_ret (results_tmp2 rfl _ _ _) rfl ?_
                rw [HNO.out]
                exact ⟨(hI2.below (Below.upA hB5 _)).bel, rfl⟩
              · have HX3 : Hid (readTs (zeroOf O) many [] (l.drop 2) = (readTs (zeroOf O) (many - (k + 1)) (A ++ [T]) (l.drop (p + n))).map (fun q => (q.1, q.2 + (p + n - 2)))) := by
                  refine Lib.hid ?_
                  rw [HX2.out, HM1.out, readTs, if_neg hb0, show readT [] (b :: rest) = _ from hT]
                  simp only [HZ.out, if_neg hTZ]
                  rw [← HEX.out, List.drop_drop, show many - (k + 1) = m from by have := HM1.out; omega, Option.map_map]
                  congr 1; funext q; simp [Function.comp]; omega
                have hqe : (T == Z) = false := by simpa using hTZ
                clear hT hb0 hTZ HX2
                go_wp2_with (refine wl_slice_l p rfl rfl rfl hbs hpl ?_; intro a' c' hb')
                rw [HEX.out] at hb'
                refine (refread_any _ _ _ hb').mono ?_
                rintro e W5 ⟨hB5, he⟩
                rw [HT.out] at he
                change e = .returned (.tuple #[tileV T, .int .i64 n]) at he
                subst he
                have bT5 := Blk.new W5 (tcells T) 109
                have bZ5 := (Blk.up bZ hB5).alloc (.cells (tcells T) 109)
                have hI3 := hI2.below (Below.upA (Below.upA hB5 (.cells (tcells T) 109)) (.cells (tcells T) 109))
                go_wp2_with (first | refine wl_alloc_tile rfl ?_ | refine wl_store_tile_new rfl rfl rfl rfl (by rfl) hT64 ?_ | refine wl_load_tile rfl rfl hT64 bT5.tileAt ?_ | refine wl_load_tile rfl rfl hZ64 bZ5.tileAt ?_ | (refine wl_eql_tile rfl rfl rfl hT64 hZ64 ?_; rw [hqe]) | refine wl_buildSlice_tile rfl rfl hT64 ?_ | (at_builtin; refine wl_append w.heap.size elem_tile rfl rfl rfl hI3.own.2 (IsSl.new rfl (by decide)) (by simp [tcells_size, hT64]) (by have := one_tlc [T]; simpa [tlc] using this) (by unfold maxLen; have := HA.out; omega) (by have := HA.out; omega) (by have := hI3.bel.size; simp at this ⊢; omega) ?_; intro v' w6 hown6 hg6))
                have hown7 : OwnT w.heap.size w6 v' (A ++ [T]) := ⟨by intro U hU; rcases List.mem_append.1 hU with h | h; exact hI3.own.1 U h; rw [List.mem_singleton.1 h]; exact hT64, by
                  rw [HL1.out T]
                  have := hown6
                  rw [HA.out] at this
                  simpa [tlc] using this⟩
                have hb6 := below_append hI3.bel (Nat.le_refl _) hI3.bel.size hI3.own.2 hg6
                go_roundw
                case rel => exact ⟨k + 1, p + n, A ++ [T], by omega, by go_num, HL1.out T, by go_num, by omega, by omega, HX3.out, hb6, hb.below hb6, ho.below hb6, hown7⟩
                case measure => simp only [intOf]; omega
    · obtain rfl : k = many := by omega
      go_wp2
      refine bodyPost_ret (results_tmp2 rfl _ _ _) rfl ?_
      have e : readTs (zeroOf O) k [] (l.drop 2) = some (A, p - 2) := by rw [HX.out, Nat.sub_self]; simp [readTs]
      rw [e]
      refine ⟨hI.bel, aA, cA, ?_, ?_⟩
      · rw [show 2 + (p - 2) = p from by omega, HA.out]; rfl
      · rw [HA.out]; exact hI.own
end Go.Proofs.YtkjpcjccddggoaaGreat

namespace Go.Proofs.YtkjpcjccddggoaaGreat
set_option maxRecDepth 20000
open Go.RowKit
theorem results_can2 {fn : Func} {p u : Tmp} (h : fn.results = #[.cell p 50, .tmp u]) (tmps : Array Value) (w : World) (b : Nat) (t : TypeId) (x y s : Value) (hp : tmps.getD p undef = .pointer (some ⟨b, 0, none⟩)) (hb : Blk w b #[x, y, s] t) :
    (results fn tmps).run Tryz.prog w = .ok (.tuple #[.agg #[x, y, s], tmps.getD u undef]) w := by
  have hp' : tmps[p]?.getD undef = .pointer (some ⟨b, 0, none⟩) := by simpa using hp
  have hl := run_loadVar_row (P := Tryz.prog) w b t 50 #[x, y, s] (0, 0) _ hb Tryz.underlying50 rfl can_hi
  simp [results, h, hp', asAddr, hl]
def RefCan (w w' : World) (e : Ending) : Option (Nat × Nat × List (List Col) × Nat) → Prop
  | some (x, y, A, k) => ∃ a c, e = .returned (.tuple #[canV x y (.slice a A.length c), .int .i64 k]) ∧ OwnT w.heap.size w' (.slice a A.length c) A
  | none => e = .returned (.tuple #[canV 0 0 (.slice none 0 0), .int .i64 0])
theorem zeroOf_nil : zeroOf [] = aheadF := by
  funext A
  unfold zeroOf
  rw [if_neg (by simp)]
set_option maxRecDepth 100000 in
set_option maxHeartbeats 2000000 in
theorem refreadcan_any (b : Value) (l : List UInt8) (w : World) (hb : Bytes w b l) (hl : l.length ≤ 100000) :
    Calls Tryz.prog 82 #[b] w fun e w' => Below w.heap.size w w' ∧ RefCan w w' e (readCan l) := by
  have hb' := hb
  obtain ⟨ab, cb, rfl, hcb, hmb, hnb, rb⟩ := hb'
  unfold maxLen at hmb
  have k0 := Blk.new w #[.int .i64 0, .int .i64 0, .slice none 0 0] 50
  have hB1 := Below.new w (.cells #[.int .i64 0, .int .i64 0, .slice none 0 0] 50)
  have hb1 := hb.below hB1
  obtain ⟨W1, hW1⟩ : ∃ W1, w.alloc (.cells #[.int .i64 0, .int .i64 0, .slice none 0 0] 50) = W1 := ⟨_, rfl⟩
  match l, hb, hl, hcb, hb1 with
  | [], _, _, _, _ =>
    rw [hW1] at k0 hB1
    obtain ⟨q1, q2, q3⟩ := k0.all
    go_enter Tryz.func82, Tryz.ntmps82
    go_wp2
    clear hW1
    refine wp_region_cuts [.q [_, _, _, _, _, _, _, _, _, _, _, _]] [_, _, _] rfl (fun w'' => Below W1.heap.size W1 w'') (by kernel_rfl) (by kernel_rfl) (fun _ _ d _ _ h => by cases d <;> exact h) ?_
    refine cut_q (Below.refl _ W1).drew ?_
    repeat (first | go_big_quiet_step ((intros; rfl)) | quiet_step ((intros; rfl)) | fail | (refine wq_loadB rfl rfl (by kernel_rfl) (by assumption) ?_; simp only [Act.put, List.setIfInBounds_toArray, List.set_cons_succ, List.set_cons_zero]))
    refine wpQuiet_nil ?_
    refine cut_end ?_
    go_wp2
    have k1 := (((Blk.drew k0).set 0 (.int .i64 0)).set 1 (.int .i64 0)).set 2 (.slice none 0 0)
    refine bodyPost_ret (results_can2 (p := 2) (u := 3) (by kernel_rfl) _ _ w.heap.size 50 (.int .i64 0) (.int .i64 0) (.slice none 0 0) rfl k1) rfl ?_
    have hB2 := Below.drew hB1
    refine ⟨?_, rfl⟩
    repeat (first | assumption | exact Below.refl _ _ | refine below_dN ?_ _ | refine Below.alloc ?_ (by first | exact Nat.le_refl _ | omega | (simp; fail_if_success (focus skip)) | (simp; omega)) _ | refine Below.setCell ?_ (by first | exact Nat.le_refl _ | omega | (simp; fail_if_success (focus skip)) | (simp; omega)) _ | refine Below.drew ?_ | refine Below.trans ?_ (Below.mono (by assumption) (by first | exact Nat.le_refl _ | omega | (simp; fail_if_success (focus skip)) | (simp; omega))))
  | [x], _, _, _, _ =>
    rw [hW1] at k0 hB1
    obtain ⟨q1, q2, q3⟩ := k0.all
    go_enter Tryz.func82, Tryz.ntmps82
    go_wp2
    clear hW1
    refine wp_region_cuts [.q [_, _, _, _, _, _, _, _, _, _, _, _]] [_, _, _] rfl (fun w'' => Below W1.heap.size W1 w'') (by kernel_rfl) (by kernel_rfl) (fun _ _ d _ _ h => by cases d <;> exact h) ?_
    refine cut_q (Below.refl _ W1).drew ?_
    repeat (first | go_big_quiet_step ((intros; rfl)) | quiet_step ((intros; rfl)) | fail | (refine wq_loadB rfl rfl (by kernel_rfl) (by assumption) ?_; simp only [Act.put, List.setIfInBounds_toArray, List.set_cons_succ, List.set_cons_zero]))
    refine wpQuiet_nil ?_
    refine cut_end ?_
    go_wp2
    have k1 := (((Blk.drew k0).set 0 (.int .i64 0)).set 1 (.int .i64 0)).set 2 (.slice none 0 0)
    refine bodyPost_ret (results_can2 (p := 2) (u := 3) (by kernel_rfl) _ _ w.heap.size 50 (.int .i64 0) (.int .i64 0) (.slice none 0 0) rfl k1) rfl ?_
    have hB2 := Below.drew hB1
    refine ⟨?_, rfl⟩
    repeat (first | assumption | exact Below.refl _ _ | refine below_dN ?_ _ | refine Below.alloc ?_ (by first | exact Nat.le_refl _ | omega | (simp; fail_if_success (focus skip)) | (simp; omega)) _ | refine Below.setCell ?_ (by first | exact Nat.le_refl _ | omega | (simp; fail_if_success (focus skip)) | (simp; omega)) _ | refine Below.drew ?_ | refine Below.trans ?_ (Below.mono (by assumption) (by first | exact Nat.le_refl _ | omega | (simp; fail_if_success (focus skip)) | (simp; omega))))
  | x :: y :: rest, hb, hl, hcb, hb1 =>
    obtain ⟨bb, oo, rfl, c0⟩ := hb1.get 0 (by simp)
    obtain ⟨_, _, e1, c1⟩ := hb1.get 1 (by simp)
    cases e1
    simp only [List.getElem_cons_zero, List.getElem_cons_succ, Nat.add_zero] at c0 c1
    have hbb : bb < w.heap.size := by
      obtain ⟨_, _, e2, cw⟩ := hb.get 0 (by simp)
      cases e2
      exact World.block_lt_of_cell? w _ cw
    have hx256 : x.toNat < 256 := x.toNat_lt
    have hy256 : y.toNat < 256 := y.toNat_lt
    have hq2 : decide (((x :: y :: rest).length : Int) < 2) = false := by simp; omega
    have hl1 : (1 : Int) < ((x :: y :: rest).length : Int) := by simp; omega
    have hl0 : (0 : Int) < ((x :: y :: rest).length : Int) := by simp; omega
    obtain ⟨B, eB⟩ : ∃ B, x :: y :: rest = B := ⟨_, rfl⟩
    have HB := Lib.hid eB
    rw [eB] at hb hl hcb hb1 hq2 hl1 hl0 ⊢
    clear eB
    rw [hW1] at k0 hB1 hb1 c0 c1
    obtain ⟨q1, q2, q3⟩ := k0.all
    by_cases hok : 1 ≤ (x.toNat : Int) ∧ (x.toNat : Int) ≤ 4 ∧ 1 ≤ (y.toNat : Int) ∧ (y.toNat : Int) ≤ 4
    · have hsz : ∀ W, Calls Tryz.prog 96 #[.int .i64 x.toNat, .int .i64 y.toNat] W fun e w' => e = .returned (.bool true) ∧ W = w' := fun W => by
        have := sizes_any x.toNat y.toNat W
        rwa [show decide (1 ≤ (x.toNat : Int) ∧ (x.toNat : Int) ≤ 4 ∧ 1 ≤ (y.toNat : Int) ∧ (y.toNat : Int) ≤ 4) = true from by simpa using hok] at this
      have hrc : readCan B = (readTs aheadF (x.toNat * y.toNat) [] (B.drop 2)).map fun p => (x.toNat, y.toNat, p.1, p.2 + 2) := by
        rw [← HB.out, readCan_cons, if_pos (by omega)]; rfl
      have hxy := Nat.mul_le_mul (show x.toNat ≤ 4 by omega) (show y.toNat ≤ 4 by omega)
      obtain ⟨m, hm⟩ : ∃ m, x.toNat * y.toNat = m := ⟨_, rfl⟩
      have hmul : (x.toNat : Int) * (y.toNat : Int) = (m : Int) := by rw [← hm, Int.natCast_mul]
      rw [hm] at hrc hxy
      have hwm : IntKind.i64.wrap (m : Int) = (m : Int) := wr64 _ _ rfl (by omega)
      clear hm
      have hB2l : 2 ≤ B.length := by omega
      have HS := Lib.hid hsz
      have HRC := Lib.hid hrc
      clear hok hsz hrc
      go_enter Tryz.func82, Tryz.ntmps82
      go_wp2
      clear hW1
      refine wp_region_cuts [.q [_, _, _, _, _, _, _, _, _, _, _, _]] [_, _, _] rfl (fun w'' => Below W1.heap.size W1 w'') (by kernel_rfl) (by kernel_rfl) (fun _ _ d _ _ h => by cases d <;> exact h) ?_
      refine cut_q (Below.refl _ W1).drew ?_
      repeat (first | go_big_quiet_step ((intros; rfl)) | quiet_step ((intros; rfl)) | fail | (refine wq_loadB rfl rfl (by kernel_rfl) (by assumption) ?_; simp only [Act.put, List.setIfInBounds_toArray, List.set_cons_succ, List.set_cons_zero]))
      refine wpQuiet_nil ?_
      refine cut_end ?_
      go_wp2_with fail
      refine (HS.out _).mono ?_
      rintro e W2 ⟨rfl, rfl⟩
      go_upto_region 3 with fail
      clear q1 q2 q3
      refine gen_code (fun W => Below w.heap.size w W ∧ Blk W w.heap.size #[.int .i64 0, .int .i64 0, .slice none 0 0] 50 ∧ Bytes W (.slice (some ⟨bb, oo, none⟩) B.length cb) B ∧ W.cell? ⟨bb, oo, none⟩ = some (vb x) ∧ W.cell? ⟨bb, oo + 1, none⟩ = some (vb y)) ⟨Below.drew hB1, k0, hb1.below (Below.refl W1.heap.size W1).drew, c0, c1⟩ ?_
      clear hB1 k0 hb1 c0 c1
      rintro W3 ⟨hB3, k3, hb3, c0, c1⟩
      refine wp_region_cuts [.q [_, _, _, _, _, _, _, _, _, _], .e _, .q [_, _, _, _]] [_] rfl (fun w'' => Below W3.heap.size W3 w'') (by kernel_rfl) (by kernel_rfl) (fun _ _ d _ _ h => by cases d <;> exact h) ?_
      refine cut_q (Below.refl _ W3).drew ?_
      repeat (first | go_big_quiet_step ((intros; rfl)) | quiet_step ((intros; rfl)) | fail | (refine wq_loadB rfl rfl (by kernel_rfl) (by assumption) ?_; simp only [Act.put, List.setIfInBounds_toArray, List.set_cons_succ, List.set_cons_zero]))
      refine wpQuiet_nil ?_
      refine cut_e ?_
      go_wp2_with fail
      have hB3d : Below W3.heap.size W3 W3.drew := (Below.refl _ W3).drew
      refine (reftiles_any m _ _ B [] _ (hb3.below hB3d) (Tiles.nil _) hl hB2l (by omega) (by simp)).mono ?_
      rintro e W4 ⟨hB4, he⟩
      rw [zeroOf_nil] at he
      have hB34 := Below.up hB3d hB4
      have k4 := Blk.up k3 hB34
      have hB4w := Below.up hB3 hB34
      have k3s : w.heap.size + 1 ≤ W3.drew.heap.size := k3.lt
      have c0' := below_cell hB34 c0
      have c1' := below_cell hB34 c1
      clear hB3d hB3 k3 hb3 c0 c1 hB4
      cases hr : readTs aheadF m [] (B.drop 2) with
      | none =>
        rw [hr] at he
        change e = .returned (.tuple #[.slice none 0 0, .int .i64 0]) at he
        subst he
        have HRN : Hid (readCan B = none) := by refine Lib.hid ?_; rw [HRC.out, hr]; rfl
        clear hr
        go_wp2
        refine ⟨hB34, ?_⟩
        refine cut_q hB34 ?_
        repeat (first | go_big_quiet_step ((intros; rfl)) | quiet_step ((intros; rfl)) | fail | (refine wq_loadB rfl rfl (by kernel_rfl) (by assumption) ?_; simp only [Act.put, List.setIfInBounds_toArray, List.set_cons_succ, List.set_cons_zero]))
        refine wpQuiet_nil ?_
        refine cut_end ?_
        obtain ⟨q1, q2, q3⟩ := k4.all
        go_wp2
        have k5 := ((k4.set 0 (.int .i64 0)).set 1 (.int .i64 0)).set 2 (.slice none 0 0)
        refine bodyPost_ret (results_can2 (p := 2) (u := 3) (by kernel_rfl) _ _ w.heap.size 50 (.int .i64 0) (.int .i64 0) (.slice none 0 0) rfl k5) rfl ?_
        rw [HRN.out]
        refine ⟨?_, rfl⟩
        repeat (first | assumption | exact Below.refl _ _ | refine below_dN ?_ _ | refine Below.alloc ?_ (by first | exact Nat.le_refl _ | omega | (simp; fail_if_success (focus skip)) | (simp; omega)) _ | refine Below.setCell ?_ (by first | exact Nat.le_refl _ | omega | (simp; fail_if_success (focus skip)) | (simp; omega)) _ | refine Below.drew ?_ | refine Below.trans ?_ (Below.mono (by assumption) (by first | exact Nat.le_refl _ | omega | (simp; fail_if_success (focus skip)) | (simp; omega))))
      | some q =>
        obtain ⟨A, k⟩ := q
        rw [hr] at he
        obtain ⟨a4, c4, rfl, ho4⟩ := he
        have HRN : Hid (readCan B = some (x.toNat, y.toNat, A, 2 + k)) := by refine Lib.hid ?_; rw [HRC.out, hr]; simp; omega
        clear hr
        have hk0 : (((2 + k : Nat) : Int) == 0) = false := by rw [beq_eq_false_iff_ne]; omega
        obtain ⟨n, hn⟩ : ∃ n, 2 + k = n := ⟨_, rfl⟩
        rw [hn] at HRN hk0 ⊢
        clear hn
        go_wp2
        refine ⟨hB34, ?_⟩
        refine cut_q hB34 ?_
        repeat (first | go_big_quiet_step ((intros; rfl)) | quiet_step ((intros; rfl)) | fail | (refine wq_loadB rfl rfl (by kernel_rfl) (by assumption) ?_; simp only [Act.put, List.setIfInBounds_toArray, List.set_cons_succ, List.set_cons_zero]))
        refine wpQuiet_nil ?_
        refine cut_end ?_
        go_upto_region 6 with fail
        refine wp_region_cuts [.q [_, _, _, _, _, _, _, _, _, _, _], .e _] [_] rfl (fun w'' => w''.cell? ⟨bb, oo, none⟩ = some (vb x) ∧ w''.cell? ⟨bb, oo + 1, none⟩ = some (vb y)) (by kernel_rfl) (by kernel_rfl) (fun _ _ d _ _ h => by cases d <;> exact h) ?_
        refine cut_q ⟨c0', c1'⟩ ?_
        repeat (first | go_big_quiet_step ((intros; rfl)) | quiet_step ((intros; rfl)) | (refine wq_load1 (v := vb x) rfl rfl (by kernel_rfl) (fun w'' hC => hC.1) ?_; simp only [Act.put, List.setIfInBounds_toArray, List.set_cons_succ, List.set_cons_zero]) | (refine wq_load1 (v := vb y) rfl rfl (by kernel_rfl) (fun w'' hC => hC.2) ?_; simp only [Act.put, List.setIfInBounds_toArray, List.set_cons_succ, List.set_cons_zero]) | (refine wq_loadB rfl rfl (by kernel_rfl) (by assumption) ?_; simp only [Act.put, List.setIfInBounds_toArray, List.set_cons_succ, List.set_cons_zero]))
        refine wpQuiet_nil ?_
        obtain ⟨q1, q2, q3⟩ := k4.all
        refine cut_e ?_
        go_wp2
        have hne : ∀ j : Nat, (⟨bb, oo, none⟩ : Addr) ≠ ⟨w.heap.size, j, none⟩ := fun j h => by injection h with h1; omega
        have hne2 : ∀ j : Nat, (⟨bb, oo + 1, none⟩ : Addr) ≠ ⟨w.heap.size, j, none⟩ := fun j h => by injection h with h1; omega
        refine ⟨⟨?_, ?_⟩, ?_⟩
        · exact (World.cell?_setCell_other _ _ _ _ (hne 2).symm).trans ((World.cell?_setCell_other _ _ _ _ (hne 1).symm).trans ((World.cell?_setCell_other _ _ _ _ (hne 0).symm).trans c0'))
        · exact (World.cell?_setCell_other _ _ _ _ (hne2 2).symm).trans ((World.cell?_setCell_other _ _ _ _ (hne2 1).symm).trans ((World.cell?_setCell_other _ _ _ _ (hne2 0).symm).trans c1'))
        refine cut_end ?_
        go_wp2
        have k5 := ((k4.set 0 (.int .i64 x.toNat)).set 1 (.int .i64 y.toNat)).set 2 (.slice a4 A.length c4)
        refine bodyPost_ret (results_can2 (p := 2) (u := 3) (by kernel_rfl) _ _ w.heap.size 50 (.int .i64 x.toNat) (.int .i64 y.toNat) (.slice a4 A.length c4) rfl k5) rfl ?_
        rw [HRN.out]
        refine ⟨by repeat (first | assumption | exact Below.refl _ _ | refine below_dN ?_ _ | refine Below.alloc ?_ (by first | exact Nat.le_refl _ | omega | (simp; fail_if_success (focus skip)) | (simp; omega)) _ | refine Below.setCell ?_ (by first | exact Nat.le_refl _ | omega | (simp; fail_if_success (focus skip)) | (simp; omega)) _ | refine Below.drew ?_ | refine Below.trans ?_ (Below.mono (by assumption) (by first | exact Nat.le_refl _ | omega | (simp; fail_if_success (focus skip)) | (simp; omega)))), a4, c4, rfl, ho4.1, ?_⟩
        have hs3 : w.heap.size + 1 ≤ W3.drew.heap.size := k3s
        have hg := gb_set (gb_set (gb_set (gb_refl W4 (some w.heap.size)) 0 (.int .i64 x.toNat)) 1 (.int .i64 y.toNat)) 2 (.slice a4 A.length c4)
        exact ownsRow_base (ownsRow_below (ho4.2.kept hg (.inr (fun e => own_ne ho4.2 (b := w.heap.size) (by omega) e.symm))) (Below.refl _ _).drew (Nat.le_refl _)) (by omega)
    · have hsz : ∀ W, Calls Tryz.prog 96 #[.int .i64 x.toNat, .int .i64 y.toNat] W fun e w' => e = .returned (.bool false) ∧ W = w' := fun W => by
        have := sizes_any x.toNat y.toNat W
        rwa [show decide (1 ≤ (x.toNat : Int) ∧ (x.toNat : Int) ≤ 4 ∧ 1 ≤ (y.toNat : Int) ∧ (y.toNat : Int) ≤ 4) = false from by simpa using hok] at this
      have hrc : readCan B = none := by rw [← HB.out, readCan_cons, if_neg (by omega)]
      have HS := Lib.hid hsz
      have HRC := Lib.hid hrc
      clear hok hsz hrc
      go_enter Tryz.func82, Tryz.ntmps82
      go_wp2
      clear hW1
      refine wp_region_cuts [.q [_, _, _, _, _, _, _, _, _, _, _, _]] [_, _, _] rfl (fun w'' => Below W1.heap.size W1 w'') (by kernel_rfl) (by kernel_rfl) (fun _ _ d _ _ h => by cases d <;> exact h) ?_
      refine cut_q (Below.refl _ W1).drew ?_
      repeat (first | go_big_quiet_step ((intros; rfl)) | quiet_step ((intros; rfl)) | fail | (refine wq_loadB rfl rfl (by kernel_rfl) (by assumption) ?_; simp only [Act.put, List.setIfInBounds_toArray, List.set_cons_succ, List.set_cons_zero]))
      refine wpQuiet_nil ?_
      refine cut_end ?_
      go_wp2_with fail
      refine (HS.out _).mono ?_
      rintro e W2 ⟨rfl, rfl⟩
      go_wp2
      have k1 := (((Blk.drew k0).set 0 (.int .i64 0)).set 1 (.int .i64 0)).set 2 (.slice none 0 0)
      refine bodyPost_ret (results_can2 (p := 2) (u := 3) (by kernel_rfl) _ _ w.heap.size 50 (.int .i64 0) (.int .i64 0) (.slice none 0 0) rfl k1) rfl ?_
      rw [HRC.out]
      have hB2 := Below.drew hB1
      refine ⟨?_, rfl⟩
      repeat (first | assumption | exact Below.refl _ _ | refine below_dN ?_ _ | refine Below.alloc ?_ (by first | exact Nat.le_refl _ | omega | (simp; fail_if_success (focus skip)) | (simp; omega)) _ | refine Below.setCell ?_ (by first | exact Nat.le_refl _ | omega | (simp; fail_if_success (focus skip)) | (simp; omega)) _ | refine Below.drew ?_ | refine Below.trans ?_ (Below.mono (by assumption) (by first | exact Nat.le_refl _ | omega | (simp; fail_if_success (focus skip)) | (simp; omega))))
end Go.Proofs.YtkjpcjccddggoaaGreat
