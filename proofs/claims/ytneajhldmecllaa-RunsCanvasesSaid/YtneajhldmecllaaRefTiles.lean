/- gessoref10.tiles: tiles that are read, one behind the other. -/
import Derived.Test.YtneajhldmecllaaRefCan
import Derived.Test.YtneajhldmecllaaSlLaw
namespace Go.Proofs.Ytneajhldmecllaa
open Go.RowKit

/-- the tile that a byte 0 stands for -/
def zeroOf (O : List (List Col)) (A : List (List Col)) : List Col := if 0 < O.length then oldF O A else aheadF A
theorem zeroOf_len (O A : List (List Col)) (hO : All64 O) (hA : All64 A) (hm : 0 < O.length → A.length < O.length) : (zeroOf O A).length = 64 := by
  unfold zeroOf
  split
  · rename_i h
    unfold oldF oldZ
    rw [List.getD_eq_getElem?_getD, List.getElem?_eq_getElem (hm h)]
    exact hO _ (by simp)
  · exact aheadF_len A hA

structure RtInv (w W : World) (b : Value) (l : List UInt8) (o : Value) (O : List (List Col)) (out : Value) (A : List (List Col)) : Prop where
  bel : Below w.heap.size w W
  bs : Bytes W b l
  os : Tiles W o O
  own : OwnT w.heap.size W out A
theorem RtInv.below {w W W' : World} {b : Value} {l : List UInt8} {o : Value} {O : List (List Col)} {out : Value} {A : List (List Col)} (h : RtInv w W b l o O out A) (hb : Below W.heap.size W W') : RtInv w W' b l o O out A :=
  ⟨Below.up h.bel hb, h.bs.below hb, h.os.below hb, h.own.below hb⟩

def RefTs (w w' : World) (e : Ending) : Option (List (List Col) × Nat) → Prop
  | some (A, k) => ∃ a c, e = .returned (.tuple #[.slice a A.length c, .int .i64 ((2 + k : Nat) : Int)]) ∧ OwnT w.heap.size w' (.slice a A.length c) A
  | none => e = .returned (.tuple #[.slice none 0 0, .int .i64 0])

set_option maxRecDepth 100000 in
set_option maxHeartbeats 2000000 in
theorem reftiles_any (many : Nat) (b o : Value) (l : List UInt8) (O : List (List Col)) (w : World) (hb : Bytes w b l) (ho : Tiles w o O) (hl : l.length ≤ 100000) (h2 : 2 ≤ l.length) (hm : many ≤ 1000) (hO : 0 < O.length → many ≤ O.length) :
    Calls Try.prog 52 #[b, .int .i64 many, o] w fun e w' => Below w.heap.size w w' ∧ RefTs w w' e (readTs (zeroOf O) many [] (l.drop 2)) := by
  have hb' := hb
  obtain ⟨ab, cb, rfl, hcb, hmb, hnb, rb⟩ := hb'
  obtain ⟨ao, co, rfl, hco, hmo⟩ := ho.slice
  unfold maxLen at hmb hmo
  go_enter Try.func52, Try.ntmps52
  go_wp2
  go_loopw [8, 9, 15] (fun out at_ i wr => ∃ (k p : Nat) (A : List (List Col)), k ≤ many ∧ i = .int .i64 k ∧ A.length = k ∧ at_ = .int .i64 p ∧ 2 ≤ p ∧ p ≤ l.length ∧
      readTs (zeroOf O) many [] (l.drop 2) = (readTs (zeroOf O) (many - k) A (l.drop p)).map (fun q => (q.1, q.2 + (p - 2))) ∧ RtInv w wr (.slice ab l.length cb) l (.slice ao O.length co) O out A)
    (fun _ _ i _ => many - (intOf i).toNat)
  case atStart => exact ⟨0, 2, [], by omega, rfl, rfl, rfl, by omega, h2, by simp, Below.refl _ _, hb, ho, ⟨by simp [All64], World.ownsRow_nil _ _ _ _⟩⟩
  case round =>
    obtain ⟨k, p, A, hk, rfl, hA, rfl, hp2, hpl, hX, hI⟩ := hrel
    obtain ⟨aA, cA, rfl, hcA, hmA⟩ := ownsRow_slice hI.own.2
    rw [hA] at hI hcA ⊢
    have HX := Lib.hid hX
    have HA := Lib.hid hA
    clear hX hA
    by_cases hlt : k < many
    · have hZ64 := zeroOf_len O A ho.1 hI.own.1 (fun h => by have := hO h; have := HA.out; omega)
      obtain ⟨Z, eZ⟩ : ∃ Z, zeroOf O A = Z := ⟨_, rfl⟩
      rw [eZ] at hZ64
      have HZ := Lib.hid eZ
      clear eZ
      have bN := Blk.new wr (tcells noTile) 29
      go_upto_if 21 with (first | refine wl_build_tile rfl ?_ | refine wl_alloc_tile rfl ?_ | refine wl_store_tile_new rfl rfl rfl rfl (by rfl) noTile_len ?_)
      go_cut [11] (fun s11 wx => s11 = .pointer (some ⟨wr.heap.size, 0, none⟩) ∧ Blk wx wr.heap.size (tcells Z) 29 ∧ Below wr.heap.size wr wx)
      case first =>
        by_cases hO0 : 0 < O.length
        · have hkO : k < O.length := by have := hO hO0; omega
          have hO0' : (0 : Int) < (O.length : Int) := by omega
          obtain ⟨b2, o2, rfl, hT, hb2⟩ := hI.os.get k hkO
          have hT' := hT.below (Below.new wr (.cells (tcells noTile) 29)) hb2
          have hOZ : O[k] = Z := by
            rw [← HZ.out]; unfold zeroOf oldF oldZ
            rw [if_pos hO0, HA.out, List.getD_eq_getElem?_getD, List.getElem?_eq_getElem hkO]; rfl
          rw [hOZ] at hT'
          clear hOZ hT
          go_wp2_with (first | refine wl_load_tile rfl rfl hZ64 hT' ?_ | refine wl_store_tile rfl rfl rfl bN (by rfl) hZ64 ?_)
          go_meet
          case rel => exact ⟨rfl, Blk.setRow bN, Below.setRow (Below.new wr _) (Nat.le_refl _) _⟩
        · by_cases hk0 : k = 0
          · subst hk0
            have hNZ : noTile = Z := by
              have hA0 : A = [] := List.eq_nil_of_length_eq_zero HA.out
              rw [← HZ.out, hA0]; unfold zeroOf; rw [if_neg hO0]; rfl
            rw [hNZ] at bN ⊢
            clear hNZ
            go_wp2
            go_meet
            case rel => exact ⟨rfl, bN, Below.new wr _⟩
          · obtain ⟨k', rfl⟩ : ∃ k', k = k' + 1 := ⟨k - 1, by omega⟩
            have hkA : k' < A.length := by have := HA.out; omega
            have hlenA : A.length = k' + 1 := HA.out
            obtain ⟨b2, o2, rfl, hT, hb2⟩ := (show Tiles wr (.slice aA (k' + 1) cA) A from hI.own.tiles).get k' hkA
            have hT' := hT.below (Below.new wr (.cells (tcells noTile) 29)) hb2
            have hOZ : A[k'] = Z := by
              rw [← HZ.out]; unfold zeroOf aheadF aheadZ
              rw [if_neg hO0, if_neg (by omega), hlenA, Nat.add_sub_cancel, List.getD_eq_getElem?_getD, List.getElem?_eq_getElem hkA]; rfl
            rw [hOZ] at hT'
            have hw1 : IntKind.i64.wrap (((k' + 1 : Nat) : Int) - 1) = (k' : Int) := wr64 _ _ (by omega) (by omega)
            have hw2 : IntKind.i64.wrap ((k' : Int) + 1 - 1) = (k' : Int) := wr64 _ _ (by omega) (by omega)
            clear hOZ hT hlenA
            go_wp2_with (first | refine wl_load_tile rfl rfl hZ64 hT' ?_ | refine wl_store_tile rfl rfl rfl bN (by rfl) hZ64 ?_)
            go_meet
            case rel => exact ⟨rfl, Blk.setRow bN, Below.setRow (Below.new wr _) (Nat.le_refl _) _⟩
      case rest =>
        obtain ⟨rfl, bZ, hBc⟩ := hcut
        have hI2 := hI.below hBc
        obtain ⟨pZ, hpZ⟩ : ∃ p, wr.heap.size = p := ⟨_, rfl⟩
        have hpw : w.heap.size ≤ pZ := by rw [← hpZ]; exact hI.bel.size
        rw [hpZ] at bZ ⊢
        clear bN hpZ hI hBc hcA
        obtain ⟨X, eX⟩ : ∃ X, l.drop p = X := ⟨_, rfl⟩
        have hXl : X.length = l.length - p := by rw [← eX]; simp
        have HX2 : Hid (readTs (zeroOf O) many [] (l.drop 2) = (readTs (zeroOf O) (many - k) A X).map (fun q => (q.1, q.2 + (p - 2)))) := by rw [← eX]; exact HX
        have HEX := Lib.hid eX
        obtain ⟨m, hm1⟩ : ∃ m, many - k = m + 1 := ⟨many - k - 1, by omega⟩
        have HM1 := Lib.hid hm1
        clear HX eX hm1
        have hal : A.length = k := HA.out
        have hk1000 : k ≤ 1000 := by omega
        have hbs := hI2.bs
        have hpl' : ¬ (l.length : Int) < (p : Int) := by omega
        have hl1 : ∀ T : List Col, (A ++ [T]).length = k + 1 := fun T => by simp [hal]
        have HL1 := Lib.hid hl1
        clear hal hl1
        cases X with
        | nil =>
          have hjl : p = l.length := by simp at hXl; omega
          have HNO : Hid (readTs (zeroOf O) many [] (l.drop 2) = none) := by refine Lib.hid ?_; rw [HX2.out, HM1.out]; rfl
          have hq1 : ¬ (p : Int) < (l.length : Int) := by omega
          clear hjl hXl
          go_wp2_with (refine wl_slice_l p rfl rfl rfl hbs hpl ?_; intro a' c' hb')
          rw [HEX.out] at hb'
          refine (refread_any _ _ _ hb').mono ?_
          rintro e W5 ⟨hB5, he⟩
          change e = .returned (.tuple #[tileV noTile, .int .i64 0]) at he
          subst he
          go_wp2_with (first | refine wl_alloc_tile rfl ?_ | refine wl_store_tile_new rfl rfl rfl rfl (by rfl) noTile_len ?_)
          refine bodyPost_ret (results_tmp2 rfl _ _ _) rfl ?_
          rw [HNO.out]
          exact ⟨(hI2.below (Below.upA hB5 _)).bel, rfl⟩
        | cons b rest =>
          have hlt2 : p < l.length := by simp at hXl; omega
          have hq1 : (p : Int) < (l.length : Int) := by omega
          obtain ⟨bb, oo, rfl, cbb⟩ := hbs.get p hlt2
          have hlp : l[p] = b := by
            have := congrArg (fun L => L[0]?) HEX.out
            simp [hlt2] at this
            exact this
          rw [hlp] at cbb
          have hrest : l.drop (p + 1) = rest := by
            have := congrArg (List.drop 1) HEX.out
            rw [List.drop_drop] at this
            simpa using this
          have HR := Lib.hid hrest
          clear hlp hrest hXl
          by_cases hb0 : b = 0
          · have hq : ((b.toNat : Int) == 0) = true := by simp [hb0]
            have HX3 : Hid (readTs (zeroOf O) many [] (l.drop 2) = (readTs (zeroOf O) (many - (k + 1)) (A ++ [Z]) (l.drop (p + 1))).map (fun q => (q.1, q.2 + (p + 1 - 2)))) := by
              refine Lib.hid ?_
              rw [HX2.out, HM1.out, readTs, if_pos hb0, HZ.out, HR.out, show many - (k + 1) = m from by have := HM1.out; omega, Option.map_map]
              congr 1; funext q; simp [Function.comp]; omega
            clear HX2 hb0
            have hI3 := hI2.below (Below.new wc (.cells (tcells Z) 29))
            go_wp2_with (first | refine wl_load_tile rfl rfl hZ64 bZ.tileAt ?_ | refine wl_buildSlice_tile rfl rfl hZ64 ?_ | (at_builtin; refine wl_append w.heap.size elem_tile rfl rfl rfl hI3.own.2 (IsSl.new rfl (by decide)) (by simp [tcells_size, hZ64]) (by have := one_tlc [Z]; simpa [tlc] using this) (by unfold maxLen; have := HA.out; omega) (by have := HA.out; omega) (by have := hI3.bel.size; simp at this ⊢; omega) ?_; intro v' w6 hown6 hg6))
            have hown7 : OwnT w.heap.size w6 v' (A ++ [Z]) := ⟨by intro T hT; rcases List.mem_append.1 hT with h | h; exact hI3.own.1 T h; rw [List.mem_singleton.1 h]; exact hZ64, by
              rw [HL1.out Z]
              have := hown6
              rw [HA.out] at this
              simpa [tlc] using this⟩
            have hb6 := below_append hI3.bel (Nat.le_refl _) hI3.bel.size hI3.own.2 hg6
            have hb6' := below_append (Below.refl w.heap.size _) (Nat.le_refl _) hI3.bel.size hI3.own.2 hg6
            go_roundw
            case rel => exact ⟨k + 1, p + 1, A ++ [Z], by omega, by go_num, HL1.out Z, by go_num, by omega, by omega, HX3.out, hb6, hb.below hb6, ho.below hb6, hown7⟩
            case measure => simp only [intOf]; omega
          · have hq : ((b.toNat : Int) == 0) = false := by
              rw [beq_eq_false_iff_ne]
              intro h
              exact hb0 (UInt8.toNat_inj.1 (by simpa using h))
            cases hT : readTile (b :: rest) with
            | none =>
              have HNO : Hid (readTs (zeroOf O) many [] (l.drop 2) = none) := by
                refine Lib.hid ?_
                rw [HX2.out, HM1.out, readTs, if_neg hb0, show readT [] (b :: rest) = none from hT]; rfl
              have HT := Lib.hid hT
              clear hT hb0
              go_wp2_with (refine wl_slice_l p rfl rfl rfl hbs hpl ?_; intro a' c' hb')
              rw [HEX.out] at hb'
              refine (refread_any _ _ _ hb').mono ?_
              rintro e W5 ⟨hB5, he⟩
              rw [HT.out] at he
              change e = .returned (.tuple #[tileV noTile, .int .i64 0]) at he
              subst he
              go_wp2_with (first | refine wl_alloc_tile rfl ?_ | refine wl_store_tile_new rfl rfl rfl rfl (by rfl) noTile_len ?_)
              refine bodyPost_ret (results_tmp2 rfl _ _ _) rfl ?_
              rw [HNO.out]
              exact ⟨(hI2.below (Below.upA hB5 _)).bel, rfl⟩
            | some q =>
              obtain ⟨T, n⟩ := q
              have hT64 := readT_len _ _ _ _ hT
              have hn0 := readT_pos _ _ _ hT
              have hnl := readT_le _ _ _ _ hT
              rw [← HEX.out, List.length_drop] at hnl
              have hn0' : ((n : Int) == 0) = false := by rw [beq_eq_false_iff_ne]; omega
              have HT := Lib.hid hT
              by_cases hTZ : T = Z
              · have HNO : Hid (readTs (zeroOf O) many [] (l.drop 2) = none) := by
                  refine Lib.hid ?_
                  rw [HX2.out, HM1.out, readTs, if_neg hb0, show readT [] (b :: rest) = _ from hT]
                  simp only [HZ.out, if_pos hTZ]; rfl
                have hqe : (T == Z) = true := by simpa using hTZ
                clear hT hb0 hTZ
                go_wp2_with (refine wl_slice_l p rfl rfl rfl hbs hpl ?_; intro a' c' hb')
                rw [HEX.out] at hb'
                refine (refread_any _ _ _ hb').mono ?_
                rintro e W5 ⟨hB5, he⟩
                rw [HT.out] at he
                change e = .returned (.tuple #[tileV T, .int .i64 n]) at he
                subst he
                have bT5 := Blk.new W5 (tcells T) 29
                have bZ5 := (Blk.up bZ hB5).alloc (.cells (tcells T) 29)
                go_wp2_with (first | refine wl_alloc_tile rfl ?_ | refine wl_store_tile_new rfl rfl rfl rfl (by rfl) hT64 ?_ | refine wl_load_tile rfl rfl hT64 bT5.tileAt ?_ | refine wl_load_tile rfl rfl hZ64 bZ5.tileAt ?_ | (refine wl_eql_tile rfl rfl rfl hT64 hZ64 ?_; rw [hqe]))
                refine bodyPost_ret (results_tmp2 rfl _ _ _) rfl ?_
                rw [HNO.out]
                exact ⟨(hI2.below (Below.upA hB5 _)).bel, rfl⟩
              · have HX3 : Hid (readTs (zeroOf O) many [] (l.drop 2) = (readTs (zeroOf O) (many - (k + 1)) (A ++ [T]) (l.drop (p + n))).map (fun q => (q.1, q.2 + (p + n - 2)))) := by
                  refine Lib.hid ?_
                  rw [HX2.out, HM1.out, readTs, if_neg hb0, show readT [] (b :: rest) = _ from hT]
                  simp only [HZ.out, if_neg hTZ]
                  rw [← HEX.out, List.drop_drop, show many - (k + 1) = m from by have := HM1.out; omega, Option.map_map]
                  congr 1; funext q; simp [Function.comp]; omega
                have hqe : (T == Z) = false := by simpa using hTZ
                clear hT hb0 hTZ HX2
                go_wp2_with (refine wl_slice_l p rfl rfl rfl hbs hpl ?_; intro a' c' hb')
                rw [HEX.out] at hb'
                refine (refread_any _ _ _ hb').mono ?_
                rintro e W5 ⟨hB5, he⟩
                rw [HT.out] at he
                change e = .returned (.tuple #[tileV T, .int .i64 n]) at he
                subst he
                have bT5 := Blk.new W5 (tcells T) 29
                have bZ5 := (Blk.up bZ hB5).alloc (.cells (tcells T) 29)
                have hI3 := hI2.below (Below.upA (Below.upA hB5 (.cells (tcells T) 29)) (.cells (tcells T) 29))
                go_wp2_with (first | refine wl_alloc_tile rfl ?_ | refine wl_store_tile_new rfl rfl rfl rfl (by rfl) hT64 ?_ | refine wl_load_tile rfl rfl hT64 bT5.tileAt ?_ | refine wl_load_tile rfl rfl hZ64 bZ5.tileAt ?_ | (refine wl_eql_tile rfl rfl rfl hT64 hZ64 ?_; rw [hqe]) | refine wl_buildSlice_tile rfl rfl hT64 ?_ | (at_builtin; refine wl_append w.heap.size elem_tile rfl rfl rfl hI3.own.2 (IsSl.new rfl (by decide)) (by simp [tcells_size, hT64]) (by have := one_tlc [T]; simpa [tlc] using this) (by unfold maxLen; have := HA.out; omega) (by have := HA.out; omega) (by have := hI3.bel.size; simp at this ⊢; omega) ?_; intro v' w6 hown6 hg6))
                have hown7 : OwnT w.heap.size w6 v' (A ++ [T]) := ⟨by intro U hU; rcases List.mem_append.1 hU with h | h; exact hI3.own.1 U h; rw [List.mem_singleton.1 h]; exact hT64, by
                  rw [HL1.out T]
                  have := hown6
                  rw [HA.out] at this
                  simpa [tlc] using this⟩
                have hb6 := below_append hI3.bel (Nat.le_refl _) hI3.bel.size hI3.own.2 hg6
                go_roundw
                case rel => exact ⟨k + 1, p + n, A ++ [T], by omega, by go_num, HL1.out T, by go_num, by omega, by omega, HX3.out, hb6, hb.below hb6, ho.below hb6, hown7⟩
                case measure => simp only [intOf]; omega
    · obtain rfl : k = many := by omega
      go_wp2
      refine bodyPost_ret (results_tmp2 rfl _ _ _) rfl ?_
      have e : readTs (zeroOf O) k [] (l.drop 2) = some (A, p - 2) := by rw [HX.out, Nat.sub_self]; simp [readTs]
      rw [e]
      refine ⟨hI.bel, aA, cA, ?_, ?_⟩
      · rw [show 2 + (p - 2) = p from by omega, HA.out]; rfl
      · rw [HA.out]; exact hI.own

end Go.Proofs.Ytneajhldmecllaa
