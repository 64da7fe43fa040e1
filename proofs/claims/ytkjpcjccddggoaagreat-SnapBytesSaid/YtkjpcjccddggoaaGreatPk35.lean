/- Walks by data and names, part 35: gessoref10: begins, ReadTile. -/
import Derived.Test.YtkjpcjccddggoaaGreatPk33
import Derived.Test.YtkjpcjccddggoaaGreatPk34
namespace Go.Proofs.YtkjpcjccddggoaaGreat
set_option maxRecDepth 20000
open Go.RowKit
theorem Bytes.get {w : World} {a : Option Addr} {n c : Nat} {l : List UInt8} (h : Bytes w (.slice a n c) l) (j : Nat) (hj : j < l.length) : ∃ b o, a = some ⟨b, o, none⟩ ∧ w.cell? ⟨b, o + j, none⟩ = some (vb l[j]) := by
  obtain ⟨a', c', e, _, _, _, r⟩ := h
  cases e
  exact r j (vb l[j]) (by rw [List.getElem?_map, List.getElem?_eq_getElem hj]; rfl)
theorem prefix_step (b x : List UInt8) (k : Nat) (hk : k < x.length) (hb : k ≤ b.length) (h : b.take k = x.take k) : x.isPrefixOf b = true → ∃ hb' : k < b.length, b[k] = x[k] := by
  intro hp
  rw [List.isPrefixOf_iff_prefix] at hp
  obtain ⟨t, rfl⟩ := hp
  exact ⟨by simp; omega, by rw [List.getElem_append_left hk]⟩
set_option maxHeartbeats 1000000 in
theorem begins_any (v1 v2 : Value) (b x : List UInt8) (w : World) (h1 : Bytes w v1 b) (h2 : Bytes w v2 x) :
    Calls Tryz.prog 158 #[v1, v2] w fun e w' => e = .returned (.bool (x.isPrefixOf b)) ∧ w' = w := by
  have h1' := h1
  have h2' := h2
  obtain ⟨a1, c1, rfl, hc1, hm1, hn1, _⟩ := h1'
  obtain ⟨a2, c2, rfl, hc2, hm2, hn2, _⟩ := h2'
  unfold maxLen at hm1 hm2
  go_enter Tryz.func158, Tryz.ntmps158
  go_wp2
  go_loopw [9] (fun i wr => ∃ k : Nat, i = .int .i64 k ∧ k ≤ x.length ∧ k ≤ b.length ∧ b.take k = x.take k ∧ wr = w) (fun i _ => x.length - (intOf i).toNat)
  case atStart => exact ⟨0, rfl, by omega, by omega, by simp, rfl⟩
  case round =>
    obtain ⟨k, rfl, hk, hkb, ht, rfl⟩ := hrel
    have HT := Lib.hid ht
    clear ht
    by_cases hlt : k < x.length
    · obtain ⟨b2, o2, e2, g2⟩ := h2.get k hlt
      subst e2
      by_cases hl2 : k < b.length
      · obtain ⟨b1, o1, e1, g1⟩ := h1.get k hl2
        subst e1
        by_cases hq : b[k] = x[k]
        · have hqb : ((b[k].toNat : Int) != (x[k].toNat : Int)) = false := by simp [hq]
          have HT' : Hid (b.take (k + 1) = x.take (k + 1)) := by
            refine Lib.hid ?_
            rw [List.take_succ_eq_append_getElem hl2, List.take_succ_eq_append_getElem hlt, HT.out, hq]
          clear hq HT
          go_wp2
          go_roundw
          case rel => exact ⟨k + 1, by go_num, by omega, by omega, HT'.out, trivial⟩
          case measure => simp only [intOf]; omega
        · have hqb : ((b[k].toNat : Int) != (x[k].toNat : Int)) = true := by simp only [bne_iff_ne, ne_eq, vb_inj]; exact hq
          have hno : x.isPrefixOf b = false := by
            rw [← Bool.not_eq_true]; intro hp
            obtain ⟨_, e⟩ := prefix_step b x k hlt hkb HT.out hp
            exact hq e
          clear hq HT
          go_wp2
          go_ret
          exact ⟨by rw [hno]; rfl, rfl⟩
      · have hno : x.isPrefixOf b = false := by
          rw [← Bool.not_eq_true]; intro hp
          obtain ⟨h, _⟩ := prefix_step b x k hlt hkb HT.out hp
          exact hl2 h
        clear HT
        go_wp2
        go_ret
        exact ⟨by rw [hno]; rfl, rfl⟩
    · have hyes : x.isPrefixOf b = true := by
        have e := HT.out
        rw [List.take_of_length_le (by omega : x.length ≤ k)] at e
        rw [List.isPrefixOf_iff_prefix, ← e]
        exact List.take_prefix _ _
      clear HT
      go_wp2
      go_ret
      exact ⟨by rw [hyes]; rfl, rfl⟩
def refV : Option (List Col × Nat) → Value
  | some (T, k) => .tuple #[tileV T, .int .i64 k]
  | none => .tuple #[tileV noTile, .int .i64 0]
theorem results_tile2 {fn : Func} {p u : Tmp} (h : fn.results = #[.cell p 109, .tmp u]) (tmps : Array Value) (w : World) (b : Nat) (T : List Col) (hT : T.length = 64) (hp : tmps.getD p undef = .pointer (some ⟨b, 0, none⟩)) (ht : TileAt w b 0 T) :
    (results fn tmps).run Tryz.prog w = .ok (.tuple #[tileV T, tmps.getD u undef]) w := by
  have hp' : tmps[p]?.getD undef = .pointer (some ⟨b, 0, none⟩) := by simpa using hp
  simp [results, h, hp', asAddr, run_loadVar_tile w b 0 T hT ht]
theorem below_row {B : Nat} {w w1 : World} (h : Below B w w1) (n : Nat) (hn : B ≤ n) (cs : Array Value) : Below B w (w1.setRow n cs) :=
  ⟨h.os, h.tape, h.output, Nat.le_trans h.size (by simp), fun k hk => (setRow_other w1 n k cs (by omega)).trans (h.block k hk)⟩
theorem readR_short (T : List Col) (l : List UInt8) (h : T.length < 64) (hl : l.length < 5) : readR T l = none := by
  unfold readR
  rw [if_neg (by omega)]
  match l, hl with
  | [], _ => rfl
  | [_], _ => rfl
  | [_, _], _ => rfl
  | [_, _, _], _ => rfl
  | [_, _, _, _], _ => rfl
theorem readR_full (T : List Col) (l : List UInt8) (h : T.length = 64) : readR T l = some (T, 0) := by unfold readR; rw [if_pos h]
theorem readR_none (l : List UInt8) (h : readR [] l = none) : readTile l = none := by rw [read_ref, h]; rfl
set_option maxRecDepth 100000 in
set_option maxHeartbeats 4000000 in
theorem refread_any (v : Value) (l : List UInt8) (w : World) (hb : Bytes w v l) :
    Calls Tryz.prog 149 #[v] w fun e w' => Below w.heap.size w w' ∧ e = .returned (refV (readTile l)) := by
  have hb0 := hb
  obtain ⟨ad, cc, rfl, hc, hcm, hnil, _⟩ := hb0
  unfold maxLen at hcm
  have n0 := (Blk.new w (tcells noTile) 109).alloc (.cells (tcells noTile) 109)
  have n1 := Blk.new (w.alloc (.cells (tcells noTile) 109)) (tcells noTile) 109
  rw [show (w.alloc (.cells (tcells noTile) 109)).heap.size = w.heap.size + 1 from by simp] at n1
  have hB0 : Below w.heap.size w ((w.alloc (.cells (tcells noTile) 109)).alloc (.cells (tcells noTile) 109)) := by repeat (first | assumption | exact Below.refl _ _ | refine below_dN ?_ _ | refine Below.alloc ?_ (by first | exact Nat.le_refl _ | omega | (simp; fail_if_success (focus skip)) | (simp; omega)) _ | refine Below.setCell ?_ (by first | exact Nat.le_refl _ | omega | (simp; fail_if_success (focus skip)) | (simp; omega)) _ | refine Below.drew ?_ | refine Below.trans ?_ (Below.mono (by assumption) (by first | exact Nat.le_refl _ | omega | (simp; fail_if_success (focus skip)) | (simp; omega))))
  have hs0 : w.heap.size + 2 ≤ ((w.alloc (.cells (tcells noTile) 109)).alloc (.cells (tcells noTile) 109)).heap.size := by simp
  go_enter Tryz.func149, Tryz.ntmps149
  go_wp2_with (first | refine wl_alloc_tile rfl ?_)
  obtain ⟨W0, hW0⟩ : ∃ W0, (w.alloc (.cells (tcells noTile) 109)).alloc (.cells (tcells noTile) 109) = W0 := ⟨_, rfl⟩
  rw [hW0] at n0 n1 hB0 hs0 ⊢
  clear hW0
  go_loopw [5, 6] (fun at' n' wr => ∃ (T : List Col) (j : Nat), T.length ≤ 64 ∧ at' = .int .i64 j ∧ n' = .int .i64 T.length ∧ j ≤ l.length ∧ j ≤ 5 * T.length ∧ readR [] l = (readR T (l.drop j)).map (fun p => (p.1, p.2 + j)) ∧ Blk wr w.heap.size (tcells noTile) 109 ∧ Blk wr (w.heap.size + 1) (tcells (padT T)) 109 ∧
      Below w.heap.size w wr ∧ w.heap.size + 2 ≤ wr.heap.size)
    (fun _ n' _ => 64 - (intOf n').toNat)
  case atStart => exact ⟨[], 0, by simp, rfl, rfl, by omega, by simp, by simp, n0, n1, hB0, hs0⟩
  case round =>
    clear n0 n1 hB0 hs0
    obtain ⟨T, j, hT, rfl, rfl, hj, hj5, hr, b0, b1, hB, hsz⟩ := hrel
    have HR := Lib.hid hr
    clear hr
    have hbW : Bytes wr (.slice ad l.length cc) l := hb.below hB
    obtain ⟨n, hTn⟩ : ∃ n, T.length = n := ⟨_, rfl⟩
    rw [hTn]
    have hTn' := Lib.hid hTn
    by_cases hlt : n < 64
    · by_cases hl5 : l.length < j + 5
      · have hno : readTile l = none := readR_none l (by rw [HR.out, readR_short T _ (by omega) (by simp; omega)]; rfl)
        have hql : decide ((l.length : Int) < (j : Int) + 5) = true := by simp; omega
        have hj' : j ≤ 320 := by omega
        go_wp2_with (first | refine wl_build_tile rfl ?_ | refine wl_store_tile rfl rfl rfl b0 (by rfl) noTile_len ?_)
        refine bodyPost_ret (results_tile2 (p := 2) (u := 3) (by kernel_rfl) _ _ w.heap.size noTile noTile_len rfl (Blk.tileAt (b := w.heap.size) (t := 109) (b0.setRow))) rfl ?_
        exact ⟨below_row hB _ (Nat.le_refl _) _, by rw [hno]; rfl⟩
      · obtain ⟨m, r, g, b, a, rest, hd⟩ : ∃ m r g b a rest, l.drop j = m :: r :: g :: b :: a :: rest := by
          match hx : l.drop j with
          | m :: r :: g :: b :: a :: rest => exact ⟨m, r, g, b, a, rest, rfl⟩
          | [] | [_] | [_, _] | [_, _, _] | [_, _, _, _] => have := congrArg List.length hx; simp at this; omega
        have hm256 : m.toNat < 256 := m.toNat_lt
        have HX : Hid (readR [] l = if 0 < m.toNat ∧ n + m.toNat ≤ 64 then (readR (T ++ List.replicate m.toNat ⟨r, g, b, a⟩) (l.drop (j + 5))).map (fun p => (p.1, p.2 + (j + 5))) else none) := by
          refine Lib.hid ?_
          have hrest : rest = l.drop (j + 5) := by
            have := congrArg (List.drop 5) hd
            rw [List.drop_drop] at this
            simpa [Nat.add_assoc] using this.symm
          rw [HR.out, hd, readR, if_neg (by omega), hTn, hrest]
          split
          · rw [Option.map_map]; congr 1; funext p; simp [Function.comp]; omega
          · rfl
        clear HR
        have el : ∀ i x, (m :: r :: g :: b :: a :: rest)[i]? = some x → ∃ h : j + i < l.length, l[j + i] = x := fun i x hx => by
          rw [← hd, List.getElem?_drop] at hx
          exact List.getElem?_eq_some_iff.1 hx
        obtain ⟨bb, oo, ea, c0⟩ := hb.get j (by omega)
        subst ea
        obtain ⟨h0', e0⟩ := el 0 m rfl
        obtain ⟨h1', e1⟩ := el 1 r rfl
        obtain ⟨h2', e2⟩ := el 2 g rfl
        obtain ⟨h3', e3⟩ := el 3 b rfl
        obtain ⟨h4', e4⟩ := el 4 a rfl
        obtain ⟨_, _, ea, c1⟩ := hb.get (j + 1) (by omega)
        cases ea
        obtain ⟨_, _, ea, c2⟩ := hb.get (j + 2) (by omega)
        cases ea
        obtain ⟨_, _, ea, c3⟩ := hb.get (j + 3) (by omega)
        cases ea
        obtain ⟨_, _, ea, c4⟩ := hb.get (j + 4) (by omega)
        cases ea
        simp only [Nat.add_zero] at e0
        rw [e0] at c0
        rw [e1] at c1
        rw [e2] at c2
        rw [e3] at c3
        rw [e4] at c4
        clear e0 e1 e2 e3 e4 el hd h0' h1' h2' h3' h4'
        have hbb : bb < w.heap.size := World.block_lt_of_cell? w _ c0
        have C0 := (hB.cell (p := ⟨bb, oo + j, none⟩) hbb).trans c0
        by_cases hm0 : 0 < m.toNat
        · have hqm : ((m.toNat : Int) == 0) = false := by simp; omega
          by_cases hbig : n + m.toNat ≤ 64
          · have hd1 : decide ((n : Int) + m.toNat > 64) = false := by simp; omega
            have hql : decide ((l.length : Int) < (j : Int) + 5) = false := by simp; omega
            go_wp2
            go_loopw [6, 38] (fun i4 i5 wq => ∃ i : Nat, i ≤ m.toNat ∧ i4 = .int .i64 ((n + i : Nat) : Int) ∧ i5 = .int .i64 i ∧ Blk wq w.heap.size (tcells noTile) 109 ∧ Blk wq (w.heap.size + 1) (tcells (padT (T ++ List.replicate i ⟨r, g, b, a⟩))) 109 ∧ Below w.heap.size w wq ∧ w.heap.size + 2 ≤ wq.heap.size)
              (fun _ i5 _ => m.toNat - (intOf i5).toNat)
            case atStart => exact ⟨0, by omega, rfl, rfl, b0, by simpa using b1, hB, hsz⟩
            case round =>
              obtain ⟨i, hi, rfl, rfl, z0, z1, zB, zs⟩ := hrel
              by_cases hlt2 : i < m.toNat
              · have hin : n + i < 64 := by omega
                have hl1 : (T ++ List.replicate i (⟨r, g, b, a⟩ : Col)).length = n + i := by simp [hTn'.out]
                obtain ⟨x1, x2, x3⟩ := z1.all
                obtain ⟨t0, t1, t2, t3⟩ := tcells_at (padT (T ++ List.replicate i ⟨r, g, b, a⟩)) (n + i) (by rw [padT_len _ (by omega)]; omega)
                rw [← x1] at t0 t1 t2 t3
                clear x1
                have hx' : Hid _ := Lib.hid (padT_put T i (n + i) r g b a hl1 hin)
                have y1 := (zB.cell (p := ⟨bb, oo + (j + 1), none⟩) hbb).trans c1
                have y2 := (zB.cell (p := ⟨bb, oo + (j + 2), none⟩) hbb).trans c2
                have y3 := (zB.cell (p := ⟨bb, oo + (j + 3), none⟩) hbb).trans c3
                have y4 := (zB.cell (p := ⟨bb, oo + (j + 4), none⟩) hbb).trans c4
                clear c0 c1 c2 c3 c4 C0
                go_wp2
                refine wp_region_cuts [.q [_, _, _, _, _, _, _, _, _, _, _, _, _, _, _, _, _, _, _, _, _, _]] [_, _] rfl (fun w'' => Below wr.heap.size wr w'') (by kernel_rfl) (by kernel_rfl) (fun _ _ d _ _ h => by cases d <;> exact h) ?_
                refine cut_q (by (repeat (first | assumption | exact Below.refl _ _ | refine below_dN ?_ _ | refine Below.alloc ?_ (by first | exact Nat.le_refl _ | omega | (simp; fail_if_success (focus skip)) | (simp; omega)) _ | refine Below.setCell ?_ (by first | exact Nat.le_refl _ | omega | (simp; fail_if_success (focus skip)) | (simp; omega)) _ | refine Below.drew ?_ | refine Below.trans ?_ (Below.mono (by assumption) (by first | exact Nat.le_refl _ | omega | (simp; fail_if_success (focus skip)) | (simp; omega)))))) ?_
                repeat (first | go_big_quiet_step ((intros; rfl)) | quiet_step ((intros; rfl)) | fail | (refine wq_loadB rfl rfl (by kernel_rfl) (by assumption) ?_; simp only [Act.put, List.setIfInBounds_toArray, List.set_cons_succ, List.set_cons_zero]))
                refine wpQuiet_nil ?_
                refine cut_end ?_
                go_wp2
                go_roundw
                case rel =>
                  have hne : w.heap.size ≠ w.heap.size + 1 := by omega
                  refine ⟨i + 1, by omega, by go_num, by go_num, (((z0.other _ _ hne).other _ _ hne).other _ _ hne).other _ _ hne, ?_, ?_, by simpa using zs⟩
                  · rw [hx'.out]
                    exact (((z1.set _ _).set _ _).set _ _).set _ _
                  · repeat (first | assumption | exact Below.refl _ _ | refine below_dN ?_ _ | refine Below.alloc ?_ (by first | exact Nat.le_refl _ | omega | (simp; fail_if_success (focus skip)) | (simp; omega)) _ | refine Below.setCell ?_ (by first | exact Nat.le_refl _ | omega | (simp; fail_if_success (focus skip)) | (simp; omega)) _ | refine Below.drew ?_ | refine Below.trans ?_ (Below.mono (by assumption) (by first | exact Nat.le_refl _ | omega | (simp; fail_if_success (focus skip)) | (simp; omega))))
                case measure => simp only [intOf]; omega
              · obtain hi2 : i = m.toNat := by omega
                have hT2 : (T ++ List.replicate i (⟨r, g, b, a⟩ : Col)).length = n + i := by simp [hTn'.out]
                go_wp2
                go_roundw
                case rel =>
                  refine ⟨T ++ List.replicate i ⟨r, g, b, a⟩, j + 5, by omega, by go_num, by rw [hT2], by omega, by omega, ?_, z0, z1, zB, zs⟩
                  rw [HX.out, if_pos ⟨hm0, hbig⟩, hi2]
                case measure => simp only [intOf]; omega
          · have hno : readTile l = none := readR_none l (by rw [HX.out, if_neg (fun h => hbig h.2)])
            have hd1 : decide ((n : Int) + m.toNat > 64) = true := by simp; omega
            go_wp2_with (first | refine wl_build_tile rfl ?_ | refine wl_store_tile rfl rfl rfl b0 (by rfl) noTile_len ?_)
            refine bodyPost_ret (results_tile2 (p := 2) (u := 3) (by kernel_rfl) _ _ w.heap.size noTile noTile_len rfl (Blk.tileAt (b := w.heap.size) (t := 109) (b0.setRow))) rfl ?_
            exact ⟨below_row hB _ (Nat.le_refl _) _, by rw [hno]; rfl⟩
        · have hno : readTile l = none := readR_none l (by rw [HX.out, if_neg (fun h => hm0 h.1)])
          have hqm : ((m.toNat : Int) == 0) = true := by simp; omega
          go_wp2_with (first | refine wl_build_tile rfl ?_ | refine wl_store_tile rfl rfl rfl b0 (by rfl) noTile_len ?_)
          refine bodyPost_ret (results_tile2 (p := 2) (u := 3) (by kernel_rfl) _ _ w.heap.size noTile noTile_len rfl (Blk.tileAt (b := w.heap.size) (t := 109) (b0.setRow))) rfl ?_
          exact ⟨below_row hB _ (Nat.le_refl _) _, by rw [hno]; rfl⟩
    · obtain hT : n = 64 := by omega
      have hT64 : T.length = 64 := by omega
      rw [padT_full T hT64] at b1
      have hX : Hid (readTile l = if (enc T).length = j ∧ enc T <+: l then some (T, j) else none) := by
        refine Lib.hid ?_
        rw [read_ref, HR.out, readR_full T _ hT64]
        simp
      clear HR
      by_cases hj2 : (enc T).length = j
      · have hq1 : (((enc T).length : Int) != (j : Int)) = false := by simp [hj2]
        have Hj := Lib.hid hj2
        clear hj2
        cases hp : (enc T).isPrefixOf l with
        | true =>
          have hyes : readTile l = some (T, j) := by rw [hX.out, if_pos ⟨Hj.out, List.isPrefixOf_iff_prefix.1 hp⟩]
          clear hX
          have HP := Lib.hid hp
          go_wp2_with (first | refine wl_build_tile rfl ?_ | refine wl_store_tile rfl rfl rfl (b0.below hb2 b0.lt) (by rfl) (by first | exact noTile_len | exact hT64) ?_ | refine wl_load_tile rfl rfl hT64 (b1.tileAt) ?_ | refine wl_load_tile rfl rfl hT64 ((b1.below hb2 b1.lt).tileAt) ?_ | (go_at_call 113; refine (rtile_any T hT64 _).mono ?_; rintro e w' ⟨v, rfl, hown, hb2⟩; obtain ⟨a2, cc2, rfl, hcc2, hcm2⟩ := ownsRow_slice hown) | (go_at_call 158; refine (begins_any _ _ l (enc T) _ (hbW.below hb2) (OwnB.bytes hown)).mono ?_; rintro e w'' ⟨rfl, rfl⟩; rw [hp]))
          refine bodyPost_ret (results_tile2 (p := 2) (u := 3) (by kernel_rfl) _ _ w.heap.size T hT64 rfl (Blk.tileAt (b := w.heap.size) (t := 109) ((b0.below hb2 b0.lt).setRow))) rfl ?_
          exact ⟨below_row (hB.trans (hb2.mono (by omega))) _ (Nat.le_refl _) _, by rw [hyes]; rfl⟩
      
        | false =>
          have hno : readTile l = none := by rw [hX.out, if_neg (fun h => by rw [List.isPrefixOf_iff_prefix.2 h.2] at hp; cases hp)]
          clear hX
          go_wp2_with (first | refine wl_build_tile rfl ?_ | refine wl_store_tile rfl rfl rfl (b0.below hb2 b0.lt) (by rfl) (by first | exact noTile_len | exact hT64) ?_ | refine wl_load_tile rfl rfl hT64 (b1.tileAt) ?_ | refine wl_load_tile rfl rfl hT64 ((b1.below hb2 b1.lt).tileAt) ?_ | (go_at_call 113; refine (rtile_any T hT64 _).mono ?_; rintro e w' ⟨v, rfl, hown, hb2⟩; obtain ⟨a2, cc2, rfl, hcc2, hcm2⟩ := ownsRow_slice hown) | (go_at_call 158; refine (begins_any _ _ l (enc T) _ (hbW.below hb2) (OwnB.bytes hown)).mono ?_; rintro e w'' ⟨rfl, rfl⟩; rw [hp]))
          refine bodyPost_ret (results_tile2 (p := 2) (u := 3) (by kernel_rfl) _ _ w.heap.size noTile noTile_len rfl (Blk.tileAt (b := w.heap.size) (t := 109) ((b0.below hb2 b0.lt).setRow))) rfl ?_
          exact ⟨below_row (hB.trans (hb2.mono (by omega))) _ (Nat.le_refl _) _, by rw [hno]; rfl⟩
      
      · have hq1 : (((enc T).length : Int) != (j : Int)) = true := by simp; omega
        have hno : readTile l = none := by rw [hX.out, if_neg (fun h => hj2 h.1)]
        clear hj2 hX
        go_wp2_with (first | refine wl_build_tile rfl ?_ | refine wl_store_tile rfl rfl rfl (b0.below hb2 b0.lt) (by rfl) noTile_len ?_ | refine wl_load_tile rfl rfl hT64 (b1.tileAt) ?_ | (go_at_call 113; refine (rtile_any T hT64 _).mono ?_; rintro e w' ⟨v, rfl, hown, hb2⟩; obtain ⟨a2, cc2, rfl, hcc2, hcm2⟩ := ownsRow_slice hown))
        refine bodyPost_ret (results_tile2 (p := 2) (u := 3) (by kernel_rfl) _ _ w.heap.size noTile noTile_len rfl (Blk.tileAt (b := w.heap.size) (t := 109) ((b0.below hb2 b0.lt).setRow))) rfl ?_
        exact ⟨below_row (hB.trans (hb2.mono (by omega))) _ (Nat.le_refl _) _, by rw [hno]; rfl⟩
end Go.Proofs.YtkjpcjccddggoaaGreat
