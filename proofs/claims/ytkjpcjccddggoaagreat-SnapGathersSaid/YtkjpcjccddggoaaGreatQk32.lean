/- Walks by data and names, part 32: runs: ahead, bytes, Canvas. Runs: the plain laws: a tile's bytes are read as it, whatever stands behind; what is read has the bytes that were read. runs.Patch. -/
import Derived.Great.FillDense
import Derived.Test.YtkjpcjccddggoaaGreatQk31
import Derived.Test.YtkjpcjccddggoaaGreatQk28
namespace Go.Proofs.YtkjpcjccddggoaaGreat
set_option maxRecDepth 20000
open Go.RowKit
/-- the zero of a place in a canvas: the tile ahead of it -/
def aheadZ (L : List (List Col)) (i : Nat) : List Col := if i = 0 then noTile else L.getD (i - 1) noTile
theorem results_tile1 {fn : Func} {p : Tmp} (h : fn.results = #[.cell p 109]) (tmps : Array Value) (w : World) (b : Nat) (T : List Col) (hT : T.length = 64) (hp : tmps.getD p undef = .pointer (some ⟨b, 0, none⟩)) (ht : TileAt w b 0 T) :
    (results fn tmps).run Tryz.prog w = .ok (tileV T) w := by
  have hp' : tmps[p]?.getD undef = .pointer (some ⟨b, 0, none⟩) := by simpa using hp
  simp [results, h, hp', asAddr, run_loadVar_tile w b 0 T hT ht]
set_option maxHeartbeats 400000 in
theorem ahead_any (v : Value) (w : World) (a : Option Addr) (n c : Nat) (hv : v = .slice a n c) :
    Calls Tryz.prog 111 #[v] w fun e w' => e = .returned (.func (.func 139) #[] #[.pointer (some ⟨w.heap.size, 0, none⟩)]) ∧ w' = w.alloc (.cells #[v] 48) := by
  subst hv
  go_enter Tryz.func111, Tryz.ntmps111
  go_wp2
  go_ret
  exact ⟨rfl, rfl⟩
set_option maxRecDepth 100000 in
set_option maxHeartbeats 2000000 in
theorem ahead1_any (v : Value) (L : List (List Col)) (pc i : Nat) (w : World) (hL : Tiles w v L) (hpc : Blk w pc #[v] 48) (hi : i ≤ L.length) (hl : L.length ≤ 1000) :
    Calls Tryz.prog 139 #[.int .i64 i, .pointer (some ⟨pc, 0, none⟩)] w fun e w' => e = .returned (tileV (aheadZ L i)) ∧ Below w.heap.size w w' := by
  obtain ⟨a1, c1, rfl, hc1, hm1⟩ := hL.slice
  have n0 := Blk.new w (tcells noTile) 109
  by_cases h0 : i = 0
  · subst h0
    have e : aheadZ L 0 = noTile := rfl
    rw [e]
    go_enter Tryz.func139, Tryz.ntmps139
    go_wp2_with (first | refine wl_alloc_tile rfl ?_ | refine wl_build_tile rfl ?_ | refine wl_store_tile rfl rfl rfl n0 (by rfl) noTile_len ?_)
    refine bodyPost_ret (results_tile1 (p := 3) (by kernel_rfl) _ _ w.heap.size noTile noTile_len rfl (Blk.tileAt (b := w.heap.size) (t := 109) (n0.setRow))) rfl ?_
    exact ⟨rfl, below_row (by (repeat (first | assumption | exact Below.refl _ _ | refine below_dN ?_ _ | refine Below.alloc ?_ (by first | exact Nat.le_refl _ | omega | (simp; fail_if_success (focus skip)) | (simp; omega)) _ | refine Below.setCell ?_ (by first | exact Nat.le_refl _ | omega | (simp; fail_if_success (focus skip)) | (simp; omega)) _ | refine Below.drew ?_ | refine Below.trans ?_ (Below.mono (by assumption) (by first | exact Nat.le_refl _ | omega | (simp; fail_if_success (focus skip)) | (simp; omega)))))) _ (Nat.le_refl _) _⟩
  · obtain ⟨k, rfl⟩ : ∃ k, i = k + 1 := ⟨i - 1, by omega⟩
    obtain ⟨b1, o1, rfl, e1, x1⟩ := hL.get k (by omega)
    have hcc := (hpc.alloc (.cells (tcells noTile) 109)).cell 0
    simp only [List.getElem?_toArray, List.getElem?_cons_zero] at hcc
    have hw : IntKind.i64.wrap (((k + 1 : Nat) : Int) - 1) = (k : Int) := wr64 _ _ (by omega) (by omega)
    have hq0 : ((((k + 1 : Nat) : Int)) == 0) = false := by simp; omega
    have hkl : (k : Int) < L.length := by omega
    have t1 : L[k].length = 64 := hL.1 _ (by simp)
    have e : aheadZ L (k + 1) = L[k] := by unfold aheadZ; rw [if_neg h0, Nat.add_sub_cancel, List.getD_eq_getElem?_getD, List.getElem?_eq_getElem (by omega)]; rfl
    have e1' := e1.below ((Below.refl _ w).alloc (Nat.le_refl _) (.cells (tcells noTile) 109)) x1
    rw [e]
    clear e h0 e1
    go_enter Tryz.func139, Tryz.ntmps139
    go_wp2_with (first | refine wl_alloc_tile rfl ?_ | refine wl_load_tile rfl rfl t1 e1' ?_ | refine wl_store_tile rfl rfl rfl n0 (by rfl) t1 ?_)
    refine bodyPost_ret (results_tile1 (p := 3) (by kernel_rfl) _ _ w.heap.size L[k] t1 rfl (Blk.tileAt (b := w.heap.size) (t := 109) (n0.setRow))) rfl ?_
    exact ⟨rfl, below_row (by (repeat (first | assumption | exact Below.refl _ _ | refine below_dN ?_ _ | refine Below.alloc ?_ (by first | exact Nat.le_refl _ | omega | (simp; fail_if_success (focus skip)) | (simp; omega)) _ | refine Below.setCell ?_ (by first | exact Nat.le_refl _ | omega | (simp; fail_if_success (focus skip)) | (simp; omega)) _ | refine Below.drew ?_ | refine Below.trans ?_ (Below.mono (by assumption) (by first | exact Nat.le_refl _ | omega | (simp; fail_if_success (focus skip)) | (simp; omega)))))) _ (Nat.le_refl _) _⟩
theorem zero_ahead (v : Value) (L : List (List Col)) (pc : Nat) (w : World) (hL : Tiles w v L) (hpc : Blk w pc #[v] 48) (hl : L.length ≤ 1000) :
    ZeroFn w (.func (.func 139) #[] #[.pointer (some ⟨pc, 0, none⟩)]) (aheadZ L) L.length 139 (.pointer (some ⟨pc, 0, none⟩)) where
  val := rfl
  enters := fun i w => by kernel_rfl
  len := fun i hi => by
    unfold aheadZ
    split
    · exact noTile_len
    · rw [List.getD_eq_getElem?_getD, List.getElem?_eq_getElem (by omega)]; exact hL.1 _ (by simp)
  tells := fun w' hb i hi => ahead1_any v L pc i w' (hL.below hb) (hpc.below hb hpc.lt) (by omega) hl
theorem ZeroFn.below {w w' : World} {z : Value} {Z : Nat → List Col} {n : Nat} {f : FuncId} {cv : Value} (h : ZeroFn w z Z n f cv) (hb : Below w.heap.size w w') : ZeroFn w' z Z n f cv :=
  ⟨h.val, h.enters, h.len, fun w2 h2 i hi => h.tells w2 (hb.trans (h2.mono hb.size)) i hi⟩
theorem u8_small (a : Nat) (h : a ≤ 4) : (Value.int .u8 (a : Int)) = vb (UInt8.ofNat a) := by
  have : a = 0 ∨ a = 1 ∨ a = 2 ∨ a = 3 ∨ a = 4 := by omega
  rcases this with rfl | rfl | rfl | rfl | rfl <;> rfl
def headB (x y : Nat) : List UInt8 := [UInt8.ofNat x, UInt8.ofNat y]
set_option maxRecDepth 100000 in
set_option maxHeartbeats 2000000 in
theorem bytes_any (w : World) (x y : Nat) (v z : Value) (f : FuncId) (cv : Value) (Z : Nat → List Col) (L : List (List Col)) (hx : x ≤ 4) (hy : y ≤ 4) (hL : Tiles w v L) (hl : L.length ≤ 1000) (hz : ZeroFn w z Z L.length f cv) :
    Calls Tryz.prog 110 #[canV x y v, z] w fun e w' => ∃ v', e = .returned v' ∧ OwnB w.heap.size w' v' (headB x y ++ bodyB Z 0 L) ∧ Below w.heap.size w w' := by
  obtain ⟨a1, c1, rfl, hc1, hm1⟩ := hL.slice
  have hzv := hz.val
  subst hzv
  have hw2 : Below w.heap.size w ((w.alloc (.cells #[.int .i64 x, .int .i64 y, .slice a1 L.length c1] 50)).alloc (.cells #[.func (.func f) #[] #[cv]] 161)) := by repeat (first | assumption | exact Below.refl _ _ | refine below_dN ?_ _ | refine Below.alloc ?_ (by first | exact Nat.le_refl _ | omega | (simp; fail_if_success (focus skip)) | (simp; omega)) _ | refine Below.setCell ?_ (by first | exact Nat.le_refl _ | omega | (simp; fail_if_success (focus skip)) | (simp; omega)) _ | refine Below.drew ?_ | refine Below.trans ?_ (Below.mono (by assumption) (by first | exact Nat.le_refl _ | omega | (simp; fail_if_success (focus skip)) | (simp; omega))))
  have hpz := Blk.new (w.alloc (.cells #[.int .i64 x, .int .i64 y, .slice a1 L.length c1] 50)) #[.func (.func f) #[] #[cv]] 161
  have hs2 : ((w.alloc (.cells #[.int .i64 x, .int .i64 y, .slice a1 L.length c1] 50)).alloc (.cells #[.func (.func f) #[] #[cv]] 161)).heap.size = w.heap.size + 2 := by simp
  simp only [World.size_alloc] at hpz
  have hbx := (Blk.new w #[.int .i64 x, .int .i64 y, .slice a1 L.length c1] 50).alloc (.cells #[.func (.func f) #[] #[cv]] 161)
  obtain ⟨W2, hW2⟩ : ∃ W2, (w.alloc (.cells #[.int .i64 x, .int .i64 y, .slice a1 L.length c1] 50)).alloc (.cells #[.func (.func f) #[] #[cv]] 161) = W2 := ⟨_, rfl⟩
  rw [hW2] at hw2 hpz hs2 hbx
  obtain ⟨q1, q2, q3⟩ := hbx.all
  have hx' : IntKind.u8.wrap (x : Int) = x := by show ((x : Int) % 256) = x; omega
  have hy' : IntKind.u8.wrap (y : Int) = y := by show ((y : Int) % 256) = y; omega
  have hown : OwnB (w.heap.size + 2) (W2.alloc (.cells #[.int .u8 x, .int .u8 y] 5)) (.slice (some ⟨W2.heap.size, 0, none⟩) 2 2) (headB x y) := by
    have h := World.ownsRow_lit (base := w.heap.size + 2) (e := 5) (size := 1) W2 #[.int .u8 x, .int .u8 y] 2 (by omega) (by decide) rfl
    unfold OwnB headB
    simpa [← u8_small x hx, ← u8_small y hy] using h
  go_enter Tryz.func110, Tryz.ntmps110
  rw [hs2] at hown
  have hal : Below (w.heap.size + 2) W2 (W2.alloc (.cells #[.int .u8 x, .int .u8 y] 5)) := (Below.refl _ W2).alloc (by omega) _
  have hT2 := hL.below hw2
  have hZ2 := hz.below hw2
  go_wp2_with (go_at_call 136; refine (told_bytes W2 _ (w.heap.size + 2) (w.heap.size + 1) _ _ _ f cv Z L (headB x y) hal (by omega) (by simp; omega) hT2 hl hpz hZ2 hown (by simp [headB])).mono ?_; rintro e w' ⟨v', rfl, hv', hb⟩)
  go_ret
  exact ⟨_, rfl, ownsRow_base hv' (by omega), hw2.trans ((hal.mono (by omega)).trans (hb.mono (by omega)))⟩
theorem wq_load_blk {P : Program} {ops : Array Oper} {C : World → Prop} {Q : Act → Prop} {rest : List Oper} {a : Act} {dst : Option Tmp} {p : Operand} {lt ty t : TypeId} {pos : String} {af : Array Edge} {g : Option (Nat × Bool)} {b : Nat} {cs : Array Value} (d : TypeDesc)
    (hw : Region.wanted ⟨dst, .load lt p, ty, pos, af, g⟩ (yielded ops a.tmps) = true) (hp : a.eval p = .pointer (some ⟨b, 0, none⟩)) (hb : ∀ w, C w → Blk w b cs t)
    (hu : P.underlying lt = some d) (hd : (match d with | .struct _ | .array _ _ => true | _ => false) = true) (hi : (P.info? lt).map (·.size) = some cs.size)
    (hk : wpQuiet P ops C Q rest (a.put dst (.agg cs))) : wpQuiet P ops C Q (⟨dst, .load lt p, ty, pos, af, g⟩ :: rest) a :=
  wq_of hw (fun w hC => by
    simp only [execOp, hp, Instr.loadAt, Instr.sureAddr, Sem.run_bind, Sem.run_pure, Result.andThen_ok, run_loadVar_row w b t lt cs (0, 0) d (hb w hC) hu hd hi]) hk
/-- the bytes of a canvas -/
def canvasB (x y : Nat) (L : List (List Col)) : List UInt8 := headB x y ++ bodyB (aheadZ L) 0 L
theorem int_nat (x : Int) (h : 1 ≤ x ∧ x ≤ 4) : ∃ a : Nat, x = (a : Int) ∧ a ≤ 4 := ⟨x.toNat, by omega, by omega⟩
/-- canvas.Check in one -/
theorem check_any (x y : Int) (v : Value) (L : List (List Col)) (w : World) (hL : Tiles w v L) : 
    Calls Tryz.prog 62 #[canV x y v] w fun e w' => e = .returned (.int .i64 (if canOk x y L.length then 0 else 150)) ∧ Below w.heap.size w w' := by
  obtain ⟨a1, c1, rfl, hc1, hm1⟩ := hL.slice
  by_cases h : 1 ≤ x ∧ x ≤ 4 ∧ 1 ≤ y ∧ y ≤ 4
  · by_cases hn : (L.length : Int) = x * y
    · have e : canOk x y L.length = true := by unfold canOk; simp [h, hn]
      rw [e]; exact check_yes x y a1 L.length c1 w h.1 h.2.1 h.2.2.1 h.2.2.2 hn
    · have e : canOk x y L.length = false := by unfold canOk; simp; intros; exact hn
      rw [e]; exact check_no2 x y a1 L.length c1 w h.1 h.2.1 h.2.2.1 h.2.2.2 hn
  · have e : canOk x y L.length = false := by unfold canOk; simp; intros; exact absurd ⟨by assumption, by assumption, by assumption, by assumption⟩ h
    rw [e]; exact check_no1 x y a1 L.length c1 w h
set_option maxRecDepth 100000 in
set_option maxHeartbeats 2000000 in
theorem canvas_any (x y : Int) (v : Value) (L : List (List Col)) (w : World) (hL : Tiles w v L) (hl : L.length ≤ 1000) :
    Calls Tryz.prog 71 #[canV x y v] w fun e w' => ∃ v', e = .returned (.tuple #[v', .int .i64 (if canOk x y L.length then 0 else 150)]) ∧ OwnB w.heap.size w' v' (if canOk x y L.length then canvasB x.toNat y.toNat L else []) ∧ Below w.heap.size w w' := by
  have hL' := hL
  obtain ⟨a1, c1, rfl, hc1, hm1⟩ := hL'.slice
  cases hok : canOk x y L.length with
  | false =>
    go_enter Tryz.func71, Tryz.ntmps71
    go_wp2_with (go_at_call 62; refine (check_any x y _ L _ (hL.below ((Below.refl _ w).alloc (Nat.le_refl _) _))).mono ?_; rw [hok]; rintro e w' ⟨rfl, hb⟩)
    refine bodyPost_ret (results_tmp2 rfl _ _ _) rfl ?_
    refine ⟨_, rfl, World.ownsRow_nil _ _ _ _, ?_⟩
    repeat (first | assumption | exact Below.refl _ _ | refine below_dN ?_ _ | refine Below.alloc ?_ (by first | exact Nat.le_refl _ | omega | (simp; fail_if_success (focus skip)) | (simp; omega)) _ | refine Below.setCell ?_ (by first | exact Nat.le_refl _ | omega | (simp; fail_if_success (focus skip)) | (simp; omega)) _ | refine Below.drew ?_ | refine Below.trans ?_ (Below.mono (by assumption) (by first | exact Nat.le_refl _ | omega | (simp; fail_if_success (focus skip)) | (simp; omega))))
  | true =>
    have hxy : 1 ≤ x ∧ x ≤ 4 ∧ 1 ≤ y ∧ y ≤ 4 := by unfold canOk at hok; simp at hok; exact ⟨hok.1, hok.2.1, hok.2.2.1, hok.2.2.2.1⟩
    obtain ⟨a, rfl, ha⟩ := int_nat x ⟨hxy.1, hxy.2.1⟩
    obtain ⟨b, rfl, hb⟩ := int_nat y ⟨hxy.2.2.1, hxy.2.2.2⟩
    clear hxy
    have HOK := Lib.hid hok
    go_enter Tryz.func71, Tryz.ntmps71
    go_wp2_with (go_at_call 62; refine (check_any _ _ _ L _ (hL.below ((Below.refl _ w).alloc (Nat.le_refl _) _))).mono ?_; rw [hok]; rintro e w' ⟨rfl, hb1⟩)
    have hbx := (Blk.new w #[.int .i64 (a : Int), .int .i64 (b : Int), .slice a1 L.length c1] 50).below hb1 (by simp)
    have hB1 : Below w.heap.size w w' := by repeat (first | assumption | exact Below.refl _ _ | refine below_dN ?_ _ | refine Below.alloc ?_ (by first | exact Nat.le_refl _ | omega | (simp; fail_if_success (focus skip)) | (simp; omega)) _ | refine Below.setCell ?_ (by first | exact Nat.le_refl _ | omega | (simp; fail_if_success (focus skip)) | (simp; omega)) _ | refine Below.drew ?_ | refine Below.trans ?_ (Below.mono (by assumption) (by first | exact Nat.le_refl _ | omega | (simp; fail_if_success (focus skip)) | (simp; omega))))
    have hs1 := hb1.size
    simp only [World.size_alloc] at hs1
    have q2 : w'.cell? ⟨w.heap.size, 2, none⟩ = some (.slice a1 L.length c1) := hbx.cell 2
    clear hb1
    refine wp_region_cuts [.q [_, _, _], .e _] [_, _, _] rfl (fun w'' => Below w'.heap.size w' w'') (by kernel_rfl) (by kernel_rfl) (fun _ _ d _ _ h => by cases d <;> exact h) ?_
    refine cut_q (by (repeat (first | assumption | exact Below.refl _ _ | refine below_dN ?_ _ | refine Below.alloc ?_ (by first | exact Nat.le_refl _ | omega | (simp; fail_if_success (focus skip)) | (simp; omega)) _ | refine Below.setCell ?_ (by first | exact Nat.le_refl _ | omega | (simp; fail_if_success (focus skip)) | (simp; omega)) _ | refine Below.drew ?_ | refine Below.trans ?_ (Below.mono (by assumption) (by first | exact Nat.le_refl _ | omega | (simp; fail_if_success (focus skip)) | (simp; omega)))))) ?_
    repeat (first | go_big_quiet_step ((intros; rfl)) | quiet_step ((intros; rfl)) | (refine wq_load_blk _ rfl rfl (fun w'' hC => hbx.below hC hbx.lt) Tryz.underlying50 rfl (by kernel_rfl) ?_; simp only [Act.put, List.setIfInBounds_toArray, List.set_cons_succ, List.set_cons_zero]) | (refine wq_loadB rfl rfl (by kernel_rfl) (by assumption) ?_; simp only [Act.put, List.setIfInBounds_toArray, List.set_cons_succ, List.set_cons_zero]))
    refine wpQuiet_nil ?_
    refine cut_e ?_
    go_wp2_with (go_at_call 111; refine (ahead_any _ _ a1 L.length c1 rfl).mono ?_; rintro e w2 ⟨rfl, rfl⟩)
    refine ⟨by (repeat (first | assumption | exact Below.refl _ _ | refine below_dN ?_ _ | refine Below.alloc ?_ (by first | exact Nat.le_refl _ | omega | (simp; fail_if_success (focus skip)) | (simp; omega)) _ | refine Below.setCell ?_ (by first | exact Nat.le_refl _ | omega | (simp; fail_if_success (focus skip)) | (simp; omega)) _ | refine Below.drew ?_ | refine Below.trans ?_ (Below.mono (by assumption) (by first | exact Nat.le_refl _ | omega | (simp; fail_if_success (focus skip)) | (simp; omega))))), ?_⟩
    refine cut_end ?_
    have hB2 : Below w.heap.size w (w'.drew.alloc (.cells #[.slice a1 L.length c1] 48)) := by repeat (first | assumption | exact Below.refl _ _ | refine below_dN ?_ _ | refine Below.alloc ?_ (by first | exact Nat.le_refl _ | omega | (simp; fail_if_success (focus skip)) | (simp; omega)) _ | refine Below.setCell ?_ (by first | exact Nat.le_refl _ | omega | (simp; fail_if_success (focus skip)) | (simp; omega)) _ | refine Below.drew ?_ | refine Below.trans ?_ (Below.mono (by assumption) (by first | exact Nat.le_refl _ | omega | (simp; fail_if_success (focus skip)) | (simp; omega))))
    have hL2 := hL.below hB2
    have hz := zero_ahead (.slice a1 L.length c1) L w'.heap.size (w'.drew.alloc (.cells #[.slice a1 L.length c1] 48)) hL2 (Blk.new w'.drew _ _) hl
    go_wp2_with (go_at_call 110; refine (bytes_any _ a b _ _ _ _ (aheadZ L) L ha hb hL2 hl hz).mono ?_; rintro e w3 ⟨v3, rfl, hv3, hb3⟩)
    refine bodyPost_ret (results_tmp2 rfl _ _ _) rfl ?_
    refine ⟨_, rfl, ?_, hB2.trans (hb3.mono (by simp; omega))⟩
    exact ownsRow_base hv3 (by simp; omega)
end Go.Proofs.YtkjpcjccddggoaaGreat

namespace Go.Proofs.YtkjpcjccddggoaaGreat
set_option maxRecDepth 20000
theorem read_own (l : List UInt8) (U : List Col) (n : Nat) (h : readTile l = some (U, n)) : (enc U).length = n ∧ n ≤ l.length ∧ l.take n = enc U := by
  rw [read_ref] at h
  obtain ⟨⟨U', k⟩, _, hp⟩ := Option.bind_eq_some_iff.1 h
  split at hp
  · rename_i hh
    simp only [Option.some.injEq, Prod.mk.injEq] at hp
    obtain ⟨rfl, rfl⟩ := hp
    obtain ⟨h1, h2⟩ := hh
    simp only at h1 h2
    refine ⟨h1, ?_, ?_⟩
    · rw [← h1]; exact h2.length_le
    · rw [← h1]; exact (List.prefix_iff_eq_take.1 h2).symm
  · cases hp
end Go.Proofs.YtkjpcjccddggoaaGreat

namespace Go.Proofs.YtkjpcjccddggoaaGreat
set_option maxRecDepth 20000
open Go.RowKit
theorem fill_tile1 (T : List Col) (hT : T.length = 64) (cells : Array Value) (hc : cells.size = 256) : Instr.fill (fun i => some (i * 256, 256)) cells [(0, tileV T)] = some (tcells T) := by
  have hz : (tcells T).size = 256 := by rw [tcells_size, hT]
  obtain ⟨r, hr, hs, hk⟩ := Great.fill_dense (s := 256) (by decide) [tileV T] 0 cells (by intro v hv; rw [List.mem_singleton] at hv; rw [hv]; exact hz) (by simp [hc])
  rw [show ([tileV T].zipIdx 0).map (fun x => (x.2, x.1)) = [(0, tileV T)] from rfl] at hr
  rw [hr]
  congr 1
  apply Array.ext_getElem?
  intro k
  rw [hk k]
  by_cases h : k < 256
  · rw [if_pos ⟨by omega, by simpa using h⟩, Nat.div_eq_of_lt h, Nat.mod_eq_of_lt h]
    rfl
  · rw [if_neg (by simp; omega), Array.getElem?_eq_none (by omega), Array.getElem?_eq_none (by omega)]
theorem run_buildSlice_tile (T : List Col) (hT : T.length = 64) (w : World) :
    (Instr.buildSlice 48 1 #[(0, tileV T)]).run Tryz.prog w = .ok (.slice (some ⟨w.heap.size, 0, none⟩) 1 1) (w.alloc (.cells (tcells T) 109)) := by
  have hi := tile_hi
  cases hq' : Tryz.prog.info? 109 with
  | none => simp [hq'] at hi
  | some i =>
    have hs : i.size = 256 := by simpa [hq'] using hi
    have hu : Tryz.prog.underlying 48 = some (.slice 109) := Tryz.underlying48
    have hso : (sizeOf 109).run Tryz.prog w = .ok 256 w := by simp [sizeOf, typeInfo, hq', hs]
    have hz : ((tileV noTile).cells).size = 256 := by kernel_rfl
    unfold Instr.buildSlice
    simp only [Sem.run_bind, run_underlying hu w, Result.andThen_ok, hso, Nat.one_mul]
    simp [fill_tile1 T hT, newRow]
theorem wl_buildSlice_tile {ops : Array Oper} {Q : Exit → Act → World → Prop} {rest : List Oper} {a : Act} {w : World} {dst : Option Tmp} {p : Operand} {ty : TypeId} {pos : String} {af : Array Edge} {g : Option (Nat × Bool)} {T : List Col}
    (hw : Region.wanted ⟨dst, .buildSlice 48 1 #[(0, p)], ty, pos, af, g⟩ (yielded ops a.tmps) = true) (hp : a.eval p = tileV T) (hT : T.length = 64)
    (hk : wpList Tryz.prog ops Q rest (a.put dst (.slice (some ⟨w.heap.size, 0, none⟩) 1 1)) (w.alloc (.cells (tcells T) 109))) : wpList Tryz.prog ops Q (⟨dst, .buildSlice 48 1 #[(0, p)], ty, pos, af, g⟩ :: rest) a w :=
  wl_of hw (by
    have h := run_buildSlice_tile T hT w
    simp only [execOp, List.map_toArray, List.map_cons, List.map_nil, hp, Sem.run_bind, h, Result.andThen_ok, Sem.run_pure]) hk
end Go.Proofs.YtkjpcjccddggoaaGreat
