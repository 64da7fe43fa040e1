/- runs.Patch. -/
import Derived.Test.YtneajhldmecllaaRunsCanvas
namespace Go.Proofs.Ytneajhldmecllaa
open Go.RowKit

/-- the zero of a place in a patch: the old canvas's tile -/
def oldZ (A : List (List Col)) (i : Nat) : List Col := A.getD i noTile

set_option maxRecDepth 100000 in
set_option maxHeartbeats 2000000 in
theorem patch1_any (x y : Int) (v : Value) (A : List (List Col)) (pc i : Nat) (w : World) (hL : Tiles w v A) (hpc : Blk w pc #[.int .i64 x, .int .i64 y, v] 43) (hi : i < A.length) :
    Calls Try.prog 50 #[.int .i64 i, .pointer (some ⟨pc, 0, none⟩)] w fun e w' => e = .returned (tileV (oldZ A i)) ∧ Below w.heap.size w w' := by
  obtain ⟨a1, c1, rfl, hc1, hm1⟩ := hL.slice
  have n0 := Blk.new w (tcells noTile) 29
  obtain ⟨b1, o1, rfl, e1, x1⟩ := hL.get i hi
  have hcc := (hpc.alloc (.cells (tcells noTile) 29)).cell 2
  simp only [List.getElem?_toArray, List.getElem?_cons_zero, List.getElem?_cons_succ] at hcc
  have t1 : A[i].length = 64 := hL.1 _ (by simp)
  have e : oldZ A i = A[i] := by unfold oldZ; rw [List.getD_eq_getElem?_getD, List.getElem?_eq_getElem hi]; rfl
  have e1' := e1.below ((Below.refl _ w).alloc (Nat.le_refl _) (.cells (tcells noTile) 29)) x1
  rw [e]
  clear e e1
  go_enter Try.func50, Try.ntmps50
  go_wp2_with (first | refine wl_alloc_tile rfl ?_ | refine wl_load_tile rfl rfl t1 e1' ?_ | refine wl_store_tile rfl rfl rfl n0 (by rfl) t1 ?_)
  refine bodyPost_ret (results_tile1 (p := 3) (by kernel_rfl) _ _ w.heap.size A[i] t1 rfl (Blk.tileAt (b := w.heap.size) (t := 29) (n0.setRow))) rfl ?_
  exact ⟨rfl, below_row (by (repeat (first | assumption | exact Below.refl _ _ | refine below_dN ?_ _ | refine Below.alloc ?_ (by first | exact Nat.le_refl _ | omega | (simp; done) | (simp; omega)) _ | refine Below.setCell ?_ (by first | exact Nat.le_refl _ | omega | (simp; done) | (simp; omega)) _ | refine Below.drew ?_ | refine Below.trans ?_ (Below.mono (by assumption) (by first | exact Nat.le_refl _ | omega | (simp; done) | (simp; omega)))))) _ (Nat.le_refl _) _⟩

theorem zero_patch (x y : Int) (v : Value) (A : List (List Col)) (pc n : Nat) (w : World) (hL : Tiles w v A) (hpc : Blk w pc #[.int .i64 x, .int .i64 y, v] 43) (hn : n ≤ A.length) :
    ZeroFn w (.func (.func 50) #[] #[.pointer (some ⟨pc, 0, none⟩)]) (oldZ A) n 50 (.pointer (some ⟨pc, 0, none⟩)) where
  val := rfl
  enters := fun i w => by kernel_rfl
  len := fun i hi => by
    unfold oldZ
    rw [List.getD_eq_getElem?_getD, List.getElem?_eq_getElem (by omega)]; exact hL.1 _ (by simp)
  tells := fun w' hb i hi => patch1_any x y v A pc i w' (hL.below hb) (hpc.below hb hpc.lt) (by omega)

def patchB (x y : Nat) (A B : List (List Col)) : List UInt8 := headB x y ++ bodyB (oldZ A) 0 B

/-- how a patch ends -/
def patchNo (x y x' y' : Int) (n n' : Nat) : Int := if (canOk x y n && canOk x' y' n') then (if x = x' ∧ y = y' then 0 else 2) else 150

set_option maxRecDepth 100000 in
set_option maxHeartbeats 2000000 in
theorem patch_any (x y x' y' : Int) (v v' : Value) (A B : List (List Col)) (w : World) (hA : Tiles w v A) (hB : Tiles w v' B) (hl' : B.length ≤ 1000) :
    Calls Try.prog 23 #[canV x y v, canV x' y' v'] w fun e w' => ∃ u, e = .returned (.tuple #[u, .int .i64 (patchNo x y x' y' A.length B.length)]) ∧ OwnB w.heap.size w' u (if patchNo x y x' y' A.length B.length = 0 then patchB x.toNat y.toNat A B else []) ∧ Below w.heap.size w w' := by
  have hA' := hA
  have hB' := hB
  obtain ⟨a1, c1, rfl, hc1, hm1⟩ := hA'.slice
  obtain ⟨a2, c2, rfl, hc2, hm2⟩ := hB'.slice
  have hB2 : Below w.heap.size w ((w.alloc (.cells #[.int .i64 x, .int .i64 y, .slice a1 A.length c1] 43)).alloc (.cells #[.int .i64 x', .int .i64 y', .slice a2 B.length c2] 43)) := by repeat (first | assumption | exact Below.refl _ _ | refine below_dN ?_ _ | refine Below.alloc ?_ (by first | exact Nat.le_refl _ | omega | (simp; done) | (simp; omega)) _ | refine Below.setCell ?_ (by first | exact Nat.le_refl _ | omega | (simp; done) | (simp; omega)) _ | refine Below.drew ?_ | refine Below.trans ?_ (Below.mono (by assumption) (by first | exact Nat.le_refl _ | omega | (simp; done) | (simp; omega))))
  have k0 := (Blk.new w #[.int .i64 x, .int .i64 y, .slice a1 A.length c1] 43).alloc (.cells #[.int .i64 x', .int .i64 y', .slice a2 B.length c2] 43)
  have k1 := Blk.new (w.alloc (.cells #[.int .i64 x, .int .i64 y, .slice a1 A.length c1] 43)) #[.int .i64 x', .int .i64 y', .slice a2 B.length c2] 43
  simp only [World.size_alloc] at k1
  have hA2 := hA.below hB2
  have hT2 := hB.below hB2
  have hs2 : ((w.alloc (.cells #[.int .i64 x, .int .i64 y, .slice a1 A.length c1] 43)).alloc (.cells #[.int .i64 x', .int .i64 y', .slice a2 B.length c2] 43)).heap.size = w.heap.size + 2 := by simp
  obtain ⟨W2, hW2⟩ : ∃ W2, (w.alloc (.cells #[.int .i64 x, .int .i64 y, .slice a1 A.length c1] 43)).alloc (.cells #[.int .i64 x', .int .i64 y', .slice a2 B.length c2] 43) = W2 := ⟨_, rfl⟩
  rw [hW2] at hA2 hT2 hs2 k0 k1 hB2
  obtain ⟨p1, p2, p3⟩ := k0.all
  obtain ⟨r1, r2, r3⟩ := k1.all
  cases hok : canOk x y A.length with
  | false =>
    have hno : patchNo x y x' y' A.length B.length = 150 := by unfold patchNo; rw [hok]; rfl
    rw [hno]
    go_enter Try.func23, Try.ntmps23
    go_wp2_with (go_at_call 40; with_reducible refine (check_any x y _ A _ hA2).mono ?_; rw [hok]; rintro e w' ⟨rfl, hb⟩)
    refine bodyPost_ret (results_tmp2 rfl _ _ _) rfl ?_
    exact ⟨_, rfl, World.ownsRow_nil _ _ _ _, hB2.trans (hb.mono (by omega))⟩
  | true =>
    cases hok2 : canOk x' y' B.length with
    | false =>
      have hno : patchNo x y x' y' A.length B.length = 150 := by unfold patchNo; rw [hok, hok2]; rfl
      rw [hno]
      have HH := Lib.hid hok
      go_enter Try.func23, Try.ntmps23
      go_wp2_with (first | (go_at_call 40; with_reducible refine (check_any x y _ A _ hA2).mono ?_; rw [hok]; rintro e w' ⟨rfl, hb⟩; have j1 := k1.below hb k1.lt; obtain ⟨y1, y2, y3⟩ := j1.all) | (go_at_call 40; with_reducible refine (check_any x' y' _ B _ (hT2.below hb)).mono ?_; rw [hok2]; rintro e w'' ⟨rfl, hb3⟩))
      refine bodyPost_ret (results_tmp2 rfl _ _ _) rfl ?_
      exact ⟨_, rfl, World.ownsRow_nil _ _ _ _, (hB2.trans (hb.mono (by omega))).trans (hb3.mono (by have := hb.size; omega))⟩
    | true =>
      by_cases hxy : x = x' ∧ y = y'
      · obtain ⟨rfl, rfl⟩ := hxy
        have hno : patchNo x y x y A.length B.length = 0 := by unfold patchNo; rw [hok, hok2]; simp
        rw [hno]
        have hr : 1 ≤ x ∧ x ≤ 4 ∧ 1 ≤ y ∧ y ≤ 4 := by unfold canOk at hok; simp at hok; exact ⟨hok.1, hok.2.1, hok.2.2.1, hok.2.2.2.1⟩
        have hlen : Hid (B.length ≤ A.length) := by
          refine Lib.hid ?_
          unfold canOk at hok hok2
          simp at hok hok2
          omega
        obtain ⟨a, rfl, ha⟩ := int_nat x ⟨hr.1, hr.2.1⟩
        obtain ⟨b, rfl, hb4⟩ := int_nat y ⟨hr.2.2.1, hr.2.2.2⟩
        clear hr
        have HOK := Lib.hid hok
        go_enter Try.func23, Try.ntmps23
        go_wp2_with (first | (go_at_call 40; with_reducible refine (check_any a b _ A _ hA2).mono ?_; rw [hok]; rintro e w' ⟨rfl, hb⟩; have j1 := k1.below hb k1.lt; obtain ⟨y1, y2, y3⟩ := j1.all) | (go_at_call 40; with_reducible refine (check_any a b _ B _ (hT2.below hb)).mono ?_; rw [hok2]; rintro e w'' ⟨rfl, hb3⟩; have j2 := j1.below hb3 j1.lt; obtain ⟨z1, z2, z3⟩ := j2.all; have j3 := (k0.below hb k0.lt).below hb3 (Nat.lt_of_lt_of_le k0.lt hb.size); obtain ⟨t1, t2, t3⟩ := j3.all) | (go_at_call 41; refine (bytes_any _ a b _ _ _ _ (oldZ A) B ha hb4 ((hT2.below hb).below (hb3.mono (by omega))) hl' (zero_patch a b _ A w.heap.size B.length _ ((hA2.below hb).below (hb3.mono (by omega))) j3 hlen.out)).mono ?_; rintro e w3 ⟨v3, rfl, hv3, hb5⟩))
        refine bodyPost_ret (results_tmp2 rfl _ _ _) rfl ?_
        have h1 := hb.size
        have h2 := hb3.size
        exact ⟨_, rfl, ownsRow_base hv3 (by omega), ((hB2.trans (hb.mono (by omega))).trans (hb3.mono (by omega))).trans (hb5.mono (by omega))⟩
      · have hno : patchNo x y x' y' A.length B.length = 2 := by unfold patchNo; rw [hok, hok2]; simp; exact fun h1 h2 => hxy ⟨h1, h2⟩
        rw [hno]
        by_cases hx : x = x'
        · have hqx : (x != x') = false := by simp [hx]
          have hqy : (y != y') = true := by simp; exact fun h => hxy ⟨hx, h⟩
          clear hxy hx
          go_enter Try.func23, Try.ntmps23
          go_wp2_with (first | (go_at_call 40; with_reducible refine (check_any x y _ A _ hA2).mono ?_; rw [hok]; rintro e w' ⟨rfl, hb⟩; have j1 := k1.below hb k1.lt; obtain ⟨y1, y2, y3⟩ := j1.all) | (go_at_call 40; with_reducible refine (check_any x' y' _ B _ (hT2.below hb)).mono ?_; rw [hok2]; rintro e w'' ⟨rfl, hb3⟩; have j2 := j1.below hb3 j1.lt; obtain ⟨z1, z2, z3⟩ := j2.all; have j3 := (k0.below hb k0.lt).below hb3 (Nat.lt_of_lt_of_le k0.lt hb.size); obtain ⟨t1, t2, t3⟩ := j3.all))
          refine bodyPost_ret (results_tmp2 rfl _ _ _) rfl ?_
          have h1 := hb.size
          exact ⟨_, rfl, World.ownsRow_nil _ _ _ _, (hB2.trans (hb.mono (by omega))).trans (hb3.mono (by omega))⟩
        · have hqx : (x != x') = true := by simp [hx]
          clear hxy hx
          go_enter Try.func23, Try.ntmps23
          go_wp2_with (first | (go_at_call 40; with_reducible refine (check_any x y _ A _ hA2).mono ?_; rw [hok]; rintro e w' ⟨rfl, hb⟩; have j1 := k1.below hb k1.lt; obtain ⟨y1, y2, y3⟩ := j1.all) | (go_at_call 40; with_reducible refine (check_any x' y' _ B _ (hT2.below hb)).mono ?_; rw [hok2]; rintro e w'' ⟨rfl, hb3⟩; have j2 := j1.below hb3 j1.lt; obtain ⟨z1, z2, z3⟩ := j2.all; have j3 := (k0.below hb k0.lt).below hb3 (Nat.lt_of_lt_of_le k0.lt hb.size); obtain ⟨t1, t2, t3⟩ := j3.all))
          refine bodyPost_ret (results_tmp2 rfl _ _ _) rfl ?_
          have h1 := hb.size
          exact ⟨_, rfl, World.ownsRow_nil _ _ _ _, (hB2.trans (hb.mono (by omega))).trans (hb3.mono (by omega))⟩

end Go.Proofs.Ytneajhldmecllaa
