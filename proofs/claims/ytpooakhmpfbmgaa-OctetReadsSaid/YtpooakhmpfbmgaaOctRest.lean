/- gessoref01.Rest: Take, Number, Part. gessoref01.Rest: Number, Part. gessoref01.Rest: Part. -/
import Derived.Test.YtpooakhmpfbmgaaOctAny
import Derived.Test.YtpooakhmpfbmgaaRow
import Derived.Test.YtpooakhmpfbmgaaRGW
namespace Go.Proofs.Ytpooakhmpfbmgaa
open Go.RowKit

theorem sz_byte (w : World) : (sizeOf (Try.prog.elem 22)).run Try.prog w = .ok 1 w := by kernel_rfl
theorem ht_byte : Try.prog.underlying 22 = some (.slice (Try.prog.elem 22)) := by kernel_rfl
theorem Bytes.cutT {W : World} {ad a' : Option Addr} {n c k c' : Nat} {l : List UInt8} (hU : ∀ (W : World) (cs : List Value), IsSl W (.slice ad n c) n cs → cs.length = n → IsSl W (.slice a' k c') k (cs.take k)) (h : Bytes W (.slice ad n c) l) (hk : k ≤ l.length) : Bytes W (.slice a' k c') (l.take k) := by
  obtain rfl := h.at
  have := hU W _ h (by simp)
  unfold Bytes
  rw [List.length_take, Nat.min_eq_left hk, List.map_take]
  exact this
abbrev restV (v : Value) (f : Int) : Value := .agg #[v, .int .i64 f]
theorem rest_hi : (Try.prog.info? 68).map (·.size) = some 2 := by kernel_rfl
theorem results_rest2 {fn : Func} {p u : Tmp} (h : fn.results = #[.cell p 68, .tmp u]) (tmps : Array Value) (w : World) (b : Nat) (t : TypeId) (x y : Value) (hp : tmps.getD p undef = .pointer (some ⟨b, 0, none⟩)) (hb : Blk w b #[x, y] t) :
    (results fn tmps).run Try.prog w = .ok (.tuple #[.agg #[x, y], tmps.getD u undef]) w := by
  have hp' : tmps[p]?.getD undef = .pointer (some ⟨b, 0, none⟩) := by simpa using hp
  have hl := run_loadVar_row (P := Try.prog) w b t 68 #[x, y] (0, 0) _ hb Try.underlying68 rfl rest_hi
  simp [results, h, hp', asAddr, hl]

/-- what the reference's reading of bytes leaves -/
def RestB (w w' : World) (e : Ending) (v : Value) (l : List UInt8) (r : RSt × List UInt8) : Prop := ∃ a c a2 c2, e = .returned (.tuple #[restV (.slice a r.1.1.length c) r.1.2, .slice a2 r.2.length c2]) ∧ (∀ W, Bytes W v l → Bytes W (.slice a r.1.1.length c) r.1.1 ∧ Bytes W (.slice a2 r.2.length c2) r.2) ∧ Below w.heap.size w w'

set_option maxRecDepth 100000 in
set_option maxHeartbeats 1000000 in
theorem rtake_any (v : Value) (s : RSt) (x : Int) (w : World) (h : Bytes w v s.1) :
    Calls Try.prog 39 #[restV v s.2, .int .i64 x] w fun e w' => RestB w w' e v s.1 (rdTake s x) := by
  obtain ⟨l, f⟩ := s
  simp only at h ⊢
  obtain ⟨a, c, rfl, hc, hm⟩ := IsSl.shape h
  have hB := Below.upA (Below.new w (.cells #[.slice a l.length c, .int .i64 f] 68)) (.cells #[.slice none 0 0, .int .i64 0] 68)
  have b2 := (Blk.new w #[.slice a l.length c, .int .i64 f] 68).alloc (.cells #[.slice none 0 0, .int .i64 0] 68)
  have b4 := Blk.new (w.alloc (.cells #[.slice a l.length c, .int .i64 f] 68)) #[.slice none 0 0, .int .i64 0] 68
  simp only [World.size_alloc] at b4
  have h' := h.below hB
  obtain ⟨S, hS⟩ : ∃ S, rdTake (l, f) x = S := ⟨_, rfl⟩
  rw [hS]
  unfold rdTake at hS
  simp only at hS
  have k4 := Blk.new (w.alloc (.cells #[.slice a l.length c, .int .i64 f] 68)) #[.slice a l.length c, .int .i64 f] 68
  simp only [World.size_alloc] at k4
  by_cases hf : f = 0
  · subst hf
    rw [if_pos rfl] at hS
    by_cases hn0 : x < 0
    · have hq : decide (x < 0) = true := by simp [hn0]
      rw [if_neg (by unfold frontNo; rw [if_pos hn0]; decide)] at hS
      have hfn : frontNo x l.length = 2 := by unfold frontNo; rw [if_pos hn0]
      rw [hfn] at hS
      subst hS
      have k5 := Blk.new (w.alloc (.cells #[.slice a l.length c, .int .i64 0] 68)) #[.slice a l.length c, .int .i64 2] 68
      simp only [World.size_alloc] at k5
      clear hn0 hfn
      unfold restV
      go_enter Try.func39, Try.ntmps39
      go_wp2
      refine bodyPost_ret (results_rest2 (p := 4) (u := 5) (by kernel_rfl) _ _ (w.heap.size + 1) 68 (.slice a l.length c) (.int .i64 2) rfl k5) rfl ?_
      exact ⟨a, c, none, 0, rfl, fun W hW => ⟨hW, IsSl.nil _⟩, by (repeat (first | assumption | exact Below.refl _ _ | refine below_dN ?_ _ | refine Below.alloc ?_ (by first | exact Nat.le_refl _ | omega | (simp; done) | (simp; omega)) _ | refine Below.setCell ?_ (by first | exact Nat.le_refl _ | omega | (simp; done) | (simp; omega)) _ | refine Below.drew ?_ | refine Below.trans ?_ (Below.mono (by assumption) (by first | exact Nat.le_refl _ | omega | (simp; done) | (simp; omega)))))⟩
    · have hq : decide (x < 0) = false := by simp; omega
      obtain ⟨n, rfl⟩ : ∃ n : Nat, x = n := ⟨x.toNat, by omega⟩
      by_cases hnl : l.length < n
      · have hq2 : decide (l.length < n) = true := by simp [hnl]
        have hfn : frontNo n l.length = 110 := by unfold frontNo; rw [if_neg (by omega), if_pos (by omega)]
        rw [hfn, if_neg (by decide)] at hS
        subst hS
        have k5 := Blk.new (w.alloc (.cells #[.slice a l.length c, .int .i64 0] 68)) #[.slice a l.length c, .int .i64 110] 68
        simp only [World.size_alloc] at k5
        clear hn0 hfn
        unfold restV
        go_enter Try.func39, Try.ntmps39
        go_wp2
        refine bodyPost_ret (results_rest2 (p := 4) (u := 5) (by kernel_rfl) _ _ (w.heap.size + 1) 68 (.slice a l.length c) (.int .i64 110) rfl k5) rfl ?_
        exact ⟨a, c, none, 0, rfl, fun W hW => ⟨hW, IsSl.nil _⟩, by (repeat (first | assumption | exact Below.refl _ _ | refine below_dN ?_ _ | refine Below.alloc ?_ (by first | exact Nat.le_refl _ | omega | (simp; done) | (simp; omega)) _ | refine Below.setCell ?_ (by first | exact Nat.le_refl _ | omega | (simp; done) | (simp; omega)) _ | refine Below.drew ?_ | refine Below.trans ?_ (Below.mono (by assumption) (by first | exact Nat.le_refl _ | omega | (simp; done) | (simp; omega)))))⟩
      · have hq2 : decide (l.length < n) = false := by simp; omega
        have hfn : frontNo n l.length = 0 := by unfold frontNo; rw [if_neg (by omega), if_neg (by omega)]
        rw [hfn, if_pos rfl, Int.toNat_natCast] at hS
        subst hS
        clear hn0 hfn
        unfold restV
        go_enter Try.func39, Try.ntmps39
        go_upto_region 7 with fail
        obtain ⟨W4, hW4⟩ : ∃ W4, (w.alloc (.cells #[.slice a l.length c, .int .i64 0] 68)).alloc (.cells #[.slice none 0 0, .int .i64 0] 68) = W4 := ⟨_, rfl⟩
        rw [hW4] at hB b2 b4 h' ⊢
        clear hW4 k4
        refine wp_region_cuts [.q [_, _, _, _, _, _, _, _, _], .e _] [_] rfl (fun w'' => Blk w'' w.heap.size #[.slice a l.length c, .int .i64 0] 68 ∧ Below w.heap.size w w'') (by kernel_rfl) (by kernel_rfl) (fun _ _ d _ _ h => by cases d <;> exact h) ?_
        refine cut_q ⟨b2.drew, hB.drew⟩ ?_
        repeat (first | ((first | refine wq_load1 rfl rfl (by kernel_rfl) (fun _ h => h.1.cell 0) ?_ | (refine wq_slice_lU W4 n rfl rfl rfl h' (by omega) ?_; intro a' c' hU) | (refine wq_slice_hT n ht_byte sz_byte rfl rfl rfl (by omega) hc ?_; intro sa sc hU2)); simp only [Act.put, List.setIfInBounds_toArray, List.set_cons_succ, List.set_cons_zero]) | go_big_quiet_step ((intros; rfl)) | quiet_step ((intros; rfl)) | (refine wq_loadB rfl rfl (by kernel_rfl) (by assumption) ?_; simp only [Act.put, List.setIfInBounds_toArray, List.set_cons_succ, List.set_cons_zero]))
        refine wpQuiet_nil ?_
        have b4d := b4.drew
        refine cut_e ?_
        go_wp2_with (refine wl_store_row rfl rfl rfl b4d rest_hi rfl (by simp [Value.oneCell']) ?_)
        refine ⟨⟨b2.drew.setRowO _ (by omega), below_setRow hB.drew (by omega) _⟩, ?_⟩
        refine cut_end ?_
        go_wp2
        have hBe := below_setRow hB.drew (g := w.heap.size + 1) (by omega) #[.slice a' (l.length - n) c', .int .i64 0]
        refine bodyPost_ret (results_rest2 (p := 4) (u := 5) (by kernel_rfl) _ _ (w.heap.size + 1) 68 (.slice a' (l.length - n) c') (.int .i64 0) rfl (b4d.setRow _)) rfl ?_
        have e1 : (l.drop n).length = l.length - n := List.length_drop
        have e2 : (l.take n).length = n := by rw [List.length_take, Nat.min_eq_left (by omega)]
        refine ⟨a', c', sa, sc, ?_, fun W hW => ⟨?_, ?_⟩, hBe⟩
        · rw [e1, e2]; rfl
        · rw [e1]; exact hU _ hW
        · rw [e2]; exact Bytes.cutT hU2 hW (by omega)
  · rw [if_neg hf] at hS
    subst hS
    have hq : (f != 0) = true := by simpa using hf
    clear hf
    unfold restV
    go_enter Try.func39, Try.ntmps39
    go_wp2
    refine bodyPost_ret (results_rest2 (p := 4) (u := 5) (by kernel_rfl) _ _ (w.heap.size + 1) 68 (.slice a l.length c) (.int .i64 f) rfl k4) rfl ?_
    exact ⟨a, c, none, 0, rfl, fun W hW => ⟨hW, IsSl.nil _⟩, by (repeat (first | assumption | exact Below.refl _ _ | refine below_dN ?_ _ | refine Below.alloc ?_ (by first | exact Nat.le_refl _ | omega | (simp; done) | (simp; omega)) _ | refine Below.setCell ?_ (by first | exact Nat.le_refl _ | omega | (simp; done) | (simp; omega)) _ | refine Below.drew ?_ | refine Below.trans ?_ (Below.mono (by assumption) (by first | exact Nat.le_refl _ | omega | (simp; done) | (simp; omega)))))⟩

end Go.Proofs.Ytpooakhmpfbmgaa
namespace Go.Proofs.Ytpooakhmpfbmgaa
open Go.RowKit

theorem rdNum_take (s : RSt) (x : Int) (h : s.2 = 0 → okW x = true) : rdNum s x = ((rdTake s x).1, numB (rdTake s x).2) := by
  unfold rdNum rdTake
  by_cases hf : s.2 = 0
  · rw [if_pos hf, if_pos hf]
    have hn : numNo x s.1.length = frontNo x s.1.length := by unfold numNo; rw [h hf, if_pos rfl]
    rw [hn]
    split
    · rfl
    · rfl
  · rw [if_neg hf, if_neg hf]
    rfl
theorem rdTake_len (s : RSt) (x : Int) (h : s.2 = 0 → okW x = true) : (rdTake s x).2.length ≤ 8 := by
  unfold rdTake
  by_cases hf : s.2 = 0
  · rw [if_pos hf]
    split
    · obtain ⟨k, rfl, g1, g2⟩ := okW_nat (h hf)
      simp; omega
    · simp
  · rw [if_neg hf]
    simp

/-- bytes lie in no variable of the reference's -/
theorem Bytes.setRest {w : World} {v : Value} {l : List UInt8} {b : Nat} {a : Option Addr} {n c : Nat} {f : Int} {t : TypeId} (h : Bytes w v l) (hb : Blk w b #[.slice a n c, .int .i64 f] t) (cs : Array Value) : Bytes (w.setRow b cs) v l := by
  obtain ⟨a', c', h1, h2, h3, h4, h5⟩ := h
  refine ⟨a', c', h1, h2, h3, h4, fun j u hu => ?_⟩
  obtain ⟨p, o, rfl, hc⟩ := h5 j u hu
  refine ⟨p, o, rfl, ?_⟩
  by_cases e : p = b
  · subst e
    rw [hb.cell] at hc
    rw [List.getElem?_map, Option.map_eq_some_iff] at hu
    obtain ⟨x, _, rfl⟩ := hu
    generalize o + j = q at hc
    match q with
    | 0 => simp at hc
    | 1 => simp [vb] at hc
    | q + 2 => simp at hc
  · exact (World.cell?_of_block (a := ⟨p, o + j, none⟩) (setRow_other _ _ _ _ e)).trans hc

/-- what the reference's reading of a number leaves -/
def RestN (w w' : World) (e : Ending) (v : Value) (l : List UInt8) (r : RSt × Nat) : Prop := ∃ a c, e = .returned (.tuple #[restV (.slice a r.1.1.length c) r.1.2, .int .u64 r.2]) ∧ (∀ W, Bytes W v l → Bytes W (.slice a r.1.1.length c) r.1.1) ∧ Below w.heap.size w w'

set_option maxRecDepth 100000 in
set_option maxHeartbeats 2000000 in
theorem rrnum_any (v : Value) (s : RSt) (x : Int) (w : World) (h : Bytes w v s.1) :
    Calls Try.prog 37 #[restV v s.2, .int .i64 x] w fun e w' => RestN w w' e v s.1 (rdNum s x) := by
  obtain ⟨l, f⟩ := s
  simp only at h ⊢
  obtain ⟨a, c, rfl, hc, hm⟩ := IsSl.shape h
  have hB := Below.upA (Below.new w (.cells #[.slice a l.length c, .int .i64 f] 68)) (.cells #[.slice none 0 0, .int .i64 0] 68)
  have b2 := (Blk.new w #[.slice a l.length c, .int .i64 f] 68).alloc (.cells #[.slice none 0 0, .int .i64 0] 68)
  have b4 := Blk.new (w.alloc (.cells #[.slice a l.length c, .int .i64 f] 68)) #[.slice none 0 0, .int .i64 0] 68
  simp only [World.size_alloc] at b4
  have h' := h.below hB
  by_cases hcase : f = 0 ∧ okW x = false
  · obtain ⟨rfl, hx⟩ := hcase
    have hS : rdNum (l, 0) x = ((l, 111), 0) := by
      unfold rdNum numNo
      rw [hx]
      rfl
    rw [hS]
    have k5 := Blk.new (w.alloc (.cells #[.slice a l.length c, .int .i64 0] 68)) #[.slice a l.length c, .int .i64 111] 68
    simp only [World.size_alloc] at k5
    have hwid := fun w => c_width x false w hx
    clear hx hS
    unfold restV
    go_enter Try.func37, Try.ntmps37
    go_wp2_with fail
    refine (hwid _).mono ?_
    rintro e W1 ⟨rfl, rfl⟩
    clear hwid
    go_wp2
    refine bodyPost_ret (results_rest2 (p := 4) (u := 5) (by kernel_rfl) _ _ (w.heap.size + 1) 68 (.slice a l.length c) (.int .i64 111) rfl k5) rfl ?_
    exact ⟨a, c, rfl, fun W hW => hW, by (repeat (first | assumption | exact Below.refl _ _ | refine below_dN ?_ _ | refine Below.alloc ?_ (by first | exact Nat.le_refl _ | omega | (simp; done) | (simp; omega)) _ | refine Below.setCell ?_ (by first | exact Nat.le_refl _ | omega | (simp; done) | (simp; omega)) _ | refine Below.drew ?_ | refine Below.trans ?_ (Below.mono (by assumption) (by first | exact Nat.le_refl _ | omega | (simp; done) | (simp; omega)))))⟩
  · have hok : f = 0 → okW x = true := fun hf => by
      cases hx : okW x with
      | true => rfl
      | false => exact absurd ⟨hf, hx⟩ hcase
    have hS := rdNum_take (l, f) x hok
    have hlen := rdTake_len (l, f) x hok
    have htake := fun w h => rtake_any (.slice a l.length c) (l, f) x w h
    simp only at htake
    obtain ⟨⟨⟨l', f'⟩, bs⟩, hS2⟩ : ∃ r, rdTake (l, f) x = r := ⟨_, rfl⟩
    rw [hS2] at hS htake hlen
    rw [hS]
    have HS2 := Lib.hid hS2
    have HLEN := Lib.hid hlen
    clear hS hcase hS2 hlen
    simp only [RestB] at htake
    by_cases hf : f = 0
    · subst hf
      have hwid := fun w => c_width x true w (hok rfl)
      clear hok
      unfold restV
      go_enter Try.func37, Try.ntmps37
      go_wp2_with fail
      refine (hwid _).mono ?_
      rintro e W1 ⟨rfl, rfl⟩
      clear hwid
      go_wp2_with fail
      refine (htake _ (h')).mono ?_
      rintro e W5 ⟨sa, sc, ta, tc, rfl, hM, B5⟩
      have ht := (hM W5 ((h').below B5)).2
      clear htake
      have u5 := Below.up hB B5
      have k4 := b4.up B5
      have k6 := Blk.new W5 #[.slice sa l'.length sc, .int .i64 f'] 68
      go_upto_region 4 with fail
      have hB6 := Below.new W5 (.cells #[.slice sa l'.length sc, .int .i64 f'] 68)
      have u6 := Below.up u5 hB6
      have k4' := k4.up hB6
      have ht' := ht.below hB6
      obtain ⟨p6, hp6⟩ : ∃ p6, W5.heap.size = p6 := ⟨_, rfl⟩
      obtain ⟨W6, hW6⟩ : ∃ W6, W5.alloc (.cells #[.slice sa l'.length sc, .int .i64 f'] 68) = W6 := ⟨_, rfl⟩
      rw [hW6] at k6 hB6 u6 k4' ht' ⊢
      rw [hp6] at k6 ⊢
      clear hW6 hp6 hB6 k4 ht u5 B5
      refine wp_region_cuts [.q [_, _], .e _] [_, _] rfl (fun w'' => Below W6.heap.size W6 w'') (by kernel_rfl) (by kernel_rfl) (fun _ _ d _ _ h => by cases d <;> exact h) ?_
      refine cut_q (Below.refl _ W6).drew ?_
      repeat (first | (refine wq_load_row _ rfl rfl (fun _ h => k6.up h) Try.underlying68 rfl rest_hi ?_; simp only [Act.put, List.setIfInBounds_toArray, List.set_cons_succ, List.set_cons_zero]) | go_big_quiet_step ((intros; rfl)) | quiet_step ((intros; rfl)) | (refine wq_loadB rfl rfl (by kernel_rfl) (by assumption) ?_; simp only [Act.put, List.setIfInBounds_toArray, List.set_cons_succ, List.set_cons_zero]))
      refine wpQuiet_nil ?_
      have ud := (Below.refl W6.heap.size W6).drew
      refine cut_e ?_
      go_wp2_with fail
      refine (rnum_any _ _ _ (ht'.below ud) HLEN.out).mono ?_
      rintro e W7 ⟨rfl, B7⟩
      have u7 := Below.up ud B7
      have uw := Below.up u6 u7
      have k7 := k4'.up u7
      go_wp2
      refine ⟨u7, ?_⟩
      refine cut_end ?_
      go_wp2_with (refine wl_store_row rfl rfl rfl k7 rest_hi rfl (by simp [Value.oneCell']) ?_)
      have hBe := below_setRow uw (g := w.heap.size + 1) (by omega) #[.slice sa l'.length sc, .int .i64 f']
      refine bodyPost_ret (results_rest2 (p := 4) (u := 5) (by kernel_rfl) _ _ (w.heap.size + 1) 68 (.slice sa l'.length sc) (.int .i64 f') rfl (k7.setRow _)) rfl ?_
      exact ⟨sa, sc, rfl, fun W hW => (hM W hW).1, hBe⟩
    · have hq : (f == 0) = false := by simpa using hf
      clear hok hf
      unfold restV
      go_enter Try.func37, Try.ntmps37
      go_wp2_with fail
      refine (htake _ (h')).mono ?_
      rintro e W5 ⟨sa, sc, ta, tc, rfl, hM, B5⟩
      have ht := (hM W5 ((h').below B5)).2
      clear htake
      have u5 := Below.up hB B5
      have k4 := b4.up B5
      have k6 := Blk.new W5 #[.slice sa l'.length sc, .int .i64 f'] 68
      go_upto_region 4 with fail
      have hB6 := Below.new W5 (.cells #[.slice sa l'.length sc, .int .i64 f'] 68)
      have u6 := Below.up u5 hB6
      have k4' := k4.up hB6
      have ht' := ht.below hB6
      obtain ⟨p6, hp6⟩ : ∃ p6, W5.heap.size = p6 := ⟨_, rfl⟩
      obtain ⟨W6, hW6⟩ : ∃ W6, W5.alloc (.cells #[.slice sa l'.length sc, .int .i64 f'] 68) = W6 := ⟨_, rfl⟩
      rw [hW6] at k6 hB6 u6 k4' ht' ⊢
      rw [hp6] at k6 ⊢
      clear hW6 hp6 hB6 k4 ht u5 B5
      refine wp_region_cuts [.q [_, _], .e _] [_, _] rfl (fun w'' => Below W6.heap.size W6 w'') (by kernel_rfl) (by kernel_rfl) (fun _ _ d _ _ h => by cases d <;> exact h) ?_
      refine cut_q (Below.refl _ W6).drew ?_
      repeat (first | (refine wq_load_row _ rfl rfl (fun _ h => k6.up h) Try.underlying68 rfl rest_hi ?_; simp only [Act.put, List.setIfInBounds_toArray, List.set_cons_succ, List.set_cons_zero]) | go_big_quiet_step ((intros; rfl)) | quiet_step ((intros; rfl)) | (refine wq_loadB rfl rfl (by kernel_rfl) (by assumption) ?_; simp only [Act.put, List.setIfInBounds_toArray, List.set_cons_succ, List.set_cons_zero]))
      refine wpQuiet_nil ?_
      have ud := (Below.refl W6.heap.size W6).drew
      refine cut_e ?_
      go_wp2_with fail
      refine (rnum_any _ _ _ (ht'.below ud) HLEN.out).mono ?_
      rintro e W7 ⟨rfl, B7⟩
      have u7 := Below.up ud B7
      have uw := Below.up u6 u7
      have k7 := k4'.up u7
      go_wp2
      refine ⟨u7, ?_⟩
      refine cut_end ?_
      go_wp2_with (refine wl_store_row rfl rfl rfl k7 rest_hi rfl (by simp [Value.oneCell']) ?_)
      have hBe := below_setRow uw (g := w.heap.size + 1) (by omega) #[.slice sa l'.length sc, .int .i64 f']
      refine bodyPost_ret (results_rest2 (p := 4) (u := 5) (by kernel_rfl) _ _ (w.heap.size + 1) 68 (.slice sa l'.length sc) (.int .i64 f') rfl (k7.setRow _)) rfl ?_
      exact ⟨sa, sc, rfl, fun W hW => (hM W hW).1, hBe⟩

end Go.Proofs.Ytpooakhmpfbmgaa
namespace Go.Proofs.Ytpooakhmpfbmgaa
open Go.RowKit

/-- what is known of region 4 -/
def rpΦ (v4 two : Value) (m : Nat) (D : List UInt8) (r : RSt × List UInt8) : Nat → Value → World → Nat → Nat → Prop
  | 0, v, _, _, _ => v = restV v4 0
  | 1, v, _, _, _ => v = two
  | 2, v, _, _, _ => v = .int .u64 m
  | 3, v, _, _, _ => v = .int .i64 m
  | 4, v, _, _, _ => ∃ a c a2 c2, v = .tuple #[restV (.slice a r.1.1.length c) r.1.2, .slice a2 r.2.length c2] ∧ (∀ V, Bytes V v4 D → Bytes V (.slice a r.1.1.length c) r.1.1 ∧ Bytes V (.slice a2 r.2.length c2) r.2)
  | 5, v, _, _, _ => ∃ a c a2 c2, v = .tuple #[restV (.slice a r.1.1.length c) r.1.2, .slice a2 r.2.length c2] ∧ (∀ V, Bytes V v4 D → Bytes V (.slice a r.1.1.length c) r.1.1 ∧ Bytes V (.slice a2 r.2.length c2) r.2)
  | 6, v, _, _, _ => ∃ a c, v = restV (.slice a r.1.1.length c) r.1.2 ∧ (∀ V, Bytes V v4 D → Bytes V (.slice a r.1.1.length c) r.1.1)
  | 7, v, _, _, _ => ∃ a2 c2, v = .slice a2 r.2.length c2 ∧ (∀ V, Bytes V v4 D → Bytes V (.slice a2 r.2.length c2) r.2)
  | 8, v, W, lo, hi => VarΦ #[.slice none 0 0, .int .i64 0] 68 v W lo hi
  | _, _, _, _, _ => True
theorem rpΦ_stable (w0 : World) (v4 two : Value) (m : Nat) (D : List UInt8) (r : RSt × List UInt8) : RGst 9 w0 [4, 5, 6, 7] (rpΦ v4 two m D r) where
  own := by
    intro i v w w' lo hi _ _ h _ hh hb
    unfold rpΦ at h ⊢
    split <;> first
      | exact h
      | exact VarΦ.kb h hh hb
      | trivial
  all := by
    intro i v w w' lo hi _ h hh hb
    unfold rpΦ at h ⊢
    split <;> first
      | exact h
      | exact VarΦ.below h hh hb
      | trivial

theorem conv_run {ev : Operand → Value} {dst : Option Tmp} {p : Operand} {ty : TypeId} {pos : String} {af : Array Edge} {g : Option (Nat × Bool)} (m : Nat) (hm : m < 65536) (hp : ev p = .int .u64 m) (w : World) :
    (execOp ev ⟨dst, .convert 26 3 p, ty, pos, af, g⟩).run Try.prog w = .ok (.value (.int .i64 m)) w := by
  have e : IntKind.i64.wrap (m : Int) = (m : Int) := by rw [IntKind.wrap_i64]; omega
  simp [execOp, hp, go_sem, Try.underlying26, Try.underlying3, e]

theorem rtake2_no (l : List UInt8) (f : Int) (h : f ≠ 0 ∨ l.length < 2) : ∃ f', f' ≠ 0 ∧ rdTake (l, f) 2 = ((l, f'), []) ∧ rdPart (l, f) = ((l, f'), []) := by
  unfold rdTake rdPart frontNo
  by_cases hf : f = 0
  · subst hf
    have h2 : l.length < 2 := by rcases h with h | h; exact absurd rfl h; exact h
    refine ⟨110, by decide, ?_, ?_⟩
    · simp only [if_true]
      rw [if_neg (show ¬ ((2 : Int) < 0) by omega), if_pos (show (l.length : Int) < 2 by omega), if_neg (by decide)]
    · simp only [if_true]
      rw [if_pos h2]
  · exact ⟨f, hf, by simp [hf], by simp [hf]⟩

set_option maxRecDepth 100000 in
set_option maxHeartbeats 2000000 in
theorem rrpart_any (v : Value) (s : RSt) (w : World) (h : Bytes w v s.1) :
    Calls Try.prog 40 #[restV v s.2] w fun e w' => RestB w w' e v s.1 (rdPart s) := by
  obtain ⟨l, f⟩ := s
  simp only at h ⊢
  obtain ⟨a, c, rfl, hc, hm⟩ := IsSl.shape h
  have hB := Below.upA (Below.new w (.cells #[.slice a l.length c, .int .i64 f] 68)) (.cells #[.slice none 0 0, .int .i64 0] 68)
  have b1 := (Blk.new w #[.slice a l.length c, .int .i64 f] 68).alloc (.cells #[.slice none 0 0, .int .i64 0] 68)
  have b2 := Blk.new (w.alloc (.cells #[.slice a l.length c, .int .i64 f] 68)) #[.slice none 0 0, .int .i64 0] 68
  simp only [World.size_alloc] at b2
  have h' := h.below hB
  by_cases hcase : f ≠ 0 ∨ l.length < 2
  · obtain ⟨f', hf', e1, e2⟩ := rtake2_no l f hcase
    rw [e2]
    have htake := fun w h => rtake_any (.slice a l.length c) (l, f) 2 w h
    rw [e1] at htake
    simp only [RestB] at htake
    have hq : (f' != 0) = true := by simpa using hf'
    clear hcase e1 e2 hf'
    unfold restV
    go_enter Try.func40, Try.ntmps40
    go_wp2_with fail
    refine (htake _ h').mono ?_
    rintro e W5 ⟨sa, sc, ta, tc, rfl, hM, B5⟩
    clear htake
    have u5 := Below.up hB B5
    have k2 := b2.up B5
    have k4 := Blk.new W5 #[.slice sa l.length sc, .int .i64 f'] 68
    have hB6 := Below.new W5 (.cells #[.slice sa l.length sc, .int .i64 f'] 68)
    have u6 := Below.up u5 hB6
    have k2' := k2.up hB6
    go_wp2_with (refine wl_store_row rfl rfl rfl k2' rest_hi rfl (by simp [Value.oneCell']) ?_)
    have hBe := below_setRow u6 (g := w.heap.size + 1) (by omega) #[.slice sa l.length sc, .int .i64 f']
    refine bodyPost_ret (results_rest2 (p := 2) (u := 3) (by kernel_rfl) _ _ (w.heap.size + 1) 68 (.slice sa l.length sc) (.int .i64 f') rfl (k2'.setRow _)) rfl ?_
    exact ⟨sa, sc, none, 0, rfl, fun W hW => ⟨(hM W hW).1, IsSl.nil _⟩, hBe⟩
  · obtain ⟨rfl, h2⟩ : f = 0 ∧ 2 ≤ l.length := by
      constructor
      · exact Decidable.byContradiction fun hf => hcase (.inl hf)
      · have := fun hl => hcase (.inr hl); omega
    clear hcase
    have e1 : rdTake (l, 0) 2 = ((l.drop 2, 0), l.take 2) := by
      unfold rdTake frontNo
      simp only [if_true]
      rw [if_neg (show ¬ ((2 : Int) < 0) by omega), if_neg (show ¬ ((l.length : Int) < 2) by omega), if_pos rfl]
      rfl
    obtain ⟨m, hm⟩ : ∃ m, numB (l.take 2) = m := ⟨_, rfl⟩
    have hm2 := num2_lt l
    rw [hm] at hm2
    obtain ⟨r, hr⟩ : ∃ r, rdTake (l.drop 2, 0) m = r := ⟨_, rfl⟩
    have e2 : rdPart (l, 0) = if r.1.2 = 0 then r else ((l, 110), []) := by
      subst hr
      unfold rdPart rdTake frontNo
      simp only [if_true]
      rw [hm, if_neg (by omega), if_neg (show ¬ ((m : Int) < 0) by omega)]
      by_cases hlt : l.length < 2 + m
      · rw [if_pos hlt, if_pos (show ((l.drop 2).length : Int) < (m : Int) by rw [List.length_drop]; omega), if_neg (show ¬ ((110 : Int) = 0) by decide)]
        rfl
      · rw [if_neg hlt, if_neg (show ¬ ((l.drop 2).length : Int) < (m : Int) by rw [List.length_drop]; omega), if_pos rfl]
        simp [List.drop_drop]
    rw [e2]
    have hr2 : r.1.2 ≠ 0 → r.1.2 = 110 := by
      intro h
      subst hr
      unfold rdTake frontNo at h ⊢
      simp only [if_true] at h ⊢
      rw [if_neg (show ¬ ((m : Int) < 0) by omega)] at h ⊢
      by_cases hlt : ((l.drop 2).length : Int) < (m : Int)
      · rw [if_pos hlt, if_neg (show ¬ ((110 : Int) = 0) by decide)]
      · rw [if_neg hlt, if_pos rfl] at h
        exact absurd rfl h
    have htake := fun w h => rtake_any (.slice a l.length c) (l, 0) 2 w h
    rw [e1] at htake
    simp only [RestB] at htake
    have htake2 : ∀ v w, Bytes w v (l.drop 2) → Calls Try.prog 39 #[restV v 0, .int .i64 m] w fun e w' => RestB w w' e v (l.drop 2) r := fun v w hv => by
      have := rtake_any v (l.drop 2, 0) m w hv
      rwa [hr] at this
    have HM := Lib.hid hm
    clear e1 e2 hr hm
    unfold restV
    go_enter Try.func40, Try.ntmps40
    go_wp2_with fail
    refine (htake _ h').mono ?_
    rintro e W5 ⟨sa, sc, ta, tc, rfl, hM, B5⟩
    clear htake
    have u5 := Below.up hB B5
    have hs := (hM W5 (h'.below B5)).1
    have ht := (hM W5 (h'.below B5)).2
    have k1 := b1.up B5
    have k2 := b2.up B5
    have k4 := Blk.new W5 #[.slice sa (l.drop 2).length sc, .int .i64 0] 68
    have hB6 := Below.new W5 (.cells #[.slice sa (l.drop 2).length sc, .int .i64 0] 68)
    obtain ⟨D, hD⟩ : ∃ D, l.drop 2 = D := ⟨_, rfl⟩
    obtain ⟨T, hT⟩ : ∃ T, l.take 2 = T := ⟨_, rfl⟩
    have hT8 : T.length ≤ 8 := by rw [← hT]; simp; omega
    rw [hD] at hs htake2 k4 hB6 hM ⊢
    rw [hT] at ht HM hM ⊢
    clear hD hT
    go_upto_region 4 with fail
    have u6 := Below.up u5 hB6
    have k16 := k1.up hB6
    have k26 := k2.up hB6
    have hs6 := hs.below hB6
    have ht6 := ht.below hB6
    obtain ⟨p4, hp4⟩ : ∃ p4, W5.heap.size = p4 := ⟨_, rfl⟩
    obtain ⟨W6, hW6⟩ : ∃ W6, W5.alloc (.cells #[.slice sa D.length sc, .int .i64 0] 68) = W6 := ⟨_, rfl⟩
    rw [hW6] at u6 k16 k26 hs6 ht6 k4 ⊢
    rw [hp4] at k4 ⊢
    clear hW6 hp4 hB6 k1 k2 hs ht u5 B5
    clear W5
    have hW6d : Below W6.heap.size W6 W6.drew := (Below.refl _ W6).drew
    refine wp_region_rg 9 [false, false, false, false, false, false, false, true, false] (fun _ => []) [4, 5, 6, 7] (rpΦ (.slice sa D.length sc) (.slice ta T.length tc) m D r) (by kernel_rfl) (fun _ _ d _ _ h => by cases d <;> exact h) (by kernel_rfl) (rpΦ_stable _ _ _ _ _ _) ?hop ?hend
    case hop =>
      show rgAll _ 0 [_, _, _, _, _, _, _, _, _]
      refine rgAll_cons (rg_n fun on a W vs lo hi hR hF hp => ?_) (rgAll_cons (rg_n fun on a W vs lo hi hR hF hp => ?_) (rgAll_cons (rg_n fun on a W vs lo hi hR hF hp => ?_) (rgAll_cons (rg_n fun on a W vs lo hi hR hF hp => ?_) (rgAll_cons (rg_n fun on a W vs lo hi hR hF hp => ?_) (rgAll_cons (rg_n fun on a W vs lo hi hR hF hp => ?_) (rgAll_cons (rg_n fun on a W vs lo hi hR hF hp => ?_) (rgAll_cons (rg_q fun on a W vs lo hi hR hF hp => ?_) (rgAll_cons (rg_n fun on a W vs lo hi hR hF hp => ?_) rgAll_nil))))))))
      · exact rg_val (run_load_row _ (hF.tmp0 4 rfl) (Blk.up k4 (Below.up hW6d hR.bel)) Try.underlying68 rfl rest_hi) (Below.refl _ _) rfl
      · exact rg_move (hF.tmp0 5 rfl) rfl
      · refine rg_call1 ((hF.tmp 1 (by decide) (hp 1 (memB rfl)) rfl rfl rfl).trans (hR.fact 1 rfl (hp 1 (memB rfl)) rfl)) (fun v w => by kernel_rfl) ((rnum_any _ _ W (ht6.below (Below.up hW6d hR.bel)) hT8).mono ?_)
        rintro e w' ⟨rfl, hb⟩
        exact ⟨_, rfl, hb, by rw [HM.out]; rfl⟩
      · exact rg_val (conv_run m hm2 ((hF.tmp 2 (by decide) (hp 2 (memB rfl)) rfl rfl rfl).trans (hR.fact 2 rfl (hp 2 (memB rfl)) rfl)) W) (Below.refl _ _) rfl
      · refine rg_call2 ((hF.tmp 0 (by decide) (hp 0 (memB rfl)) rfl rfl rfl).trans (hR.fact 0 rfl (hp 0 (memB rfl)) rfl)) ((hF.tmp 3 (by decide) (hp 3 (memB rfl)) rfl rfl rfl).trans (hR.fact 3 rfl (hp 3 (memB rfl)) rfl)) (fun v u w => by kernel_rfl) ((htake2 _ W (hs6.below (Below.up hW6d hR.bel))).mono ?_)
        rintro e w' ⟨xa, xc, xa2, xc2, rfl, g1, hb⟩
        exact ⟨_, rfl, hb, xa, xc, xa2, xc2, rfl, g1⟩
      · have e := (hF.tmp 4 (by decide) (hp 4 (memB rfl)) rfl rfl rfl)
        exact rg_move e (hR.fact 4 rfl (hp 4 (memB rfl)) rfl)
      · obtain ⟨xa, xc, xa2, xc2, ev, g1⟩ := (hR.fact 5 rfl (hp 5 (memB rfl)) rfl)
        exact rg_extract ((hF.tmp 5 (by decide) (hp 5 (memB rfl)) rfl rfl rfl).trans ev) rfl ⟨xa, xc, rfl, fun V hV => (g1 V hV).1⟩
      · obtain ⟨xa, xc, xa2, xc2, ev, g1⟩ := (hR.fact 5 rfl (hp 5 (memB rfl)) rfl)
        exact ⟨_, run_extract ((hF.tmp 5 (by decide) (hp 5 (memB rfl)) rfl rfl rfl).trans ev) rfl, xa2, xc2, rfl, fun V hV => (g1 V hV).2⟩
      · exact rg_var (z := .agg #[.slice none 0 0, .int .i64 0]) (by kernel_rfl)
    case hend =>
      intro W vs lo hi hR
      have e0 : vs 0 = restV (.slice sa D.length sc) 0 := (hR.fact 0 rfl rfl rfl)
      have e1 : vs 1 = .slice ta T.length tc := (hR.fact 1 rfl rfl rfl)
      have e2 : vs 2 = .int .u64 m := (hR.fact 2 rfl rfl rfl)
      have e3 : vs 3 = .int .i64 m := (hR.fact 3 rfl rfl rfl)
      obtain ⟨xa, xc, e6, g6⟩ : ∃ a c, vs 6 = restV (.slice a r.1.1.length c) r.1.2 ∧ (∀ V, Bytes V (.slice sa D.length sc) D → Bytes V (.slice a r.1.1.length c) r.1.1) := (hR.fact 6 rfl rfl rfl)
      obtain ⟨ya, yc, e7, g7⟩ : ∃ a2 c2, vs 7 = .slice a2 r.2.length c2 ∧ (∀ V, Bytes V (.slice sa D.length sc) D → Bytes V (.slice a2 r.2.length c2) r.2) := (hR.fact 7 rfl rfl rfl)
      obtain ⟨b8, e8, q8, q8', k8⟩ : VarΦ #[.slice none 0 0, .int .i64 0] 68 (vs 8) W (lo 8) (hi 8) := (hR.fact 8 rfl rfl rfl)
      have z8 := (hR.bnd 8 (by decide) rfl).1
      have uW := Below.up u6 (Below.up hW6d hR.bel)
      have k1W := k16.up (Below.up hW6d hR.bel)
      have k2W := k26.up (Below.up hW6d hR.bel)
      have hb8 : W6.heap.size ≤ b8 := by
        have : W6.drew.heap.size ≤ b8 := Nat.le_trans z8 q8
        exact this
      have hk1 := k16.lt
      have hk2 := k26.lt
      obtain ⟨⟨⟨l', f'⟩, bs⟩, hre⟩ : ∃ x, r = x := ⟨_, rfl⟩
      subst hre
      simp only at e6 g6 e7 g7 hr2 ⊢
      obtain ⟨v4, hv4⟩ : ∃ v, vs 4 = v := ⟨_, rfl⟩
      obtain ⟨v5, hv5⟩ : ∃ v, vs 5 = v := ⟨_, rfl⟩
      have w1 := Blk.setRowO k1W #[.slice xa l'.length xc, .int .i64 f'] (n := b8) (by omega)
      have w2 := Blk.setRowO k2W #[.slice xa l'.length xc, .int .i64 f'] (n := b8) (by omega)
      have w8 := Blk.setRow k8 #[.slice xa l'.length xc, .int .i64 f']
      have uS := below_setRow uW (g := b8) (by have := u6.size; omega) #[.slice xa l'.length xc, .int .i64 f']
      clear hR hW6d htake2 z8 q8 q8' k1W k2W k16 k26 uW
      show wpList _ _ _ [_, _] (((((((((Act.put ⟨_, _⟩ (some 18) (vs 0)).put (some 19) (vs 1)).put (some 20) (vs 2)).put (some 21) (vs 3)).put (some 22) (vs 4)).put (some 17) (vs 5)).put (some 23) (vs 6)).put (some 24) (vs 7)).put (some 6) (vs 8)) W
      rw [e0, e1, e2, e3, hv4, hv5, e6, e7, e8]
      clear e0 e1 e2 e3 hv4 hv5 e6 e7 e8
      simp only [Act.put, List.setIfInBounds_toArray, List.set_cons_succ, List.set_cons_zero]
      go_upto_region 5 with (refine wl_store_row rfl rfl rfl k8 rest_hi rfl (by simp [Value.oneCell']) ?_)
      obtain ⟨V, hV⟩ : ∃ V, W.setRow b8 #[.slice xa l'.length xc, .int .i64 f'] = V := ⟨_, rfl⟩
      rw [hV] at w1 w2 w8 uS ⊢
      clear hV k8
      obtain ⟨C8, F8, L8⟩ := w8.all
      obtain ⟨C1, F1, L1⟩ := w1.all
      by_cases hf : f' = 0
      · subst hf
        go_wp2_with (refine wl_store_row rfl rfl rfl w2 rest_hi rfl (by simp [Value.oneCell']) ?_)
        have hBe := below_setRow uS (g := w.heap.size + 1) (by omega) #[.slice xa l'.length xc, .int .i64 0]
        refine bodyPost_ret (results_rest2 (p := 2) (u := 3) (by kernel_rfl) _ _ (w.heap.size + 1) 68 (.slice xa l'.length xc) (.int .i64 0) rfl (w2.setRow _)) rfl ?_
        exact ⟨xa, xc, ya, yc, rfl, fun V hV => ⟨g6 V (hM V hV).1, g7 V (hM V hV).1⟩, hBe⟩
      · obtain rfl := hr2 hf
        go_wp2_with (refine wl_store_row rfl rfl rfl w2 rest_hi rfl (by simp [Value.oneCell']) ?_)
        have hBe := below_setRow uS (g := w.heap.size + 1) (by omega) #[.slice a l.length c, .int .i64 110]
        refine bodyPost_ret (results_rest2 (p := 2) (u := 3) (by kernel_rfl) _ _ (w.heap.size + 1) 68 (.slice a l.length c) (.int .i64 110) rfl (w2.setRow _)) rfl ?_
        exact ⟨a, c, none, 0, rfl, fun W hW => ⟨hW, IsSl.nil _⟩, hBe⟩

end Go.Proofs.Ytpooakhmpfbmgaa
