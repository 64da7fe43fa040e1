import Derived.Test.YtneajhldmecllaaRunsTile
import Derived.Test.YtneajhldmecllaaFence
namespace Go.Proofs.Ytneajhldmecllaa
open Go.RowKit Go.Shelf

attribute [local go_sem] Oper.semAt_some

/-- the runs of a row: how many of a colour, and which -/
def rleGo (n : Nat) (c : Col) : List Col → List (Nat × Col)
  | [] => [(n, c)]
  | d :: ds => if d = c then rleGo (n + 1) c ds else (n, c) :: rleGo 1 d ds
def rle : List Col → List (Nat × Col)
  | [] => []
  | c :: cs => rleGo 1 c cs

set_option maxRecDepth 100000 in
set_option maxHeartbeats 1000000 in
theorem each1_in (n l b : Nat) (T : List Col) (hT : T.length = 64) (J Jx : List (Nat × Col) → World → Prop)
    (hY : ∀ pre x W, J pre W → pre.length < 64 → YieldAt Fence.wide (n - 1) Try.prog l #[.int .i64 x.1, colV x.2] W fun e W' =>
      (e = .returned (.bool true) ∧ J (pre ++ [x]) W' ∧ KeepB b W W') ∨ (e = .returned (.bool false) ∧ Jx (pre ++ [x]) W'))
    (hA : ∀ s W W' row, J s W → W.grownBy W' row → (∀ r, row = some r → False) → J s W')
    (W : World) (hb : Blk W b (tcells T) 29) (h0 : J [] W) :
    CallsIn Fence.wide n Try.prog 55 #[.func (.yield l) #[] #[], .pointer (some ⟨b, 0, none⟩)] W fun e W' => (∃ v, e = .returned v) ∧
      ((∃ ys, ys = rle T ∧ J ys W') ∨ (∃ pre, pre <+: rle T ∧ Jx pre W')) := by
  refine callsIn_of_wp Try.func55 rfl trivial ?_ rfl
  simp only [Try.ntmps55, List.size_toArray, List.length_cons, List.length_nil, Nat.reduceAdd, Nat.reduceSub, Array.replicate_succ, Array.replicate_zero, List.push_toArray, List.append_toArray, List.nil_append, List.cons_append]
  gi_wp2
  refine wpIn_scope_straight ?_
  gi_wp2
  refine wpIn_label ?_
  gi_wp2
  gi_loopw [3, 4] (fun f i wr => ∃ (k f0 : Nat) (pre : List (Nat × Col)), i = .int .i64 k ∧ f = .int .i64 f0 ∧ Blk wr b (tcells T) 29 ∧ J pre wr ∧ pre.length ≤ f0 ∧
      ((k ≤ 64 ∧ f0 < k ∧ ∃ h : f0 < T.length, pre ++ rleGo (k - f0) T[f0] (T.drop k) = rle T) ∨ (k = 65 ∧ pre = rle T)))
    (fun _ i _ => 66 - (intOf i).toNat)
  case atStart =>
    refine ⟨1, 0, [], rfl, rfl, hb, h0, by simp, .inl ⟨by omega, by omega, by omega, ?_⟩⟩
    cases T with
    | nil => simp at hT
    | cons c T => rfl
  case round =>
    obtain ⟨k, f0, pre, rfl, rfl, hB, hJ, hpl, hk | hk⟩ := hrel
    · obtain ⟨hk, hf, hfl, hx⟩ := hk
      obtain ⟨g0, g1, g2, g3⟩ := tcells_at T f0 hfl
      have hc := hB.cell
      by_cases h64 : k < 64
      · obtain ⟨h0, h1, h2, h3⟩ := tcells_at T k (by omega)
        have HX := Lib.hid hx
        have hgd : decide ((k : Int) < 64) = true := by simp; omega
        clear hx
        by_cases hq : (T[k] == T[f0]) = true
        · gi_wp2
          refine wpIn_wide.2 ?_
          refine wp_region_quiet_lit (by kernel_rfl) (by kernel_rfl) ?_
          repeat (first | refine wq_eql_col rfl rfl rfl ?_ | go_big_quiet_step (fail) | quiet_step (fail))
          refine wpQuiet_nil ?_
          intro _ hw'
          obtain ⟨nq, hw''⟩ := hw'
          subst hw''
          have hJ' := hA pre _ (wr.drewN nq) none hJ (gb_drewN wr nq _) (by simp)
          have hB' : Blk (wr.drewN nq) b (tcells T) 29 := hB
          gi_wp2
          go_roundw
          case rel =>
            refine ⟨k + 1, f0, pre, by go_num, rfl, hB', hJ', hpl, .inl ⟨by omega, by omega, hfl, ?_⟩⟩
            rw [← HX.out, List.drop_eq_getElem_cons (by omega : k < T.length), rleGo, if_pos (by simpa using hq), show k + 1 - f0 = k - f0 + 1 from by omega]
          case measure => simp only [intOf]; omega
        · have hq' : (T[k] == T[f0]) = false := by simpa using hq
          clear hq
          gi_wp2
          refine wpIn_wide.2 ?_
          refine wp_region_quiet_lit (by kernel_rfl) (by kernel_rfl) ?_
          repeat (first | refine wq_eql_col rfl rfl rfl ?_ | go_big_quiet_step (fail) | quiet_step (fail))
          refine wpQuiet_nil ?_
          intro _ hw'
          obtain ⟨nq, hw''⟩ := hw'
          subst hw''
          have hJ' := hA pre _ (wr.drewN nq) none hJ (gb_drewN wr nq _) (by simp)
          have hB' : Blk (wr.drewN nq) b (tcells T) 29 := hB
          obtain ⟨fn, tmps, assign, body, hy, hR⟩ := hY pre (k - f0, T[f0]) (wr.drewN nq) hJ' (by omega)
          have e : ((k - f0 : Nat) : Int) = k - f0 := by omega
          simp only [e] at hy
          clear e
          gi_wp2
          refine ⟨(fun h => by cases h), hR.mono ?_⟩
          rintro e W3 (⟨rfl, hJ3, hk3⟩ | ⟨rfl, hJx3⟩)
          · gi_wp2
            go_roundw
            case rel =>
              refine ⟨k + 1, k, pre ++ [(k - f0, T[f0])], by go_num, rfl, hB'.keepB hk3, hJ3, by simp; omega, .inl ⟨by omega, by omega, by omega, ?_⟩⟩
              rw [← HX.out, List.drop_eq_getElem_cons (by omega : k < T.length), rleGo, if_neg (by simpa using hq'), show k + 1 - k = 1 from by omega]
              simp
            case measure => simp only [intOf]; omega
          · gi_wp2
            rw [Exit.noGoto_normal]
            go_end0
            refine ⟨⟨_, rfl⟩, .inr ⟨_, ?_, hJx3⟩⟩
            rw [← HX.out, List.drop_eq_getElem_cons (by omega : k < T.length), rleGo, if_neg (by simpa using hq')]
            exact ⟨rleGo 1 T[k] (T.drop (k + 1)), by simp⟩
      · obtain rfl : k = 64 := by omega
        have hgd : decide (((64 : Nat) : Int) < 64) = false := by simp
        have HX : Hid (pre ++ [(64 - f0, T[f0])] = rle T) := by rw [← hx, List.drop_of_length_le (by omega)]; rfl
        clear hx h64
        gi_wp2
        refine wpIn_wide.2 ?_
        refine wp_region_quiet_lit (by kernel_rfl) (by kernel_rfl) ?_
        repeat (first | go_big_quiet_step (fail) | quiet_step (fail))
        refine wpQuiet_nil ?_
        intro _ hw'
        obtain ⟨nq, hw''⟩ := hw'
        subst hw''
        have hJ' := hA pre _ (wr.drewN nq) none hJ (gb_drewN wr nq _) (by simp)
        have hB' : Blk (wr.drewN nq) b (tcells T) 29 := hB
        obtain ⟨fn, tmps, assign, body, hy, hR⟩ := hY pre (64 - f0, T[f0]) (wr.drewN nq) hJ' (by omega)
        have e : ((64 - f0 : Nat) : Int) = 64 - f0 := by omega
        simp only [e] at hy
        clear e
        gi_wp2
        refine ⟨(fun h => by cases h), hR.mono ?_⟩
        rintro e W3 (⟨rfl, hJ3, hk3⟩ | ⟨rfl, hJx3⟩)
        · gi_wp2
          go_roundw
          case rel =>
            exact ⟨65, 64, pre ++ [(64 - f0, T[f0])], by go_num, rfl, hB'.keepB hk3, hJ3, by simp; omega, .inr ⟨rfl, HX.out⟩⟩
          case measure => simp only [intOf]; omega
        · gi_wp2
          rw [Exit.noGoto_normal]
          go_end0
          exact ⟨⟨_, rfl⟩, .inr ⟨_, ⟨[], by rw [List.append_nil, HX.out]⟩, hJx3⟩⟩
    · obtain ⟨rfl, rfl⟩ := hk
      gi_wp2
      rw [Exit.noGoto_normal]
      go_end0
      exact ⟨⟨_, rfl⟩, .inl ⟨_, rfl, hJ⟩⟩

end Go.Proofs.Ytneajhldmecllaa
