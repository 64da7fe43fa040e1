/- Walks by data and names, part 17: Layer 22, by V: disks that change. Layer 22, by V: what a fall keeps; settling. Layer 22, by V: a disk in memory of its own. -/
import Derived.Test.YtjfaihpiohccbaaPk16
namespace Go.Proofs.Ytjfaihpiohccbaa
open Go.RowKit
set_option maxRecDepth 10000
set_option maxHeartbeats 4000000
/-- an operation in new memory -/
abbrev opN (o : DOp) : List D := [.lit (.int .i64 o.k), .lit (.int .i64 o.f), .sl false true (byD o.b)]
instance newLs_by (b : List UInt8) : NewLs (byD b) := newLs_map b _
instance (l : List DOp) : DLss (l.map opN) (l.map opD) := dlss_map l _ _ (fun _ => inferInstance) (fun _ => rfl)
instance (l : List DOp) : NewLs (l.map opN) := newLs_map l _
abbrev u8T : TypeId := 5
abbrev opT : TypeId := 43
/-- the log of a disk whose files change: variable 0, rows 1 to 4 -/
abbrev drF (d : Dk) : List E := [.c 0 0 [.row 1 0, .row 2 0, .row 3 0, .row 4 0, .d (.lit (.int .i64 d.head)), .d .any, .d (.lit (.bool d.down)), .d (.lit (.int .i64 d.fuse))],
  .r true true 1 0 u8T 1 (byD d.f0), .r true true 2 0 u8T 1 (byD d.f1), .r true true 3 0 u8T 1 (byD d.f2), .r true true 4 0 u8T 1 (byD d.f3)]
/-- the log of a disk that changes: variable 0, rows 1 to 5 -/
abbrev drE (d : Dk) : List E := [.c 0 0 [.row 1 0, .row 2 0, .row 3 0, .row 4 0, .d (.lit (.int .i64 d.head)), .row 5 0, .d (.lit (.bool d.down)), .d (.lit (.int .i64 d.fuse))],
  .r true true 1 0 u8T 1 (byD d.f0), .r true true 2 0 u8T 1 (byD d.f1), .r true true 3 0 u8T 1 (byD d.f2), .r true true 4 0 u8T 1 (byD d.f3), .r true true 5 0 opT 3 (d.waits.map opN)]
def Dk.put (d : Dk) (f : Int) (b : List UInt8) : Dk := if f = 0 then { d with f0 := d.f0 ++ b } else if f = 1 then { d with f1 := d.f1 ++ b } else if f = 2 then { d with f2 := d.f2 ++ b } else { d with f3 := d.f3 ++ b }
def Dk.empty (d : Dk) (f : Int) : Dk := if f = 0 then { d with f0 := [] } else if f = 1 then { d with f1 := [] } else if f = 2 then { d with f2 := [] } else { d with f3 := [] }
/-- an operation that may wait, done -/
def Dk.done (d : Dk) (o : DOp) : Dk := if o.k = 1 then d.put o.f o.b else if o.k = 2 then d.empty o.f else { d with head := o.f }
def Dk.len (d : Dk) (n : Nat) : Prop := d.f0.length ≤ n ∧ d.f1.length ≤ n ∧ d.f2.length ≤ n ∧ d.f3.length ≤ n
theorem put_v (d : Dk) (k f : Int) (b : List UInt8) (hf : 0 ≤ f) (hf4 : f < 4) (h : d.len 10000000000000) (hb : b.length ≤ 1000000000) : VM1 Try.prog 74 1 [.ptr 0 0, .d (.agg (opD ⟨k, f, b⟩))] (drF d) 5 (.ret (.tup [])) (drF (d.put f b)) 5 := by
  have h4 : f = 0 ∨ f = 1 ∨ f = 2 ∨ f = 3 := by omega
  simp only [Dk.len] at h
  rcases h4 with rfl | rfl | rfl | rfl
  ·
    refine vm1_of Try.func74 rfl Try.ntmps74 Try.results74 fun B M => ?_
    simp only [opD, drF]
    repeat' (first | fail | refine vw_drawkx (id := 1) [1] ?_ | refine nzl ?_ | refine nzd ?_ | ((first | with_reducible refine vl_id ?_ | with_reducible refine vd_id ?_); first | fail) | refine nzo ?_ | refine nc ?_ ?_ | (with_reducible intro _ <;> (try (exfalso; omega))) | refine vs_eqnil ?_ | refine vs_nenil ?_ | (refine nd ?_ ?_ <;> intro hg <;> (first | (exfalso; (try simp only [decide_eq_true_eq, decide_eq_false_iff_not] at hg); omega) | rw [hg])) | fail)
    simp [Dk.put, byD, -List.map_map]
    exact nx_sub [(1, _, _)]
  ·
    refine vm1_of Try.func74 rfl Try.ntmps74 Try.results74 fun B M => ?_
    simp only [opD, drF]
    repeat' (first | fail | refine vw_drawkx (id := 1) [2] ?_ | refine nzl ?_ | refine nzd ?_ | ((first | with_reducible refine vl_id ?_ | with_reducible refine vd_id ?_); first | fail) | refine nzo ?_ | refine nc ?_ ?_ | (with_reducible intro _ <;> (try (exfalso; omega))) | refine vs_eqnil ?_ | refine vs_nenil ?_ | (refine nd ?_ ?_ <;> intro hg <;> (first | (exfalso; (try simp only [decide_eq_true_eq, decide_eq_false_iff_not] at hg); omega) | rw [hg])) | fail)
    simp [Dk.put, byD, -List.map_map]
    exact nx_sub [(2, _, _)]
  ·
    refine vm1_of Try.func74 rfl Try.ntmps74 Try.results74 fun B M => ?_
    simp only [opD, drF]
    repeat' (first | fail | refine vw_drawkx (id := 1) [3] ?_ | refine nzl ?_ | refine nzd ?_ | ((first | with_reducible refine vl_id ?_ | with_reducible refine vd_id ?_); first | fail) | refine nzo ?_ | refine nc ?_ ?_ | (with_reducible intro _ <;> (try (exfalso; omega))) | refine vs_eqnil ?_ | refine vs_nenil ?_ | (refine nd ?_ ?_ <;> intro hg <;> (first | (exfalso; (try simp only [decide_eq_true_eq, decide_eq_false_iff_not] at hg); omega) | rw [hg])) | fail)
    simp [Dk.put, byD, -List.map_map]
    exact nx_sub [(3, _, _)]
  ·
    refine vm1_of Try.func74 rfl Try.ntmps74 Try.results74 fun B M => ?_
    simp only [opD, drF]
    repeat' (first | fail | refine vw_drawkx (id := 1) [4] ?_ | refine nzl ?_ | refine nzd ?_ | ((first | with_reducible refine vl_id ?_ | with_reducible refine vd_id ?_); first | fail) | refine nzo ?_ | refine nc ?_ ?_ | (with_reducible intro _ <;> (try (exfalso; omega))) | refine vs_eqnil ?_ | refine vs_nenil ?_ | (refine nd ?_ ?_ <;> intro hg <;> (first | (exfalso; (try simp only [decide_eq_true_eq, decide_eq_false_iff_not] at hg); omega) | rw [hg])) | fail)
    simp [Dk.put, byD, -List.map_map]
    exact nx_sub [(4, _, _)]
theorem empty_v (d : Dk) (k f : Int) (b : List UInt8) (hf : 0 ≤ f) (hf4 : f < 4) : VM1 Try.prog 75 1 [.ptr 0 0, .d (.agg (opD ⟨k, f, b⟩))] (drF d) 5 (.ret (.tup [])) (drF (d.empty f)) 5 := by
  have h4 : f = 0 ∨ f = 1 ∨ f = 2 ∨ f = 3 := by omega
  rcases h4 with rfl | rfl | rfl | rfl
  ·
    refine vm1_of Try.func75 rfl Try.ntmps75 Try.results75 fun B M => ?_
    simp only [opD, drF]
    repeat' (first | fail | fail | refine nzl ?_ | refine nzd ?_ | ((first | with_reducible refine vl_id ?_ | with_reducible refine vd_id ?_); first | fail) | refine nzo ?_ | refine nc ?_ ?_ | (with_reducible intro _ <;> (try (exfalso; omega))) | refine vs_eqnil ?_ | refine vs_nenil ?_ | (refine nd ?_ ?_ <;> intro hg <;> (first | (exfalso; (try simp only [decide_eq_true_eq, decide_eq_false_iff_not] at hg); omega) | rw [hg])) | fail)
    refine nx_subn 0 0 u8T 1 rfl ?_
    exact nx_sub [(1, _, _)]
  ·
    refine vm1_of Try.func75 rfl Try.ntmps75 Try.results75 fun B M => ?_
    simp only [opD, drF]
    repeat' (first | fail | fail | refine nzl ?_ | refine nzd ?_ | ((first | with_reducible refine vl_id ?_ | with_reducible refine vd_id ?_); first | fail) | refine nzo ?_ | refine nc ?_ ?_ | (with_reducible intro _ <;> (try (exfalso; omega))) | refine vs_eqnil ?_ | refine vs_nenil ?_ | (refine nd ?_ ?_ <;> intro hg <;> (first | (exfalso; (try simp only [decide_eq_true_eq, decide_eq_false_iff_not] at hg); omega) | rw [hg])) | fail)
    refine nx_subn 0 1 u8T 1 rfl ?_
    exact nx_sub [(2, _, _)]
  ·
    refine vm1_of Try.func75 rfl Try.ntmps75 Try.results75 fun B M => ?_
    simp only [opD, drF]
    repeat' (first | fail | fail | refine nzl ?_ | refine nzd ?_ | ((first | with_reducible refine vl_id ?_ | with_reducible refine vd_id ?_); first | fail) | refine nzo ?_ | refine nc ?_ ?_ | (with_reducible intro _ <;> (try (exfalso; omega))) | refine vs_eqnil ?_ | refine vs_nenil ?_ | (refine nd ?_ ?_ <;> intro hg <;> (first | (exfalso; (try simp only [decide_eq_true_eq, decide_eq_false_iff_not] at hg); omega) | rw [hg])) | fail)
    refine nx_subn 0 2 u8T 1 rfl ?_
    exact nx_sub [(3, _, _)]
  ·
    refine vm1_of Try.func75 rfl Try.ntmps75 Try.results75 fun B M => ?_
    simp only [opD, drF]
    repeat' (first | fail | fail | refine nzl ?_ | refine nzd ?_ | ((first | with_reducible refine vl_id ?_ | with_reducible refine vd_id ?_); first | fail) | refine nzo ?_ | refine nc ?_ ?_ | (with_reducible intro _ <;> (try (exfalso; omega))) | refine vs_eqnil ?_ | refine vs_nenil ?_ | (refine nd ?_ ?_ <;> intro hg <;> (first | (exfalso; (try simp only [decide_eq_true_eq, decide_eq_false_iff_not] at hg); omega) | rw [hg])) | fail)
    refine nx_subn 0 3 u8T 1 rfl ?_
    exact nx_sub [(4, _, _)]
theorem point_v (d : Dk) (k f : Int) (b : List UInt8) : VM1 Try.prog 76 1 [.ptr 0 0, .d (.agg (opD ⟨k, f, b⟩))] (drF d) 5 (.ret (.tup [])) (drF { d with head := f }) 5 := by
  refine vm1_of Try.func76 rfl Try.ntmps76 Try.results76 fun B M => ?_
  simp only [opD, drF]
  repeat' (first | fail | fail | refine nzl ?_ | refine nzd ?_ | ((first | with_reducible refine vl_id ?_ | with_reducible refine vd_id ?_); first | fail) | refine nzo ?_ | refine nc ?_ ?_ | (with_reducible intro _ <;> (try (exfalso; omega))) | refine vs_eqnil ?_ | refine vs_nenil ?_ | (refine nd ?_ ?_ <;> intro hg <;> (first | (exfalso; (try simp only [decide_eq_true_eq, decide_eq_false_iff_not] at hg); omega) | rw [hg])) | fail)
  exact nx_sub []
theorem does_v (d : Dk) (o : DOp) (hk : 1 ≤ o.k ∧ o.k ≤ 3) (hf : 0 ≤ o.f ∧ o.f < 4) (h : d.len 10000000000000) (hb : o.b.length ≤ 1000000000) : VM1 Try.prog 66 1 [.ptr 0 0, .d (.agg (opD o))] (drF d) 5 (.ret (.tup [])) (drF (d.done o)) 5 := by
  obtain ⟨k, f, b⟩ := o
  simp only at hk hf hb
  have h3 : k = 1 ∨ k = 2 ∨ k = 3 := by omega
  have c1 := put_v d k f b (by omega) (by omega) h hb
  have c2 := empty_v d k f b (by omega) (by omega)
  have c3 := point_v d k f b
  rcases h3 with rfl | rfl | rfl
  all_goals
    refine vm1_of Try.func66 rfl Try.ntmps66 Try.results66 fun B M => ?_
    simp only [opD, drF] at c1 c2 c3 ⊢
    repeat' (first | fail | fail | refine nzl ?_ | refine nzd ?_ | ((first | with_reducible refine vl_id ?_ | with_reducible refine vd_id ?_); first | refine vs_vm [(0, none), (1, some _), (2, some _), (3, some _), (4, some _)] c1 ?_ | refine vs_vm [(0, none), (1, some _), (2, some _), (3, some _), (4, some _)] c2 ?_ | refine vs_vm [(0, none), (1, some _), (2, some _), (3, some _), (4, some _)] c3 ?_) | refine nzo ?_ | refine nc ?_ ?_ | (with_reducible intro _ <;> (try (exfalso; omega))) | refine vs_eqnil ?_ | refine vs_nenil ?_ | (refine nd ?_ ?_ <;> intro hg <;> (first | (exfalso; (try simp only [decide_eq_true_eq, decide_eq_false_iff_not] at hg); omega) | rw [hg])) | fail)
    exact nx_sub [(1, _, _), (2, _, _), (3, _, _), (4, _, _)]
end Go.Proofs.Ytjfaihpiohccbaa

namespace Go.Proofs.Ytjfaihpiohccbaa
open Go.RowKit
set_option maxRecDepth 10000
set_option maxHeartbeats 4000000
abbrev keptD (l : List DOp) (keep torn : Int) : D := .fn 67 [] [.pt [.sl false false (l.map opD)], .pt [.lit (.int .i64 keep)], .pt [.lit (.int .i64 torn)]]
theorem kept_v (l : List DOp) (keep torn : Int) : VP Try.prog 45 [.sl false false (l.map opD), .lit (.int .i64 keep), .lit (.int .i64 torn)] (· = .ret (keptD l keep torn)) := by
  refine vp_of Try.func45 rfl Try.ntmps45 rfl Try.results45 fun B => ?_
  repeat' (first | fail | fail | refine nzl ?_ | refine nzd ?_ | ((first | with_reducible refine vl_id ?_ | with_reducible refine vd_id ?_); first | fail) | refine nzo ?_ | refine nc ?_ ?_ | (with_reducible intro _ <;> (try (exfalso; omega))) | refine vs_eqnil ?_ | refine vs_nenil ?_ | (refine nd ?_ ?_ <;> intro hg <;> (first | (exfalso; (try simp only [decide_eq_true_eq, decide_eq_false_iff_not] at hg); omega) | rw [hg])) | fail)
  all_goals rfl
/-- so much of an operation's bytes -/
def DOp.cut (o : DOp) (n : Int) : DOp := { o with b := o.b.take n.toNat }
/-- what is kept, from i on -/
def keptL (keep torn : Int) : Nat → List DOp → List DOp
  | _, [] => []
  | i, o :: l => if (i : Int) = keep then (if o.k = 1 then [o.cut torn] else []) else if keep < i then [] else o :: keptL keep torn (i + 1) l
def Dk.clear (d : Dk) : Dk := { d with waits := [] }
def Dk.doAll (d : Dk) (l : List DOp) : Dk := l.foldl Dk.done d
theorem Dk.done_len (d : Dk) (o : DOp) (n m : Nat) (h : d.len n) (ho : o.b.length ≤ m) : (d.done o).len (n + m) := by
  simp only [Dk.len] at h
  simp only [Dk.done]
  split
  · simp only [Dk.put, Dk.len]
    split
    · simp; omega
    · split
      · simp; omega
      · split
        · simp; omega
        · simp; omega
  · split
    · simp only [Dk.empty, Dk.len]
      split
      · simp; omega
      · split
        · simp; omega
        · split
          · simp; omega
          · simp; omega
    · simp only [Dk.len]; omega
theorem cutL_take (b : List UInt8) (n : Int) (h : 0 ≤ n) : cutL none (some (min n (b.length : Int))) (byD b) = byD (b.take n.toNat) := by
  rw [cutL_eq]
  simp only [Option.getD_some, Option.getD_none, byD, Int.toNat_zero, List.drop_zero, ← List.map_take]
  congr 1
  rw [show (min n (b.length : Int)).toNat = min n.toNat b.length by omega]
  simp [List.take_eq_take_iff]
theorem settle_v (d : Dk) (l : List DOp) (keep torn : Int) (hk : 0 ≤ keep) (ht : 0 ≤ torn) (hl : ∀ o ∈ l, (1 ≤ o.k ∧ o.k ≤ 3) ∧ (0 ≤ o.f ∧ o.f < 4) ∧ o.b.length ≤ 1000000000) (hd : d.len 4194304) (hln : l.length ≤ 4096) :
    VM1 Try.prog 44 1 [.ptr 0 0, .d (keptD l keep torn)] (drF d) 5 (.ret (.tup [])) (drE (d.doAll (keptL keep torn 0 l)).clear) 6 := by
  refine vm1_of Try.func44 rfl Try.ntmps44 Try.results44 fun B M => ?_
  repeat' (first | fail | fail | refine nzl ?_ | refine nzd ?_ | ((first | with_reducible refine vl_id ?_ | with_reducible refine vd_id ?_); first | fail) | refine nzo ?_ | refine nc ?_ ?_ | (with_reducible intro _ <;> (try (exfalso; omega))) | refine vs_eqnil ?_ | refine vs_nenil ?_ | (refine nd ?_ ?_ <;> intro hg <;> (first | (exfalso; (try simp only [decide_eq_true_eq, decide_eq_false_iff_not] at hg); omega) | rw [hg])) | fail)
  refine vw_range rfl rfl rfl rfl rfl rfl rfl fun R T hOk => ?_
  refine vmb_of Try.func67 rfl Try.ntmps67 Try.results67 fun M2 => ?_
  repeat' (first | fail | fail | refine nzl ?_ | refine nzd ?_ | ((first | with_reducible refine vl_id ?_ | with_reducible refine vd_id ?_); first | fail) | refine nzo ?_ | refine nc ?_ ?_ | (with_reducible intro _ <;> (try (exfalso; omega))) | refine vs_eqnil ?_ | refine vs_nenil ?_ | (refine nd ?_ ?_ <;> intro hg <;> (first | (exfalso; (try simp only [decide_eq_true_eq, decide_eq_false_iff_not] at hg); omega) | rw [hg])) | fail)
  refine vw_loop (fun z : Nat × Dk => ⟨[(10, I .i64 z.1), (9, I .i64 (l.map opD).length), (8, .d (.sl false false (l.map opD))), (0, .yl 6), (1, .d (.pt [.sl false false (l.map opD)])), (2, .d (.pt [.lit (.int .i64 keep)])), (3, .d (.pt [.lit (.int .i64 torn)]))],
    .y 6 (some R) T [(14, .yl 6), (2, .ptr 5 0)] :: .c 5 0 [.ptr 0 0] :: drF z.2, 7⟩)
    (fun z => z.1 ≤ l.length ∧ d.doAll (keptL keep torn 0 l) = z.2.doAll (keptL keep torn z.1 (l.drop z.1)) ∧ z.2.len (4194304 + z.1 * 1000000000)) (fun z => l.length - z.1) (0, d) (sub_z) ⟨Nat.zero_le _, rfl, by simpa using hd⟩ fun z hz => ?_
  obtain ⟨i, dd⟩ := z
  obtain ⟨hi, heq, hlen⟩ := hz
  simp only at hi heq hlen
  have hlm : (l.map opD).length = l.length := List.length_map _
  rcases Nat.lt_or_ge i l.length with h | h
  · have ho : l[i]? = some l[i] := List.getElem?_eq_getElem h
    obtain ⟨hok, hof, hob⟩ := hl _ (List.getElem_mem h)
    have hdrop : l.drop i = l[i] :: l.drop (i + 1) := List.drop_eq_getElem_cons h
    generalize l[i] = o at *
    have hx' : (l.map opD)[((i : Nat) : Int).toNat]? = some (opD o) := by simp [ho]
    rw [hdrop] at heq
    have hdl : dd.len 10000000000000 := by simp only [Dk.len] at hlen ⊢; omega
    have c1 := does_v dd o hok hof hdl hob
    have c2 := does_v dd (o.cut torn) hok hof hdl (by simp only [DOp.cut, List.length_take]; omega)
    have l1 := Dk.done_len dd o _ _ hlen hob
    have l2 := Dk.done_len dd (o.cut torn) _ _ hlen (show _ ≤ 1000000000 by simp only [DOp.cut, List.length_take]; omega)
    obtain ⟨k, f, b⟩ := o
    have hcut := cutL_take b torn ht
    have hbl : (byD b).length = b.length := byD_len b
    simp only [DOp.cut] at hok hof hob c1 c2 l1 l2 heq
    simp only [opD] at hx'
    by_cases h1 : (i : Int) = keep
    · by_cases h2 : k = 1
      · have he : keptL keep torn i (⟨k, f, b⟩ :: l.drop (i + 1)) = [⟨k, f, b.take torn.toNat⟩] := by simp only [keptL, if_pos h1, if_pos h2, DOp.cut]
        rw [he] at heq
        have he2 : keptL keep torn (i + 1) (l.drop (i + 1)) = [] := by
          cases l.drop (i + 1) with
          | nil => rfl
          | cons o r => simp only [keptL]; rw [if_neg (by omega), if_pos (by omega)]
        repeat' (first | fail | fail | refine nzl ?_ | refine nzd ?_ | ((first | with_reducible refine vl_id ?_ | with_reducible refine vd_id ?_); first | fail) | refine nzo ?_ | refine nc ?_ ?_ | (with_reducible intro _ <;> (try (exfalso; omega))) | refine vs_eqnil ?_ | refine vs_nenil ?_ | (refine nd ?_ ?_ <;> intro hg <;> (first | (exfalso; (try simp only [decide_eq_true_eq, decide_eq_false_iff_not] at hg); omega) | rw [hg])) | fail)
        simp only [hbl, hcut]
        repeat' (first | fail | fail | refine nzl ?_ | refine nzd ?_ | ((first | with_reducible refine vl_id ?_ | with_reducible refine vd_id ?_); first | refine vs_yield (by assumption) fun _ _ => ?_ | refine vs_vm [(0, none), (1, some _), (2, some _), (3, some _), (4, some _)] c2 ?_) | refine nzo ?_ | refine nc ?_ ?_ | (with_reducible intro _ <;> (try (exfalso; omega))) | refine vs_eqnil ?_ | refine vs_nenil ?_ | (refine nd ?_ ?_ <;> intro hg <;> (first | (exfalso; (try simp only [decide_eq_true_eq, decide_eq_false_iff_not] at hg); omega) | rw [hg])) | fail)
        exact nx_loop (i + 1, dd.done ⟨k, f, b.take torn.toNat⟩) ⟨by simp only; omega, by rw [heq, he2]; rfl, by simp only at l2 ⊢; rw [Nat.add_mul]; simpa [Nat.add_assoc] using l2⟩ (by simp only; omega) (sub_zr [(1, _, _), (2, _, _), (3, _, _), (4, _, _)])
      · have he : keptL keep torn i (⟨k, f, b⟩ :: l.drop (i + 1)) = [] := by simp only [keptL, if_pos h1, if_neg h2]
        rw [he] at heq
        repeat' (first | fail | fail | refine nzl ?_ | refine nzd ?_ | ((first | with_reducible refine vl_id ?_ | with_reducible refine vd_id ?_); first | fail) | refine nzo ?_ | refine nc ?_ ?_ | (with_reducible intro _ <;> (try (exfalso; omega))) | refine vs_eqnil ?_ | refine vs_nenil ?_ | (refine nd ?_ ?_ <;> intro hg <;> (first | (exfalso; (try simp only [decide_eq_true_eq, decide_eq_false_iff_not] at hg); omega) | rw [hg])) | fail)
        rw [heq]
        refine nx_subn 0 5 opT 3 rfl ?_
        exact nx_sub [(5, _, _)]
    · by_cases h2 : (i : Int) < keep
      · have he : keptL keep torn i (⟨k, f, b⟩ :: l.drop (i + 1)) = ⟨k, f, b⟩ :: keptL keep torn (i + 1) (l.drop (i + 1)) := by simp only [keptL, if_neg h1, if_neg (show ¬ keep < (i : Int) by omega)]
        rw [he] at heq
        repeat' (first | fail | fail | refine nzl ?_ | refine nzd ?_ | ((first | with_reducible refine vl_id ?_ | with_reducible refine vd_id ?_); first | refine vs_yield (by assumption) fun _ _ => ?_ | refine vs_vm [(0, none), (1, some _), (2, some _), (3, some _), (4, some _)] c1 ?_) | refine nzo ?_ | refine nc ?_ ?_ | (with_reducible intro _ <;> (try (exfalso; omega))) | refine vs_eqnil ?_ | refine vs_nenil ?_ | (refine nd ?_ ?_ <;> intro hg <;> (first | (exfalso; (try simp only [decide_eq_true_eq, decide_eq_false_iff_not] at hg); omega) | rw [hg])) | fail)
        exact nx_loop (i + 1, dd.done ⟨k, f, b⟩) ⟨by simp only; omega, by rw [heq]; rfl, by simp only at l1 ⊢; rw [Nat.add_mul]; simpa [Nat.add_assoc] using l1⟩ (by simp only; omega) (sub_zr [(1, _, _), (2, _, _), (3, _, _), (4, _, _)])
      · have he : keptL keep torn i (⟨k, f, b⟩ :: l.drop (i + 1)) = [] := by simp only [keptL, if_neg h1, if_pos (show keep < (i : Int) by omega)]
        rw [he] at heq
        repeat' (first | fail | fail | refine nzl ?_ | refine nzd ?_ | ((first | with_reducible refine vl_id ?_ | with_reducible refine vd_id ?_); first | fail) | refine nzo ?_ | refine nc ?_ ?_ | (with_reducible intro _ <;> (try (exfalso; omega))) | refine vs_eqnil ?_ | refine vs_nenil ?_ | (refine nd ?_ ?_ <;> intro hg <;> (first | (exfalso; (try simp only [decide_eq_true_eq, decide_eq_false_iff_not] at hg); omega) | rw [hg])) | fail)
        rw [heq]
        refine nx_subn 0 5 opT 3 rfl ?_
        exact nx_sub [(5, _, _)]
  · rw [List.drop_eq_nil_of_le h] at heq
    repeat' (first | fail | fail | refine nzl ?_ | refine nzd ?_ | ((first | with_reducible refine vl_id ?_ | with_reducible refine vd_id ?_); first | fail) | refine nzo ?_ | refine nc ?_ ?_ | (with_reducible intro _ <;> (try (exfalso; omega))) | refine vs_eqnil ?_ | refine vs_nenil ?_ | (refine nd ?_ ?_ <;> intro hg <;> (first | (exfalso; (try simp only [decide_eq_true_eq, decide_eq_false_iff_not] at hg); omega) | rw [hg])) | fail)
    rw [heq]
    refine nx_subn 0 5 opT 3 rfl ?_
    exact nx_sub [(5, _, _)]
end Go.Proofs.Ytjfaihpiohccbaa

namespace Go.Proofs.Ytjfaihpiohccbaa
open Go.RowKit
set_option maxRecDepth 10000
set_option maxHeartbeats 4000000
/-- the log of a disk that is new: variable 1, rows 2 to 6 -/
abbrev drG (d : Dk) : List E := [.c 1 0 [.row 2 0, .row 3 0, .row 4 0, .row 5 0, .d (.lit (.int .i64 d.head)), .row 6 0, .d (.lit (.bool d.down)), .d (.lit (.int .i64 d.fuse))],
  .r true true 2 0 u8T 1 (byD d.f0), .r true true 3 0 u8T 1 (byD d.f1), .r true true 4 0 u8T 1 (byD d.f2), .r true true 5 0 u8T 1 (byD d.f3), .r true true 6 0 opT 3 (d.waits.map opN)]
theorem of_v (d : Dk) (hl : d.len 4194304) (hw : d.waits.length ≤ 4096) (hb : ∀ o ∈ d.waits, o.b.length ≤ 1000000000) : VM1 Try.prog 65 0 [.d (.agg (dkD d))] [] 0 (.ret (.ptr 1 0)) (drG d) 7 := by
  have c0 := own_v d.f0 (by simp only [Dk.len] at hl; omega)
  have c1 := own_v d.f1 (by simp only [Dk.len] at hl; omega)
  have c2 := own_v d.f2 (by simp only [Dk.len] at hl; omega)
  have c3 := own_v d.f3 (by simp only [Dk.len] at hl; omega)
  refine vm1_of Try.func65 rfl Try.ntmps65 Try.results65 fun B M => ?_
  simp only [dkD]
  repeat' (first | fail | fail | refine nzl ?_ | refine nzd ?_ | ((first | with_reducible refine vl_id ?_ | with_reducible refine vd_id ?_); first | fail) | refine nzo ?_ | refine nc ?_ ?_ | (with_reducible intro _ <;> (try (exfalso; omega))) | refine vs_eqnil ?_ | refine vs_nenil ?_ | (refine nd ?_ ?_ <;> intro hg <;> (first | (exfalso; (try simp only [decide_eq_true_eq, decide_eq_false_iff_not] at hg); omega) | rw [hg])) | fail)
  refine vw_rounds 5 ?_
  repeat' (first | fail | fail | refine nzl ?_ | refine nzd ?_ | ((first | with_reducible refine vl_id ?_ | with_reducible refine vd_id ?_); first | refine cz (c0) ?_ | refine cz (c1) ?_ | refine cz (c2) ?_ | refine cz (c3) ?_) | refine nzo ?_ | refine nc ?_ ?_ | (with_reducible intro _ <;> (try (exfalso; omega))) | refine vs_eqnil ?_ | refine vs_nenil ?_ | (refine nd ?_ ?_ <;> intro hg <;> (first | (exfalso; (try simp only [decide_eq_true_eq, decide_eq_false_iff_not] at hg); omega) | rw [hg])) | fail)
  refine vw_nilC 1 5 opT 3 rfl ?_
  have hlm : (d.waits.map opD).length = d.waits.length := List.length_map _
  refine vw_loop (fun i : Nat => ⟨[(35, I .i64 i), (34, I .i64 (d.waits.map opD).length), (33, .d (.sl false false (d.waits.map opD))), (3, .ptr 1 0)], drG { d with waits := d.waits.take i }, 7⟩) (fun i => i ≤ d.waits.length) (fun i => d.waits.length - i) 0 (sub_zr [(2, _, _), (3, _, _), (4, _, _), (5, _, _), (6, _, _)]) (Nat.zero_le _) fun i hi => ?_
  rcases Nat.lt_or_ge i d.waits.length with h | h
  · have ho : d.waits[i]? = some d.waits[i] := List.getElem?_eq_getElem h
    have hob := hb _ (List.getElem_mem h)
    have htk : d.waits.take (i + 1) = d.waits.take i ++ [d.waits[i]] := by rw [List.take_add_one, ho]; rfl
    generalize d.waits[i] = o at *
    have hx' : (d.waits.map opD)[((i : Nat) : Int).toNat]? = some (opD o) := by simp [ho]
    have c := (own_v o.b (by omega)).data
    have htl : ((d.waits.take i).map opN).length ≤ 4096 := by simp; omega
    simp only [opD] at hx'
    repeat' (first | fail | refine vw_drawkx (id := 10) [6] ?_ | refine nzl ?_ | refine nzd ?_ | ((first | with_reducible refine vl_id ?_ | with_reducible refine vd_id ?_); first | refine cz (c) ?_) | refine nzo ?_ | refine nc ?_ ?_ | (with_reducible intro _ <;> (try (exfalso; omega))) | refine vs_eqnil ?_ | refine vs_nenil ?_ | (refine nd ?_ ?_ <;> intro hg <;> (first | (exfalso; (try simp only [decide_eq_true_eq, decide_eq_false_iff_not] at hg); omega) | rw [hg])) | fail)
    refine nx_loop (i + 1) (show i + 1 ≤ _ by omega) (show d.waits.length - (i + 1) < d.waits.length - i by omega) ?_
    simp only [htk, drG, List.map_append, List.map_cons, List.map_nil]
    exact (sub_zr [(2, _, _), (3, _, _), (4, _, _), (5, _, _), (6, _, _)])
  · have htk : d.waits.take i = d.waits := List.take_of_length_le h
    repeat' (first | fail | fail | refine nzl ?_ | refine nzd ?_ | ((first | with_reducible refine vl_id ?_ | with_reducible refine vd_id ?_); first | fail) | refine nzo ?_ | refine nc ?_ ?_ | (with_reducible intro _ <;> (try (exfalso; omega))) | refine vs_eqnil ?_ | refine vs_nenil ?_ | (refine nd ?_ ?_ <;> intro hg <;> (first | (exfalso; (try simp only [decide_eq_true_eq, decide_eq_false_iff_not] at hg); omega) | rw [hg])) | fail)
    rw [htk]
    exact nx_sub []
end Go.Proofs.Ytjfaihpiohccbaa

namespace Go.Proofs.Ytjfaihpiohccbaa
open Go.RowKit
set_option maxRecDepth 10000
set_option maxHeartbeats 4000000
inductive SR where
  | pan (e : Int)
  | ok (up : Bool) (d : Dk)
def syncB (o : DOp) : Bool := decide (o.k = 4) && decide (o.f = 0) && decide (o.b.length = 0)
def aftL (s : S4) (l : List DOp) : S4 := l.foldl (fun s o => aft o s) s
def Dk.fits (d : Dk) (o : DOp) : Bool := decide (d.waits.length < 4096) && decide ((aftL (sz4 d) (d.waits ++ [o])).get o.f ≤ 4194304)
def Dk.step (d : Dk) (o : DOp) : SR :=
  if (mayD o || syncB o) = false then .pan 2
  else if d.down then .ok false d
  else if syncB o = false ∧ d.fits o = false then .pan 6
  else if d.fuse = 1 then .ok false { d with down := true, fuse := 0 }
  else if syncB o then .ok true ({ d with fuse := max (d.fuse - 1) 0 }.doAll (keptL d.waits.length 0 0 d.waits)).clear
  else .ok true { d with fuse := max (d.fuse - 1) 0, waits := d.waits ++ [o] }
abbrev errD (e : Int) : D := .ifc 32 (.lit (.int .i64 e))
theorem need_if (c : Bool) (e : Int) : VP Try.prog 42 [.lit (.bool c), .lit (.int .i64 e)] (· = if c then .ret (.tup []) else .panic (errD e)) := by
  cases c with
  | true => exact need_ok e
  | false => exact need_no e
def stepK (s : SR) : RC → List E → Nat → Prop := match s with
  | .pan e => subK 1 (.panic (.d (errD e))) [] 1
  | .ok up d' => subK 1 (.ret (.d (.lit (.bool up)))) (drE d') 6
theorem check_fuse (d : Dk) (h : checkB d = true) : 0 ≤ d.fuse ∧ d.fuse ≤ 4096 ∧ d.waits.length ≤ 4096 := by
  simp [checkB, flatK] at h; omega
theorem check_may (d : Dk) (h : checkB d = true) : ∀ o ∈ d.waits, mayD o = true := by
  simp [checkB] at h; exact h.1.1.2
theorem may_kf (o : DOp) (h : mayD o = true) : (1 ≤ o.k ∧ o.k ≤ 3) ∧ 0 ≤ o.f ∧ o.f < 4 := by simp [mayD, mayOp, isFile] at h; omega
theorem fits_iff (n : Int) : fits n = true ↔ n ≤ 4194304 := by simp [fits]
theorem check_len (d : Dk) (h : checkB d = true) : d.len 4194304 := by
  simp only [checkB, fits4, Bool.and_eq_true] at h
  obtain ⟨⟨_, ⟨⟨h1, h2⟩, h3⟩, h4⟩, _⟩ := h
  have k1 := (fits_iff _).1 h1
  have k2 := (fits_iff _).1 h2
  have k3 := (fits_iff _).1 h3
  have k4 := (fits_iff _).1 h4
  simp only [sz4] at k1 k2 k3 k4
  simp only [Dk.len]
  omega
/-- a sync -/
theorem step_sync (d : Dk) (o : DOp) (h1 : mayD o = false) (h2 : syncB o = true) (hc : checkB d = true) (hb : ∀ o ∈ d.waits, o.b.length ≤ 1000000000) : VM Try.prog 50 1 [.ptr 0 0, .d (.agg (opD o))] (drE d) 6 (stepK (d.step o)) := by
  have cm := may_d o
  rw [h1] at cm
  obtain ⟨hf0, hf1, hw⟩ := check_fuse d hc
  have hwl : (d.waits.map opN).length = d.waits.length := List.length_map _
  have ck := kept_v d.waits (d.waits.map opN).length 0
  have cs := settle_v { d with fuse := max (d.fuse - 1) 0 } d.waits (d.waits.map opN).length 0 (by omega) (Int.le_refl _) (fun o ho => ⟨(may_kf o (check_may d hc o ho)).1, (may_kf o (check_may d hc o ho)).2, hb o ho⟩) (check_len d hc) hw
  have hst : d.step o = if d.down then .ok false d else if d.fuse = 1 then .ok false { d with down := true, fuse := 0 } else .ok true ({ d with fuse := max (d.fuse - 1) 0 }.doAll (keptL (d.waits.map opN).length 0 0 d.waits)).clear := by
    rw [hwl]; simp only [Dk.step, h1, h2]; simp
  obtain ⟨k, f, b⟩ := o
  have hbl := byD_len b
  simp [syncB] at h2
  refine vm_of Try.func50 rfl Try.ntmps50 Try.results50 fun B M => ?_
  simp only [opD, keptD] at cm ck cs ⊢
  rw [hst]
  have hbl0 : ((byD b).length : Int) = 0 := by rw [hbl]; simp [h2]
  by_cases g1 : d.down = true
  · repeat' (first | fail | fail | refine nzl ?_ | refine nzd ?_ | ((first | with_reducible refine vl_id ?_ | with_reducible refine vd_id ?_); first | refine cz (cm) ?_ | refine cz (need_ok 2) ?_ | (refine vs_cifp (need_if _ 2) ?_ ?_ <;> intro _ <;> (try (exfalso; omega))) | (refine vs_cif (need_if _ 2) ?_ ?_ <;> intro _)) | refine nzo ?_ | refine nc ?_ ?_ | (with_reducible intro _ <;> (try (exfalso; omega))) | refine vs_eqnil ?_ | refine vs_nenil ?_ | (refine nd ?_ ?_ <;> intro hg <;> (first | (exfalso; (try simp only [decide_eq_true_eq, decide_eq_false_iff_not] at hg); omega) | rw [hg])) | fail)
    all_goals first | (exfalso; simp_all; fail_if_success (focus skip)) | (rw [if_pos g1]; exact nx_sub [])
  · by_cases g2 : d.fuse = 1
    · repeat' (first | fail | fail | refine nzl ?_ | refine nzd ?_ | ((first | with_reducible refine vl_id ?_ | with_reducible refine vd_id ?_); first | refine cz (cm) ?_ | refine cz (need_ok 2) ?_ | (refine vs_cifp (need_if _ 2) ?_ ?_ <;> intro _ <;> (try (exfalso; omega))) | (refine vs_cif (need_if _ 2) ?_ ?_ <;> intro _)) | refine nzo ?_ | refine nc ?_ ?_ | (with_reducible intro _ <;> (try (exfalso; omega))) | refine vs_eqnil ?_ | refine vs_nenil ?_ | (refine nd ?_ ?_ <;> intro hg <;> (first | (exfalso; (try simp only [decide_eq_true_eq, decide_eq_false_iff_not] at hg); omega) | rw [hg])) | fail)
      all_goals first | (exfalso; simp_all; fail_if_success (focus skip)) | (rw [if_neg g1, if_pos g2]; exact nx_sub [])
    · refine vw_frz 5 rfl ?_
      repeat' (first | fail | fail | refine nzl ?_ | refine nzd ?_ | ((first | with_reducible refine vl_id ?_ | with_reducible refine vd_id ?_); first | refine cz (cm) ?_ | refine cz (need_ok 2) ?_ | (refine vs_cifp (need_if _ 2) ?_ ?_ <;> intro _ <;> (try (exfalso; omega))) | (refine vs_cif (need_if _ 2) ?_ ?_ <;> intro _) | refine cz (ck) ?_ | refine vs_vm [(0, none), (1, some _), (2, some _), (3, some _), (4, some _)] cs ?_) | refine nzo ?_ | refine nc ?_ ?_ | (with_reducible intro _ <;> (try (exfalso; omega))) | refine vs_eqnil ?_ | refine vs_nenil ?_ | (refine nd ?_ ?_ <;> intro hg <;> (first | (exfalso; (try simp only [decide_eq_true_eq, decide_eq_false_iff_not] at hg); omega) | rw [hg])) | fail)
      all_goals first | (exfalso; simp_all; fail_if_success (focus skip)) | (rw [if_neg g1, if_neg g2]; exact nx_sub [(1, _, _), (2, _, _), (3, _, _), (4, _, _), (5, _, _)])
end Go.Proofs.Ytjfaihpiohccbaa

namespace Go.Proofs.Ytjfaihpiohccbaa
open Go.RowKit
set_option maxRecDepth 10000
set_option maxHeartbeats 4000000
theorem aft_fits (s : S4) (o : DOp) (l : List DOp) (hs : s.in) (hf : 0 ≤ o.f ∧ o.f < 4) (h : stepsOk s (o :: l) = true) : (aft o s).in ∧ stepsOk (aft o s) l = true := by
  simp only [stepsOk, Bool.and_eq_true] at h
  exact ⟨aft_in s o hs h.1 hf, h.2⟩
theorem check_in (d : Dk) (h : checkB d = true) : (sz4 d).in ∧ stepsOk (sz4 d) d.waits = true := by
  have h2 := check_len d h
  simp only [checkB, Bool.and_eq_true] at h
  refine ⟨?_, h.2⟩
  simp only [Dk.len] at h2
  simp only [S4.in, sz4]
  omega
theorem step_may (d : Dk) (o : DOp) (h1 : mayD o = true) (hc : checkB d = true) (hb : ∀ o ∈ d.waits, o.b.length ≤ 1000000000) (hob : o.b.length ≤ 1000000000) : VM Try.prog 50 1 [.ptr 0 0, .d (.agg (opD o))] (drE d) 6 (stepK (d.step o)) := by
  have cm := may_d o
  rw [h1] at cm
  obtain ⟨hf0, hf1, hw⟩ := check_fuse d hc
  have hwl : (d.waits.map opN).length = d.waits.length := List.length_map _
  have hkf := may_kf o h1
  have csz := sized_v d
  simp only [dkD] at csz
  have hsy : syncB o = false := by simp [syncB]; omega
  have hst : d.step o = if d.down then .ok false d else if d.fits o = false then .pan 6 else if d.fuse = 1 then .ok false { d with down := true, fuse := 0 } else .ok true { d with fuse := max (d.fuse - 1) 0, waits := d.waits ++ [o] } := by
    simp only [Dk.step, h1, hsy]; simp
  have hbl := byD_len o.b
  have co := (own_v o.b (by omega)).data
  have hL : ((d.waits.map opN ++ [opD o]).length : Int) = d.waits.length + 1 := by simp
  obtain ⟨hin, hso⟩ := check_in d hc
  refine vm_of Try.func50 rfl Try.ntmps50 Try.results50 fun B M => ?_
  rw [hst]
  simp only [opD] at cm ⊢
  repeat' (first | fail | fail | refine nzl ?_ | refine nzd ?_ | ((first | with_reducible refine vl_id ?_ | with_reducible refine vd_id ?_); first | refine cz (cm) ?_ | refine cz (need_ok 2) ?_ | refine cz (csz) ?_) | refine nzo ?_ | refine nc ?_ ?_ | (with_reducible intro _ <;> (try (exfalso; omega))) | refine vs_eqnil ?_ | refine vs_nenil ?_ | (refine nd ?_ ?_ <;> intro hg <;> (first | (exfalso; (try simp only [decide_eq_true_eq, decide_eq_false_iff_not] at hg); omega) | rw [hg])) | fail)
  · rename_i g1; rw [if_pos g1]; exact nx_sub []
  rename_i g1 _
  rw [if_neg (by simp_all)]
  simp only [Int.toNat_natCast, List.take_length]
  refine vw_loop (fun z : Nat × S4 => ⟨[(63, I .i64 z.1), (62, I .i64 (d.waits.map opN ++ [opD o]).length), (61, .row 9 0), (6, .ptr 7 0), (0, .ptr 0 0), (3, .ptr 6 0), (5, .d (.lit (.bool false)))],
    .c 7 0 ((szD z.2).map .d) :: .c 6 0 ((opD o).map .d) :: .r true true 9 0 opT 3 (d.waits.map opN ++ [opD o]) :: drE d, 10⟩)
    (fun z => z.1 ≤ d.waits.length + 1 ∧ aftL (sz4 d) (d.waits ++ [o]) = aftL z.2 ((d.waits ++ [o]).drop z.1) ∧ (z.1 ≤ d.waits.length → z.2.in ∧ stepsOk z.2 (d.waits.drop z.1) = true)) (fun z => d.waits.length + 1 - z.1) (0, sz4 d) (sub_z) ⟨Nat.zero_le _, rfl, fun _ => ⟨hin, hso⟩⟩ fun z hz => ?_
  obtain ⟨i, s⟩ := z
  obtain ⟨hi, heq, hs⟩ := hz
  simp only at hi heq hs
  rcases Nat.lt_or_ge i d.waits.length with h | h
  · have ho : d.waits[i]? = some d.waits[i] := List.getElem?_eq_getElem h
    have hwb := hb _ (List.getElem_mem h)
    have hwf := may_kf _ (check_may d hc _ (List.getElem_mem h))
    have hdrop : d.waits.drop i = d.waits[i] :: d.waits.drop (i + 1) := List.drop_eq_getElem_cons h
    generalize d.waits[i] = w at *
    have hx' : (d.waits.map opN ++ [opD o])[((i : Nat) : Int).toNat]? = some (opN w) := by
      simp only [Int.toNat_natCast]
      rw [List.getElem?_append_left (by simp; omega)]; simp [ho]
    obtain ⟨hs1, hs2⟩ := hs (by omega)
    rw [hdrop] at hs2
    have haf := after_v s w hs1 hwf.2 (by omega)
    have hnx := aft_fits s w _ hs1 hwf.2 hs2
    have heq' : aftL (sz4 d) (d.waits ++ [o]) = aftL (aft w s) ((d.waits ++ [o]).drop (i + 1)) := by
      rw [heq, List.drop_append_of_le_length (by omega), hdrop, List.drop_append_of_le_length (by omega)]; rfl
    simp only [opD] at haf hx'
    repeat' (first | fail | fail | refine nzl ?_ | refine nzd ?_ | ((first | with_reducible refine vl_id ?_ | with_reducible refine vd_id ?_); first | refine cz (haf) ?_) | refine nzo ?_ | refine nc ?_ ?_ | (with_reducible intro _ <;> (try (exfalso; omega))) | refine vs_eqnil ?_ | refine vs_nenil ?_ | (refine nd ?_ ?_ <;> intro hg <;> (first | (exfalso; (try simp only [decide_eq_true_eq, decide_eq_false_iff_not] at hg); omega) | rw [hg])) | fail)
    exact nx_loop (i + 1, aft w s) ⟨by simp only; omega, heq', fun _ => hnx⟩ (by simp only; omega) (sub_z)
  · rcases Nat.lt_or_ge i (d.waits.length + 1) with h5 | h5
    · have hi' : i = d.waits.length := by omega
      subst hi'
      have hx' : (d.waits.map opN ++ [opD o])[((d.waits.length : Nat) : Int).toNat]? = some (opD o) := by
        simp only [Int.toNat_natCast]
        rw [List.getElem?_append_right (by simp)]; simp
      obtain ⟨hs1, _⟩ := hs (by omega)
      have haf := after_v s o hs1 hkf.2 (by omega)
      have heq' : aftL (sz4 d) (d.waits ++ [o]) = aft o s := by
        rw [heq]; simp [aftL]
      simp only [opD] at haf hx'
      repeat' (first | fail | fail | refine nzl ?_ | refine nzd ?_ | ((first | with_reducible refine vl_id ?_ | with_reducible refine vd_id ?_); first | refine cz (haf) ?_) | refine nzo ?_ | refine nc ?_ ?_ | (with_reducible intro _ <;> (try (exfalso; omega))) | refine vs_eqnil ?_ | refine vs_nenil ?_ | (refine nd ?_ ?_ <;> intro hg <;> (first | (exfalso; (try simp only [decide_eq_true_eq, decide_eq_false_iff_not] at hg); omega) | rw [hg])) | fail)
      exact nx_loop (d.waits.length + 1, aft o s) ⟨by simp only; omega, by rw [heq']; simp [aftL], fun h => by simp only at h; omega⟩ (by simp only; omega) (sub_z)
    · have heq' : aftL (sz4 d) (d.waits ++ [o]) = s := by
        rw [heq, List.drop_eq_nil_of_le (by simp; omega)]; rfl
      have hfit : d.fits o = (decide (d.waits.length < 4096) && decide (s.get o.f ≤ 4194304)) := by simp only [Dk.fits, heq']
      obtain ⟨k, f, b⟩ := o
      simp only at hkf
      have h4 : f = 0 ∨ f = 1 ∨ f = 2 ∨ f = 3 := by omega
      simp only at hfit co hbl
      rcases h4 with rfl | rfl | rfl | rfl
      · have hg : s.get 0 = s.a := rfl
        rw [hg] at hfit
        have y : d.waits.length < 4096 → s.a ≤ 4194304 → ¬ (d.fits ⟨k, 0, b⟩ = false) := fun a b => by rw [hfit, decide_eq_true a, decide_eq_true b]; simp
        have n1 : ¬ d.waits.length < 4096 → d.fits ⟨k, 0, b⟩ = false := fun a => by rw [hfit, decide_eq_false a]; rfl
        have n2 : ¬ s.a ≤ 4194304 → d.fits ⟨k, 0, b⟩ = false := fun a => by rw [hfit, decide_eq_false a]; exact Bool.and_false _
        clear hin hso cm csz hst heq heq' hfit hs
        simp only [opD] at hL ⊢
        repeat' (first | fail | refine vw_drawkx (id := 20) [5] ?_ | refine nzl ?_ | refine nzd ?_ | ((first | with_reducible refine vl_id ?_ | with_reducible refine vd_id ?_); first | (refine vs_cifp (need_if _ 6) ?_ ?_ <;> intro _ <;> (try (exfalso; omega))) | (refine vs_cif (need_if _ 6) ?_ ?_ <;> intro _) | refine cz (co) ?_) | refine nzo ?_ | refine nc ?_ ?_ | (with_reducible intro _ <;> (try (exfalso; omega))) | refine vs_eqnil ?_ | refine vs_nenil ?_ | (refine nd ?_ ?_ <;> intro hg <;> (first | (exfalso; (try simp only [decide_eq_true_eq, decide_eq_false_iff_not] at hg); omega) | rw [hg])) | fail)
        all_goals first
          | exact (Bool.false_ne_true (by assumption)).elim
          | (rw [if_neg (y (by omega) (by omega)), if_pos (c := d.fuse = 1) (by assumption)]; exact nx_sub [])
          | (rw [if_neg (y (by omega) (by omega)), if_neg (c := d.fuse = 1) (by assumption)]; simp only [stepK, drE, List.map_append, List.map_cons, List.map_nil]; exact nx_sub [(5, _, _)])
          | (rw [if_pos (n2 (by omega))]; exact nx_subp [])
          | (rw [if_pos (n1 (by omega))]; exact nx_subp [])
      · have hg : s.get 1 = s.b := rfl
        rw [hg] at hfit
        have y : d.waits.length < 4096 → s.b ≤ 4194304 → ¬ (d.fits ⟨k, 1, b⟩ = false) := fun a b => by rw [hfit, decide_eq_true a, decide_eq_true b]; simp
        have n1 : ¬ d.waits.length < 4096 → d.fits ⟨k, 1, b⟩ = false := fun a => by rw [hfit, decide_eq_false a]; rfl
        have n2 : ¬ s.b ≤ 4194304 → d.fits ⟨k, 1, b⟩ = false := fun a => by rw [hfit, decide_eq_false a]; exact Bool.and_false _
        clear hin hso cm csz hst heq heq' hfit hs
        simp only [opD] at hL ⊢
        repeat' (first | fail | refine vw_drawkx (id := 20) [5] ?_ | refine nzl ?_ | refine nzd ?_ | ((first | with_reducible refine vl_id ?_ | with_reducible refine vd_id ?_); first | (refine vs_cifp (need_if _ 6) ?_ ?_ <;> intro _ <;> (try (exfalso; omega))) | (refine vs_cif (need_if _ 6) ?_ ?_ <;> intro _) | refine cz (co) ?_) | refine nzo ?_ | refine nc ?_ ?_ | (with_reducible intro _ <;> (try (exfalso; omega))) | refine vs_eqnil ?_ | refine vs_nenil ?_ | (refine nd ?_ ?_ <;> intro hg <;> (first | (exfalso; (try simp only [decide_eq_true_eq, decide_eq_false_iff_not] at hg); omega) | rw [hg])) | fail)
        all_goals first
          | exact (Bool.false_ne_true (by assumption)).elim
          | (rw [if_neg (y (by omega) (by omega)), if_pos (c := d.fuse = 1) (by assumption)]; exact nx_sub [])
          | (rw [if_neg (y (by omega) (by omega)), if_neg (c := d.fuse = 1) (by assumption)]; simp only [stepK, drE, List.map_append, List.map_cons, List.map_nil]; exact nx_sub [(5, _, _)])
          | (rw [if_pos (n2 (by omega))]; exact nx_subp [])
          | (rw [if_pos (n1 (by omega))]; exact nx_subp [])
      · have hg : s.get 2 = s.c := rfl
        rw [hg] at hfit
        have y : d.waits.length < 4096 → s.c ≤ 4194304 → ¬ (d.fits ⟨k, 2, b⟩ = false) := fun a b => by rw [hfit, decide_eq_true a, decide_eq_true b]; simp
        have n1 : ¬ d.waits.length < 4096 → d.fits ⟨k, 2, b⟩ = false := fun a => by rw [hfit, decide_eq_false a]; rfl
        have n2 : ¬ s.c ≤ 4194304 → d.fits ⟨k, 2, b⟩ = false := fun a => by rw [hfit, decide_eq_false a]; exact Bool.and_false _
        clear hin hso cm csz hst heq heq' hfit hs
        simp only [opD] at hL ⊢
        repeat' (first | fail | refine vw_drawkx (id := 20) [5] ?_ | refine nzl ?_ | refine nzd ?_ | ((first | with_reducible refine vl_id ?_ | with_reducible refine vd_id ?_); first | (refine vs_cifp (need_if _ 6) ?_ ?_ <;> intro _ <;> (try (exfalso; omega))) | (refine vs_cif (need_if _ 6) ?_ ?_ <;> intro _) | refine cz (co) ?_) | refine nzo ?_ | refine nc ?_ ?_ | (with_reducible intro _ <;> (try (exfalso; omega))) | refine vs_eqnil ?_ | refine vs_nenil ?_ | (refine nd ?_ ?_ <;> intro hg <;> (first | (exfalso; (try simp only [decide_eq_true_eq, decide_eq_false_iff_not] at hg); omega) | rw [hg])) | fail)
        all_goals first
          | exact (Bool.false_ne_true (by assumption)).elim
          | (rw [if_neg (y (by omega) (by omega)), if_pos (c := d.fuse = 1) (by assumption)]; exact nx_sub [])
          | (rw [if_neg (y (by omega) (by omega)), if_neg (c := d.fuse = 1) (by assumption)]; simp only [stepK, drE, List.map_append, List.map_cons, List.map_nil]; exact nx_sub [(5, _, _)])
          | (rw [if_pos (n2 (by omega))]; exact nx_subp [])
          | (rw [if_pos (n1 (by omega))]; exact nx_subp [])
      · have hg : s.get 3 = s.d := rfl
        rw [hg] at hfit
        have y : d.waits.length < 4096 → s.d ≤ 4194304 → ¬ (d.fits ⟨k, 3, b⟩ = false) := fun a b => by rw [hfit, decide_eq_true a, decide_eq_true b]; simp
        have n1 : ¬ d.waits.length < 4096 → d.fits ⟨k, 3, b⟩ = false := fun a => by rw [hfit, decide_eq_false a]; rfl
        have n2 : ¬ s.d ≤ 4194304 → d.fits ⟨k, 3, b⟩ = false := fun a => by rw [hfit, decide_eq_false a]; exact Bool.and_false _
        clear hin hso cm csz hst heq heq' hfit hs
        simp only [opD] at hL ⊢
        repeat' (first | fail | refine vw_drawkx (id := 20) [5] ?_ | refine nzl ?_ | refine nzd ?_ | ((first | with_reducible refine vl_id ?_ | with_reducible refine vd_id ?_); first | (refine vs_cifp (need_if _ 6) ?_ ?_ <;> intro _ <;> (try (exfalso; omega))) | (refine vs_cif (need_if _ 6) ?_ ?_ <;> intro _) | refine cz (co) ?_) | refine nzo ?_ | refine nc ?_ ?_ | (with_reducible intro _ <;> (try (exfalso; omega))) | refine vs_eqnil ?_ | refine vs_nenil ?_ | (refine nd ?_ ?_ <;> intro hg <;> (first | (exfalso; (try simp only [decide_eq_true_eq, decide_eq_false_iff_not] at hg); omega) | rw [hg])) | fail)
        all_goals first
          | exact (Bool.false_ne_true (by assumption)).elim
          | (rw [if_neg (y (by omega) (by omega)), if_pos (c := d.fuse = 1) (by assumption)]; exact nx_sub [])
          | (rw [if_neg (y (by omega) (by omega)), if_neg (c := d.fuse = 1) (by assumption)]; simp only [stepK, drE, List.map_append, List.map_cons, List.map_nil]; exact nx_sub [(5, _, _)])
          | (rw [if_pos (n2 (by omega))]; exact nx_subp [])
          | (rw [if_pos (n1 (by omega))]; exact nx_subp [])
end Go.Proofs.Ytjfaihpiohccbaa

namespace Go.Proofs.Ytjfaihpiohccbaa
open Go.RowKit
set_option maxRecDepth 10000
set_option maxHeartbeats 4000000
theorem S4.get_in {s : S4} (h : s.in) (f : Int) : 0 ≤ s.get f ∧ s.get f ≤ 4194304 := by
  simp only [S4.in] at h; simp only [S4.get]; split <;> (try split) <;> (try split) <;> omega
theorem aft_get (s : S4) (o : DOp) : (aft o s).get o.f = aft1 o (s.get o.f) := by
  simp only [aft, S4.get]
  by_cases h0 : o.f = 0
  · simp [h0]
  · by_cases h1 : o.f = 1
    · simp [h1]
    · by_cases h2 : o.f = 2
      · simp [h2]
      · simp [h0, h1, h2]
theorem in_fits4 {s : S4} (h : s.in) : fits4 s = true := by
  simp only [S4.in] at h; simp only [fits4, fits]; simp; omega
theorem fits4_in (d : Dk) (h : fits4 (sz4 d) = true) : (sz4 d).in := by
  simp [fits4, fits] at h; simp [S4.in, sz4] at h ⊢; omega
theorem steps_len : ∀ (l : List DOp) (s : S4), s.in → l.all mayD = true → stepsOk s l = true → ∀ o ∈ l, o.b.length ≤ 4194304
  | [], _, _, _, _, o, ho => by simp at ho
  | x :: l, s, hs, hm, h, o, ho => by
    simp only [stepsOk, Bool.and_eq_true] at h
    simp only [List.all_cons, Bool.and_eq_true] at hm
    have hf := (may_kf x hm.1).2
    rcases List.mem_cons.1 ho with rfl | ho
    · have h1 := (fits_iff _).1 h.1
      rw [aft_get, aft1] at h1
      have h2 := S4.get_in hs o.f
      split at h1 <;> omega
    · exact steps_len l _ (aft_in s x hs h.1 hf) hm.2 h.2 o ho
/-- a disk that may be has short operations -/
theorem check_wb (d : Dk) (h : checkB d = true) : ∀ o ∈ d.waits, o.b.length ≤ 1000000000 := fun o ho => by
  simp only [checkB, Bool.and_eq_true] at h
  have := steps_len d.waits (sz4 d) (fits4_in d h.1.2) h.1.1.2 h.2 o ho
  omega
theorem may_cases (o : DOp) (h : mayD o = true) : (o.k = 1 ∧ 0 < o.b.length) ∨ (o.k = 2 ∧ o.b = []) ∨ (o.k = 3 ∧ o.b = []) := by
  have h1 := (may_kf o h).1
  simp only [mayD, mayOp, Bool.and_eq_true, decide_eq_true_eq] at h
  have h2 := h.2
  by_cases hk : o.k = 1
  · simp only [hk, decide_true] at h2; exact .inl ⟨hk, of_decide_eq_true h2.symm⟩
  · simp only [hk, decide_false] at h2
    have h3 := of_decide_eq_false h2.symm
    have h4 : o.b = [] := List.eq_nil_of_length_eq_zero (by omega)
    rcases (show o.k = 2 ∨ o.k = 3 by omega) with h | h
    · exact .inr (.inl ⟨h, h4⟩)
    · exact .inr (.inr ⟨h, h4⟩)
/-- the sizes behind an operation that was done -/
theorem done_sz (d : Dk) (o : DOp) (h : mayD o = true) : sz4 (d.done o) = aft o (sz4 d) := by
  obtain ⟨_, hf⟩ := may_kf o h
  obtain ⟨k, f, b⟩ := o
  simp only at hf
  have h4 : f = 0 ∨ f = 1 ∨ f = 2 ∨ f = 3 := by omega
  rcases may_cases _ h with ⟨rfl, _⟩ | ⟨rfl, rfl⟩ | ⟨rfl, rfl⟩ <;> rcases h4 with rfl | rfl | rfl | rfl <;> simp [Dk.done, Dk.put, Dk.empty, sz4, aft, aft1]
theorem doAll_sz : ∀ (l : List DOp) (d : Dk), l.all mayD = true → sz4 (d.doAll l) = aftL (sz4 d) l
  | [], d, _ => rfl
  | o :: l, d, h => by
    simp only [List.all_cons, Bool.and_eq_true] at h
    show sz4 ((d.done o).doAll l) = aftL (aft o (sz4 d)) l
    rw [doAll_sz l _ h.2, done_sz d o h.1]
theorem aftL_in : ∀ (l : List DOp) (s : S4), s.in → l.all mayD = true → stepsOk s l = true → (aftL s l).in
  | [], s, hs, _, _ => hs
  | o :: l, s, hs, hm, h => by
    simp only [List.all_cons, Bool.and_eq_true] at hm
    simp only [stepsOk, Bool.and_eq_true] at h
    exact aftL_in l _ (aft_in s o hs h.1 (may_kf o hm.1).2) hm.2 h.2
theorem steps_app : ∀ (l : List DOp) (s : S4) (o : DOp), stepsOk s (l ++ [o]) = (stepsOk s l && fits ((aftL s (l ++ [o])).get o.f))
  | [], s, o => by simp [stepsOk, aftL]
  | x :: l, s, o => by
    simp only [List.cons_append, stepsOk, steps_app l, Bool.and_assoc]; rfl
theorem keptL_all : ∀ (l : List DOp) (i n : Nat) (t : Int), i + l.length ≤ n → keptL n t i l = l
  | [], _, _, _, _ => rfl
  | o :: l, i, n, t, h => by
    simp only [List.length_cons] at h
    simp only [keptL]
    rw [if_neg (by omega), if_neg (by omega), keptL_all l _ _ _ (by omega)]
theorem done_flat (d : Dk) (o : DOp) : (d.done o).waits = d.waits ∧ (d.done o).down = d.down ∧ (d.done o).fuse = d.fuse := by
  simp only [Dk.done, Dk.put, Dk.empty]
  split
  · split <;> (try split) <;> (try split) <;> simp
  · split
    · split <;> (try split) <;> (try split) <;> simp
    · simp
theorem done_head (d : Dk) (o : DOp) (h : mayD o = true) (hd : isFile d.head = true) : isFile (d.done o).head = true := by
  have h2 := (may_kf o h).2
  simp only [Dk.done, Dk.put, Dk.empty]
  split
  · split <;> (try split) <;> (try split) <;> simpa using hd
  · split
    · split <;> (try split) <;> (try split) <;> simpa using hd
    · simp [isFile]; omega
theorem doAll_flat : ∀ (l : List DOp) (d : Dk), (d.doAll l).waits = d.waits ∧ (d.doAll l).down = d.down ∧ (d.doAll l).fuse = d.fuse
  | [], d => ⟨rfl, rfl, rfl⟩
  | o :: l, d => by
    have h1 := doAll_flat l (d.done o)
    have h2 := done_flat d o
    exact ⟨h1.1.trans h2.1, h1.2.1.trans h2.2.1, h1.2.2.trans h2.2.2⟩
theorem doAll_head : ∀ (l : List DOp) (d : Dk), l.all mayD = true → isFile d.head = true → isFile (d.doAll l).head = true
  | [], d, _, h => h
  | o :: l, d, hm, h => by
    simp only [List.all_cons, Bool.and_eq_true] at hm
    exact doAll_head l (d.done o) hm.2 (done_head d o hm.1 h)
/-- all that waits, done -/
def Dk.seen (d : Dk) : Dk := (d.doAll d.waits).clear
theorem seen_sz (d : Dk) (h : checkB d = true) : sz4 d.seen = aftL (sz4 d) d.waits := by
  simp only [checkB, Bool.and_eq_true] at h
  exact doAll_sz d.waits d h.1.1.2
theorem check_mk (d : Dk) (h1 : flatK d = true) (h2 : d.waits.all mayD = true) (h3 : (sz4 d).in) (h4 : stepsOk (sz4 d) d.waits = true) : checkB d = true := by
  simp only [checkB, h1, h2, in_fits4 h3, h4, Bool.and_self]
theorem seen_check (d : Dk) (h : checkB d = true) : checkB d.seen = true := by
  have hs := seen_sz d h
  simp only [checkB, Bool.and_eq_true] at h
  have hf := h.1.1.1
  simp only [flatK, Bool.and_eq_true, decide_eq_true_eq] at hf
  obtain ⟨f1, f2, f3⟩ := doAll_flat d.waits d
  refine check_mk _ ?_ rfl (by rw [hs]; exact aftL_in _ _ (fits4_in d h.1.2) h.1.1.2 h.2) rfl
  simp only [flatK, Dk.seen, Dk.clear, f2, f3, doAll_head _ d h.1.1.2 hf.1.1.1.1, hf.2, List.length_nil]
  simp; exact ⟨hf.1.1.2, hf.1.2⟩
theorem step_check (d : Dk) (o : DOp) (up : Bool) (d' : Dk) (h : checkB d = true) (hs : d.step o = .ok up d') : checkB d' = true := by
  have hc := h
  simp only [checkB, Bool.and_eq_true] at h
  have hf := h.1.1.1
  simp only [flatK, Bool.and_eq_true, decide_eq_true_eq] at hf
  obtain ⟨⟨⟨⟨g1, g2⟩, g3⟩, g4⟩, g5⟩ := hf
  simp only [Dk.step] at hs
  split at hs
  · cases hs
  · split at hs
    · cases hs; exact hc
    · rename_i hm hd
      split at hs
      · cases hs
      · rename_i hfit
        split at hs
        · cases hs
          refine check_mk _ ?_ h.1.1.2 (fits4_in d h.1.2) h.2
          simp only [flatK, g1, g2]; simp
        · have hdn : d.down = false := by simpa using hd
          split at hs
          · cases hs
            rw [keptL_all _ _ _ _ (by omega)]
            refine seen_check { d with fuse := max (d.fuse - 1) 0 } (check_mk _ ?_ h.1.1.2 (fits4_in d h.1.2) h.2)
            simp only [flatK, g1, g2, hdn]; simp; omega
          · rename_i hsy
            cases hs
            have hsy' : syncB o = false := by simpa using hsy
            have hmo : mayD o = true := by
              rw [hsy'] at hm; simpa using hm
            have hfit' : d.fits o = true := by
              cases hq : d.fits o with
              | true => rfl
              | false => exact absurd ⟨hsy', hq⟩ hfit
            simp only [Dk.fits, Bool.and_eq_true, decide_eq_true_eq] at hfit'
            refine check_mk _ ?_ ?_ (fits4_in d h.1.2) ?_
            · simp only [flatK, g1, hdn, List.length_append, List.length_cons, List.length_nil]; simp; omega
            · simp only [List.all_append, List.all_cons, List.all_nil, hmo, h.1.1.2, Bool.and_self]
            · show stepsOk (sz4 d) (d.waits ++ [o]) = true
              rw [steps_app, h.2, Bool.true_and]
              exact (fits_iff _).2 hfit'.2
end Go.Proofs.Ytjfaihpiohccbaa
