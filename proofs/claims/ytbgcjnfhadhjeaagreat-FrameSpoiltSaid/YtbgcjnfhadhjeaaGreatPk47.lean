/- Walks by data and names, part 47: The program's frames, by V: Check of operations; Check. A function that is lent variables, walked where its frame is known. The program's frames, by V: all of a frame is read. -/
import Derived.Test.YtbgcjnfhadhjeaaGreatPk46
import Derived.Test.YtbgcjnfhadhjeaaGreatPk32
namespace Go.Proofs.YtbgcjnfhadhjeaaGreat
set_option maxRecDepth 20000
open Go.RowKit
set_option maxRecDepth 10000
set_option maxHeartbeats 8000000
theorem VY (f : Fr) (h : f.k = 3) (hl : ∀ o ∈ f.os, o.px.length ≤ 1000000) : VP Tryz.prog 11 [.agg (Bx f)] (· = .ret (Ar (if Eb f then 0 else 300))) := by
 have c1 := GR f.k
 rw [show Bp f.k = Bp 3 by rw [h]] at c1
 simp only [Bp, Int.reduceEq, if_true, if_false] at c1
 have c2 := L0 (ca := []) (Q8 f) PG fun x _ => Lr x
 have c3 := Hh f (by omega)
 have c4 := Dx (Eo f) f
 have c5 := LZ (ca := []) [f.v, f.w] D9 fun x _ => Oo x
 have c6 := Aaz (f := 43) (ca := [.pt (Bx f)]) f.os _ fun x hx => Aag f x (hl x hx)
 have c7 := Ue ((f.os.take 4).map (·.id))
 have hcut := V6 oD f.os 4
 rw [show ((4 : Nat) : Int) = 4 from rfl] at hcut
 have hol := DW f.os
 have hm4 : (f.os.take 4).length ≤ 4 := by simp; omega
 have hris : (f.os.length : Int) ≤ 4 → K4 ((f.os.take 4).map (·.id)) = G7 f.os := fun h => by rw [List.take_of_length_le (by omega), Ug]
 obtain ⟨r, hr⟩ : ∃ r, Eb f = r := ⟨_, rfl⟩
 rw [hr]
 rw [I4 (by omega), YK h, show decide (1 ≤ f.os.length) = decide ((1 : Int) ≤ (f.os.length : Int)) from decide_eq_decide.2 (by omega), show decide (f.os.length ≤ 4) = decide ((f.os.length : Int) ≤ 4) from decide_eq_decide.2 (by omega)] at hr
 simp only [Q8, List.map_cons, List.map_nil, PN, Hz] at c2 c5 hr
 generalize [(f.ep : Int), f.sn, f.fl, f.fq, f.pr, f.tl].all PG = b1 at *
 generalize hb2 : decide (Eo f = f) = b2 at *
 generalize [f.v, f.w].all D9 = b3 at *
 generalize Eo f = g at *
 clear hb2
 generalize f.os.all (fun o => Da o && (decide (f.si = 0) || decide (o.id.s = f.si))) = b4 at *
 generalize G7 f.os = b5 at *
 generalize K4 ((f.os.take 4).map (·.id)) = b6 at *
 generalize f.os.take 4 = m at *
 refine Am fun B => ?_
 refine Ec (fun _ : Unit => ⟨[(1, .ptr 0 0)], [.c 0 0 ((Bx f).map V.d)], 1⟩) (fun _ => True) ?_ fun _ _ => ?_
 ·repeat' (first | refine Al ?_ | refine Ak ?_ | refine nc ?_ ?_ | (with_reducible intro _ <;> (try (exfalso; omega))) | refine Ad ?_ | (refine nd ?_ ?_ <;> intro hg <;> first | exact xo hg | rw [hg]))
  exact DG () trivial (AI)
 refine Ec (fun _ : Unit => ⟨[(3, .fn (.func 37) [] []), (1, .ptr 0 0)], [.c 0 0 ((Bx f).map V.d)], 1⟩) (fun _ => True) ?_ fun _ _ => ?_
 ·repeat' (first | refine Al ?_ | refine Ak ?_ | refine nc ?_ ?_ | (with_reducible intro _ <;> (try (exfalso; omega))) | refine Ad ?_ | (refine nd ?_ ?_ <;> intro hg <;> first | exact xo hg | rw [hg]))
  exact DG () trivial (AI)
 refine Ec (fun _ : Unit => ⟨[(4, .d (.sl false true [[AW f.ep], [AW f.sn], [AW f.fl], [AW f.fq], [AW f.pr], [AW f.tl]])), (3, .fn (.func 37) [] []), (1, .ptr 0 0)], [.c 0 0 ((Bx f).map V.d)], 1⟩) (fun _ => True) ?_ fun _ _ => ?_
 ·repeat' (first | refine CW ?_ | refine Al ?_ | refine Ak ?_ | refine nc ?_ ?_ | (with_reducible intro _ <;> (try (exfalso; omega))) | refine Ad ?_ | (refine nd ?_ ?_ <;> intro hg <;> first | exact xo hg | rw [hg]))
  exact DG () trivial (AI)
 refine Ec (fun _ : Unit => ⟨[(1, .ptr 0 0)], [.c 0 0 ((Bx f).map V.d)], 1⟩) (fun _ => (b1 && b2 && b3) = true) ?_ fun _ hb => ?_
 ·clear c6 c7
  subst hr
  cases b1 <;> cases b2 <;> cases b3
  all_goals
   repeat' (first | refine CW ?_ | refine GU ?_ | refine Al ?_ | (refine Ay ?_; first | refine cz (c1) ?_ | refine cz (c2) ?_ | refine cz (c3) ?_ | refine cz (c4) ?_ | refine cz (c5) ?_) | refine Ak ?_ | refine nc ?_ ?_ | (with_reducible intro _ <;> (try (exfalso; omega))) | refine Ad ?_ | (refine nd ?_ ?_ <;> intro hg <;> first | exact xo hg | rw [hg]))
  all_goals first | rfl | exact DG () rfl (AI) | trace_state
 clear c1 c2 c3 c4 c5
 rw [hb, Bool.true_and] at hr
 refine Ec (fun s : Bool => ⟨[(6, .d (.lit (.bool true))), (5, .d (.lit (.bool s))), (1, .ptr 0 0)], [.c 0 0 ((Bx f).map V.d)], 1⟩) (fun s => s = BQ f.si) ?_ fun s5 h5 => ?_
 ·repeat' (first | refine Al ?_ | refine Ak ?_ | refine nc ?_ ?_ | (with_reducible intro _ <;> (try (exfalso; omega))) | refine Ad ?_ | (refine nd ?_ ?_ <;> intro hg <;> first | exact xo hg | rw [hg]))
  ·refine DG (decide (f.si ≤ 8)) ?_ (AI)
   simp only [BQ]; rw [decide_eq_true (show 1 ≤ f.si by omega), Bool.true_and]
  ·refine DG false ?_ (AI)
   simp only [BQ]; rw [decide_eq_false (show ¬ 1 ≤ f.si by omega), Bool.false_and]
 rw [← h5] at hr
 clear h5 hb
 repeat' (first | rw [hcut] | refine Al ?_ | refine Ak ?_ | refine nc ?_ ?_ | (with_reducible intro _ <;> (try (exfalso; omega))) | refine Ad ?_ | (refine nd ?_ ?_ <;> intro hg <;> first | exact xo hg | rw [hg]))
 refine Hw 7 64 3 rfl ?_
 refine Bi 128 m oD (fun (i : Nat) (_ : Unit) => ⟨[(130, I .i64 i), (129, I .i64 (m.map oD).length), (128, .d (Ej m)), (7, .row 1 0), (6, .d (.lit (.bool true))), (5, .d (.lit (.bool s5))), (1, .ptr 0 0)], [.r true true 1 0 64 3 ((m.take i).map fun o => F9 o.id), .c 0 0 ((Bx f).map V.d)], 2⟩) (fun i _ => True) () (AI) trivial (fun i y x hT hi hx hx' hlt hlm hlen hdr => ?_) (fun y hT hlt hlm => ?_)
 ·have htk : m.take (i + 1) = m.take i ++ [x] := by rw [List.take_add_one, hx]; rfl
  have htl : ((m.take i).map fun o => F9 o.id).length ≤ 4 := by simp; omega
  clear c6 c7 hr hris
  simp only [oD, De, F9] at hx' htl ⊢
  repeat' (first | refine Al ?_ | refine Ak ?_ | refine nc ?_ ?_ | (with_reducible intro _ <;> (try (exfalso; omega))) | refine Ad ?_ | (refine nd ?_ ?_ <;> intro hg <;> first | exact xo hg | rw [hg]))
  refine Be () hi trivial ?_
  simp only [htk, List.map_append, List.map_cons, List.map_nil]
  exact (CO [(1, _, _)])
 ·rw [List.take_of_length_le (Nat.le_refl _)]
  have c7 : VP Tryz.prog 46 [.sl false false (m.map fun o => F9 o.id)] (· = .ret (.lit (.bool b6))) := by rw [List.map_map] at c7; exact c7
  haveI : CC (m.map fun o => F9 o.id) (m.map fun o => F9 o.id) := BS m _ _ (fun _ => inferInstance) (fun _ => rfl)
  repeat' (first | refine Al ?_ | (refine Ay ?_; first | refine cz (c6) ?_ | refine cz (c7) ?_) | refine Ak ?_ | refine nc ?_ ?_ | (with_reducible intro _ <;> (try (exfalso; omega))) | refine Ad ?_ | (refine nd ?_ ?_ <;> intro hg <;> first | exact xo hg | rw [hg]))
  all_goals
   clear c6 c7 this hl hcut hol hT hlt hlm
   simp only [List.length_map] at *
   rw [← hr]
   clear hr
  all_goals
   by_cases p0 : f.si = 0 <;> by_cases p1 : (1 : Int) ≤ (f.os.length : Int) <;> by_cases p2 : (f.os.length : Int) ≤ 4
   all_goals first
    | (exfalso; omega)
    | (simp only [p0, p1, p2, decide_true, decide_false, Bool.true_or, Bool.false_or, Bool.true_and, Bool.and_true, Bool.false_and, Bool.and_false]; (try have e := hris p2); cases s5 <;> cases b4 <;> cases b6 <;> cases b5 <;> first | rfl | contradiction | (exfalso; revert e; decide) | (exfalso; clear hris h hm4; simp_all; fail_if_success (focus skip)))
    | trace_state
theorem Dk (f : Fr) (hl : ∀ o ∈ f.os, o.px.length ≤ 1000000) : VP Tryz.prog 11 [.agg (Bx f)] (· = .ret (Ar (if Eb f then 0 else 300))) := by
 rcases IV f.k with h | h | h | h | h | ⟨h1, h2, h3, h4, h5⟩
 ·exact V0 f h
 ·exact VZ f h
 ·exact VY f h hl
 ·exact VX f h
 ·exact VV f h
 ·have hb : Eb f = false := by
   cases hb : Eb f with
   | false => rfl
   | true => have := (GA hb).1.2.1; exfalso; omega
  rw [hb]
  exact SK f (by omega)

set_option maxRecDepth 20000
theorem WG {P : Program} {f : FuncId} {fn : Func} {c : Code} {B m : Nat} {vs : List V} {st : List E} {nb : Nat} {K : RC → List E → Nat → Prop} (hf : P.funcs[f]? = some fn) (hb : fn.body = some c) {N : Nat} (hN : fn.ntmps = N) {rs : List ResultVar} (hrs0 : fn.results = rs.toArray)
  (h : ∀ M, ST P f ⟨N, none, B, m, some M, []⟩ c ⟨Cu 0 vs, st, nb⟩ (G8 P rs (mK m K))) (hle : Nat.ble vs.length N = true := by rfl) (hname : (fn.name == "runtime.NumGoroutine") = false := by kernel_rfl) : SU P f B m vs st nb K := by
 refine ⟨Bq hf hname (by rw [hb]; rfl), ?_⟩
 have hrs : fn.results.toList = rs := by rw [hrs0]
 intro g w us hs hi hus
 rw [← callsIn_wide (n := 0)]
 refine GM hf hb trivial ?_
 have hS : C7 ⟨N, none, B, m, some w.heap.size, []⟩ g { tmps := us.toArray ++ Array.replicate (fn.ntmps - us.toArray.size) undef, defers := [] } w ⟨Cu 0 vs, st, nb⟩ := by
  rw [hN]
  have := Hs (N := N) (nb := nb) (M := some w.heap.size) (df := []) hus hle hs hi ⟨(fun _ h => by first | (cases h; fail_if_success (focus skip)) | (cases h; exact Nat.le_refl _)), [], [], rfl, by simp, by simp, rfl⟩
  exact ⟨this.size, this.tm, this.st, this.inv, this.defers⟩
 refine Hv (h w.heap.size 0 g w g _ w (D8.refl _ _ _ _) hS) ?_
 rintro e a' w' ⟨g', s', e', hE, hS', he, hq⟩
 have hE := hE.strict hi fun h => by cases h; exact Nat.le_refl _
 obtain ⟨_, bs, rr, hds, hnd, hbs0, hrr⟩ := hS'.defers
 have hbs : ∀ b ∈ bs, g'.prot b ∧ w.heap.size ≤ b ∧ w'.heap[b]? = some (.deferred (some [])) := fun b hb => by
  obtain ⟨h1, ⟨m, h2, h3⟩, h4⟩ := hbs0 b hb
  cases h2; exact ⟨h1, h3, h4⟩
 simp only [Ng] at hrr
 rw [hrr, List.append_nil] at hds
 have hown : ∀ {w2}, Left bs w' w2 → ∀ b, g'.own b → w2.heap[b]? = w'.heap[b]? := fun hl b hb => hl.block b fun hm => (hbs b hm).1 hb
 have hleft : ∀ {w2}, Left bs w' w2 → D8 False m g w g' w2 := fun {w2} hl =>
  ⟨hl.os.trans hE.os, hl.tape.trans hE.tape, hl.output.trans hE.output, by rw [hl.size]; exact hE.size, hE.bx, hE.rw, fun b hlt hp => ⟨(hE.blk b hlt hp).1, (hl.block b fun hm => by have := (hbs b hm).2.1; omega).trans (hE.blk b hlt hp).2⟩, hE.ex,
   fun b he _ => (hl.block b fun hm => by have := (hbs b hm).2.1; have := hi.exlt he; omega).trans (hE.exb b he), hE.pl, fun b hp hlt => by rw [hl.block b fun hm => by have := (hbs b hm).2.1; omega]; exact hE.blur b hp hlt⟩
 have hret : (∃ vs, Ci P s' rs vs ∧ (K (.ret (Ea vs)) s'.st s'.nb ∧ m ≤ s'.nb)) →
   LeavesInM Fence.wide 0 P fn a'.tmps (fun e w' => ∃ g' st' nb' r, D8 False m g w g' w' ∧ AG B g' w' st' ∧ Cs B nb' g' w' ∧ GV B g' w' r e ∧ K r st' nb' ∧ m ≤ nb') a'.defers .returning w' := by
  rintro ⟨vs, hv, hq, hmn⟩
  rw [hds]
  refine Cc (by simp) bs w' hnd (fun b hb => (hbs b hb).2.2) fun w2 hl => ?_
  have C := DH hl fun b hb => (hbs b hb).2.2
  obtain ⟨u, h1, h2⟩ := Ci.all (fn := fn) hS' (hown hl) (by rw [hrs]; exact hv)
  simp only [LeavesIn]
  exact ⟨u, h1, g', s'.st, s'.nb, .ret (Ea vs), hleft hl, C2 C hS'.st, hS'.inv.evo (by rw [hl.size]; exact Nat.le_refl _), ⟨u, rfl, BD C h2⟩, hq, hmn⟩
 cases e' with
 | normal => simp only [BJ] at he; subst he; exact hret hq
 | ret => simp only [BJ] at he; subst he; exact hret hq
 | panic v =>
  obtain ⟨u, rfl, hu⟩ := he
  simp only [bodyPostM]
  rw [hds]
  refine Cc (by simp) bs w' hnd (fun b hb => (hbs b hb).2.2) fun w2 hl => ?_
  have C := DH hl fun b hb => (hbs b hb).2.2
  simp only [LeavesIn]
  exact ⟨g', s'.st, s'.nb, .panic v, hleft hl, C2 C hS'.st, hS'.inv.evo (by rw [hl.size]; exact Nat.le_refl _), ⟨u, rfl, BD C hu⟩, hq.1, hq.2⟩
 | exit id => exact hq.elim
 | goto l => exact hq.elim
theorem Y8 {P : Program} {f : FuncId} {fn : Func} {N : Nat} {rs : List ResultVar} {c : Code} [h : Fc P f fn N rs] {m : Nat} {vs : List V} {st : List E} {nb : Nat} {K : RC → List E → Nat → Prop} (k : ∀ B M, ST P f ⟨N, none, B, m, some M, []⟩ c ⟨Cu 0 vs, st, nb⟩ (G8 P rs (mK m K))) (hb : fn.body = some c := by rfl) (hle : Nat.ble vs.length N = true := by rfl) (hn : (fn.name == "runtime.NumGoroutine") = false := by kernel_rfl) : VM P f m vs st nb K := fun B => WG h.get hb h.tmps h.res (k B) hle hn

set_option maxRecDepth 10000
abbrev YW (l : List UInt8) : D := .sl false true (AH l)
abbrev Yz (l : List Bb) : D := .sl false true (l.map oM)
abbrev Nf : List V := [.d .any, .d .any, .d .any, .d .any, .d .any, .d .any, .d .any, .d .any, .d .any, .d .any, .d .any, .d .any, .d .any, .d .any, .d .any, .d .any, .d .any, .d .any, .d .any, .d .any, .d .any, .d .any, .d .any, .d .any, .d .any, .d .any, .d .any, .d .any, .d .any, .d .any, .d .any]
def Uo (c : List UInt8) (r : RC) (s : List E) (n : Nat) : Prop :=
 (∀ f, Gr c = some f → Gn 1 (.ret (.tup [])) [.c 0 0 (A2 (YW f.bs) (Yz f.os) f [])] 1 r s n) ∧ (Gr c = none → Gn 1 (.panic (.d DA)) [.c 0 0 Nf] 1 r s n)
theorem Xc {c : List UInt8} {f : Fr} {r : RC} {s : List E} {n : Nat} (h : Gr c = some f) (k : Gn 1 (.ret (.tup [])) [.c 0 0 (A2 (YW f.bs) (Yz f.os) f [])] 1 r s n) : Uo c r s n := ⟨fun g hg => (by rw [h] at hg; cases hg; exact k), fun hn => (by rw [h] at hn; cases hn)⟩
theorem Kt {c : List UInt8} {r : RC} {s : List E} {n : Nat} (h : Gr c = none) (k : Gn 1 (.panic (.d DA)) [.c 0 0 Nf] 1 r s n) : Uo c r s n := ⟨fun g hg => (by rw [h] at hg; cases hg), fun _ => k⟩
def rdF : Fl → FuncId
 | .si => 175
 | .ix => 175
 | .my => 175
 | .v => 190
 | .w => 190
 | .bs => 134
 | .os => 138
 | _ => 173
def rdC : Fl → List V
 | .bs => []
 | .os => []
 | n => (FP n).map .d
theorem FU {f : FuncId} {vs : List V} {st s1 : List E} {r : RC} (h : C6 Tryz.prog f 1 vs st 1 r s1 1) (k : Gn 1 r [.c 0 0 Nf] 1 r s1 1) : C6 Tryz.prog f 1 vs st 1 r [.c 0 0 Nf] 1 :=
 VM.sub1 (VM.mono h fun _ _ _ e => by obtain ⟨rfl, rfl, rfl⟩ := e; exact k)
theorem Xe (n : Fl) (b o : D) (x : Fr) (t : List UInt8) (ht : t.length ≤ 1000000) (h : BE x n t = none) : C6 Tryz.prog (rdF n) 1 (.ptr 0 0 :: rdC n) [.c 0 0 (A2 b o x t)] 1 (.panic (.d DA)) [.c 0 0 Nf] 1 := by
 cases n
 case bs => exact FU (Abt b o x t ht h) (Az [])
 case os => exact FU (Abs b o x t ht h) (Az [])
 case v => exact FU (Ys _ (.inl rfl) b o x t ht h) (Az [])
 case w => exact FU (Ys _ (.inr rfl) b o x t ht h) (Az [])
 case si => exact FU (Ur _ (.inl rfl) b o x t ht h) (Az [])
 case ix => exact FU (Ur _ (.inr (.inl rfl)) b o x t ht h) (Az [])
 case my => exact FU (Ur _ (.inr (.inr rfl)) b o x t ht h) (Az [])
 case ep => exact FU (MO _ (.inl rfl) b o x t ht h) (Az [])
 case sn => exact FU (MO _ (.inr (.inl rfl)) b o x t ht h) (Az [])
 case fl => exact FU (MO _ (.inr (.inr (.inl rfl))) b o x t ht h) (Az [])
 case fq => exact FU (MO _ (.inr (.inr (.inr (.inl rfl)))) b o x t ht h) (Az [])
 case pr => exact FU (MO _ (.inr (.inr (.inr (.inr (.inl rfl))))) b o x t ht h) (Az [])
 case tl => exact FU (MO _ (.inr (.inr (.inr (.inr (.inr rfl))))) b o x t ht h) (Az [])
theorem Xd (n : Fl) (b o : D) (x y : Fr) (t u : List UInt8) (ht : t.length ≤ 1000000) (h : BE x n t = some (y, u)) : C6 Tryz.prog (rdF n) 1 (.ptr 0 0 :: rdC n) [.c 0 0 (A2 b o x t)] 1 (.ret (.tup [])) [.c 0 0 (A2 (if n = .bs then YW y.bs else b) (if n = .os then Yz y.os else o) y u)] 1 := by
 cases n
 case bs => exact Ac0 b o x y t u ht h
 case os => exact AcZ b o x y t u ht h
 case v => exact Abr _ (.inl rfl) b o x y t u ht h
 case w => exact Abr _ (.inr rfl) b o x y t u ht h
 case si => exact Zx _ (.inl rfl) b o x y t u ht h
 case ix => exact Zx _ (.inr (.inl rfl)) b o x y t u ht h
 case my => exact Zx _ (.inr (.inr rfl)) b o x y t u ht h
 case ep => exact Sv _ (.inl rfl) b o x y t u ht h
 case sn => exact Sv _ (.inr (.inl rfl)) b o x y t u ht h
 case fl => exact Sv _ (.inr (.inr (.inl rfl))) b o x y t u ht h
 case fq => exact Sv _ (.inr (.inr (.inr (.inl rfl)))) b o x y t u ht h
 case pr => exact Sv _ (.inr (.inr (.inr (.inr (.inl rfl))))) b o x y t u ht h
 case tl => exact Sv _ (.inr (.inr (.inr (.inr (.inr rfl))))) b o x y t u ht h
theorem Rv {n : Fl} {x y : Fr} {t u : List UInt8} (h : BE x n t = some (y, u)) : (n ≠ .bs → y.bs = x.bs) ∧ (n ≠ .os → y.os = x.os) ∧ u.length ≤ t.length := by
 refine ⟨fun hn => ?_, fun hn => ?_, ?_⟩
 ·have := (Ob h).2.2 .bs (fun e => hn e.symm)
  cases n <;> first | exact absurd rfl hn | (simp only [BE, Option.map_eq_some_iff] at h; obtain ⟨p, _, h2⟩ := h; cases h2; rfl) | (simp only [BE] at h; split at h <;> first | (cases h; rfl) | cases h)
 ·cases n <;> first | exact absurd rfl hn | (simp only [BE, Option.map_eq_some_iff] at h; obtain ⟨p, _, h2⟩ := h; cases h2; rfl) | (simp only [BE] at h; split at h <;> first | cases h | (split at h <;> first | (cases h; rfl) | cases h))
 ·have := congrArg List.length (Ob h).1
  rw [List.length_append] at this; omega
theorem XB {o : Bb} (h : Da o = true) : o.px.length ≤ 1000000 := by
 obtain ⟨_, _, hp, _, _, hs, _⟩ := EM h
 by_cases k6 : o.k = 6
 ·obtain ⟨h1, h2, h3⟩ := JR (hs k6)
  simp only [Bv, Bool.and_eq_true, decide_eq_true_eq] at h1 h2
  have : o.px.length ≤ 8 * 8 := by rw [h3]; exact Nat.mul_le_mul (show o.w.toNat ≤ 8 by omega) (show o.h.toNat ≤ 8 by omega)
  omega
 ·have := congrArg (fun z : Bb => z.px.length) hp
  simp [Bw, k6] at this
  omega
theorem Xk {n : Fl} {x y : Fr} {t u : List UInt8} (h : BE x n t = some (y, u)) (hx : ∀ o ∈ x.os, Da o = true) : ∀ o ∈ y.os, Da o = true := by
 by_cases hn : n = .os
 ·subst hn
  simp only [BE] at h
  split at h
  ·cases h
  ·rename_i l r hr; cases h; exact (QL hr).1
 ·rw [(Rv h).2.1 hn]; exact hx
def bOk (b : D) (l : List UInt8) : Prop := (b = E4 ∧ l = []) ∨ b = YW l
def oOk (o : D) (l : List Bb) : Prop := (o = E4 ∧ l = []) ∨ o = Yz l
theorem Wj {b : D} {l : List UInt8} (h : bOk b l) : Co (.d b) = true := by rcases h with ⟨rfl, _⟩ | rfl <;> rfl
theorem Vj {o : D} {l : List Bb} (h : oOk o l) : Co (.d o) = true := by rcases h with ⟨rfl, _⟩ | rfl <;> rfl
theorem Su : VM Tryz.prog 59 1 [.ptr 0 0] [.c 0 0 (A2 E4 E4 Fr.zero [])] 1 (Uo []) := by
 have c1 := NQ E4 E4 Fr.zero [] 1 (by simp)
 simp only [A2, Db, List.map_cons, List.map_nil, List.cons_append, List.nil_append, Int.cast_ofNat_Int] at c1 ⊢
 refine Aa2 fun B M => ?_
 repeat' (first | refine Hx 2 (by kernel_rfl) ?_ | refine Al ?_ | refine Ak ?_ | refine nc ?_ ?_ | (with_reducible intro _ <;> (try (exfalso; omega))) | refine Ad ?_ | (refine nd ?_ ?_ <;> intro hg <;> first | exact xo hg | rw [hg]))
 repeat' (first | refine Ba ?_ | refine DC ?_ | refine Cn ?_ | refine Bt ?_ | refine Ct ?_)
 refine Nl (.d (AW 0)) (fun tmX => ?_) ?_
 ·repeat' (first | refine Al ?_ | (refine Ay ?_; first | refine Aj [(0, none)] c1 ?_) | refine Ak ?_ | refine nc ?_ ?_ | (with_reducible intro _ <;> (try (exfalso; omega))) | refine Ad ?_ | (refine nd ?_ ?_ <;> intro hg <;> first | exact xo hg | rw [hg]))
  refine Kx ?_
  repeat' (first | refine Al ?_ | refine Ak ?_ | refine nc ?_ ?_ | (with_reducible intro _ <;> (try (exfalso; omega))) | refine Ad ?_ | (refine nd ?_ ?_ <;> intro hg <;> first | exact xo hg | rw [hg]))
  exact Kt rfl (Az [])
 ·repeat' (first | exact IA | refine Ba ?_ | refine DC ?_ | refine Cn ?_ | refine Bt ?_ | refine Ct ?_)
theorem Xb (k : UInt8) (c : List UInt8) (hc : c.length ≤ 900000) : VM Tryz.prog 59 1 [.ptr 0 0] [.c 0 0 (A2 E4 E4 Fr.zero (k :: c))] 1 (Uo (k :: c)) := by
 have c1 := O3 E4 E4 Fr.zero (k :: c) 1 (by omega) (by simp) (by simp; omega)
 have hk : A3 ((k :: c).take 1) = k.toNat := by simp [A3]
 rw [hk, show (k :: c).drop 1 = c from rfl] at c1
 have hk8 := k.toNat_lt
 simp only [A2, Db, List.map_cons, List.map_nil, List.cons_append, List.nil_append, Int.cast_ofNat_Int] at c1 ⊢
 refine Y8 fun B M => ?_
 refine GT (FR ?_)
 repeat' (first | refine Al ?_ | refine Ak ?_ | refine nc ?_ ?_ | (with_reducible intro _ <;> (try (exfalso; omega))) | refine Ad ?_ | (refine nd ?_ ?_ <;> intro hg <;> first | exact xo hg | rw [hg]))
 refine Dw (GT (FR ?_))
 repeat' (first | refine DU (by kernel_rfl) ?_ | refine Al ?_ | refine Ak ?_ | refine nc ?_ ?_ | (with_reducible intro _ <;> (try (exfalso; omega))) | refine Ad ?_ | (refine nd ?_ ?_ <;> intro hg <;> first | exact xo hg | rw [hg]))
 repeat' (first | refine Ba ?_ | refine DC ?_ | refine Cn ?_ | refine Bt ?_ | refine Ct ?_)
 refine KN (v := ?_) (st' := ?_) (nb' := ?_) (fun tmX => ?_) ?_ ?_
 rotate_left 3
 ·repeat' (first | refine Al ?_ | (refine Ay ?_; first | refine Aj [(0, none)] c1 ?_) | refine Ak ?_ | refine nc ?_ ?_ | (with_reducible intro _ <;> (try (exfalso; omega))) | refine Ad ?_ | (refine nd ?_ ?_ <;> intro hg <;> first | exact xo hg | rw [hg]))
  exact CZ
 ·repeat' (first | refine Ba ?_ | refine DC ?_ | refine Cn ?_ | refine Bt ?_ | refine Ct ?_)
  refine Dw (GT (GT (FR ?_)))
  repeat' (first | refine Al ?_ | (refine Ay ?_; first | refine Ae 51 fun _ => ?_) | refine Ak ?_ | refine nc ?_ ?_ | (with_reducible intro _ <;> (try (exfalso; omega))) | refine Ad ?_ | (refine nd ?_ ?_ <;> intro hg <;> first | exact xo hg | rw [hg]))
  refine Dw (Ot (To Tryz.func59 fun Lp TT hOk hfn => ?_))
  refine Cm fun M2 => ?_
  have cf := JD
  have co := O1 k.toNat
  have hI := fun n => Bj n
  have hL := fun n => BI n
  have hl : (BU.map Fs).length = 13 := rfl
  have hdl : CC (BU.map Fs) (BU.map Fs) := inferInstance
  generalize BU.map Fs = L at *
  haveI : CC L L := hdl
  repeat' (first | refine Al ?_ | (refine Ay ?_; first | refine cz (cf) ?_ | refine cz (co) ?_) | refine Ak ?_ | refine nc ?_ ?_ | (with_reducible intro _ <;> (try (exfalso; omega))) | refine Ad ?_ | (refine nd ?_ ?_ <;> intro hg <;> first | exact xo hg | rw [hg]))
  have hnl := LF (AV k.toNat)
  have hrd : Gr (k :: c) = match Ha (AV k.toNat) { Fr.zero with k := k.toNat } c with | some (f, []) => if Eb f then some f else none | _ => none := rfl
  generalize AV k.toNat = ns at *
  clear cf co c1 hk
  refine Bi 10 ns (fun n => [Iz n]) (fun (i : Nat) (z : D × D × Fr × List UInt8) => ⟨[(12, I .i64 i), (11, I .i64 (EN ns).length), (10, .d (.sl false true (EN ns))), (3, .d (.sl false true L)), (0, .yl 3), (1, .ptr 2 0)], [.y 3 (some Lp) TT [(36, .yl 3), (1, .ptr 1 0)], .c 2 0 [.d (Ar k.toNat)], .c 1 0 [.ptr 0 0], .c 0 0 (A2 z.1 z.2.1 z.2.2.1 z.2.2.2)], 4⟩)
     (fun i z => Ha ns { Fr.zero with k := k.toNat } c = Ha (ns.drop i) z.2.2.1 z.2.2.2 ∧ bOk z.1 z.2.2.1.bs ∧ oOk z.2.1 z.2.2.1.os ∧ z.2.2.2.length ≤ 900000 ∧ ∀ o ∈ z.2.2.1.os, Da o = true) (E4, E4, { Fr.zero with k := k.toNat }, c) (AI) ⟨rfl, .inl ⟨rfl, rfl⟩, .inl ⟨rfl, rfl⟩, hc, fun o ho => by cases ho⟩ (fun i y x hT hi hx hx' hlt hlm hlen hdr => ?_) (fun y hT hlt hlm => ?_)
  ·obtain ⟨b, o, z, t⟩ := y
   obtain ⟨hT, hb, ho, htl, hop⟩ := hT
   dsimp only at hT hb ho htl hop ⊢
   have hb1 := Wj hb
   have ho1 := Vj ho
   rw [hdr] at hT
   simp only [Ha] at hT
   have iI := hI x
   have lL := hL x
   rw [E6] at iI
   clear hdr hdl
   cases hr : BE z x t with
   | none =>
    have c1 := Xe x b o z t (by omega) hr
    rw [hr] at hT
    rw [hT] at hrd
    clear hr hT hb ho hop
    cases x
    all_goals
     simp only [rdF, rdC, Iz, Fl.nm, Fl.no, Fs, H7, H6, FP, Oh, Int.cast_ofNat_Int, A2, Db, List.map_cons, List.map_nil, List.cons_append, List.nil_append] at c1 iI lL hx' ⊢
     repeat' (first | refine Al ?_ | (refine Ay ?_; first | refine AQ (by assumption) fun _ _ => ?_ | refine cz (iI) ?_ | refine Aj [(0, none)] c1 ?_) | refine Ak ?_ | refine nc ?_ ?_ | (with_reducible intro _ <;> (try (exfalso; omega))) | refine Ad ?_ | (refine nd ?_ ?_ <;> intro hg <;> first | exact xo hg | rw [hg]) | refine Dw (FR ?_) | refine Qt ?_)
     exact Kt hrd (Az [])
   | some p =>
    obtain ⟨y, u⟩ := p
    have c1 := Xd x b o z y t u (by omega) hr
    have hop2 := Xk hr hop
    obtain ⟨k1, k2, k3⟩ := Rv hr
    rw [hr] at hT
    have hb2 : bOk (if x = .bs then YW y.bs else b) y.bs := by
     split
     ·exact .inr rfl
     ·rename_i hne; rw [k1 hne]; exact hb
    have ho2 : oOk (if x = .os then Yz y.os else o) y.os := by
     split
     ·exact .inr rfl
     ·rename_i hne; rw [k2 hne]; exact ho
    clear k1 k2 hr hrd hb ho hop
    cases x
    all_goals
     simp only [rdF, rdC, Iz, Fl.nm, Fl.no, Fs, H7, H6, FP, Oh, reduceCtorEq, if_false, if_true, Int.cast_ofNat_Int, A2, Db, List.map_cons, List.map_nil, List.cons_append, List.nil_append] at c1 iI lL hb2 ho2 hx' ⊢
     repeat' (first | refine Al ?_ | (refine Ay ?_; first | refine AQ (by assumption) fun _ _ => ?_ | refine cz (iI) ?_ | refine Aj [(0, none)] c1 ?_) | refine Ak ?_ | refine nc ?_ ?_ | (with_reducible intro _ <;> (try (exfalso; omega))) | refine Ad ?_ | (refine nd ?_ ?_ <;> intro hg <;> first | exact xo hg | rw [hg]) | refine Dw (FR ?_) | refine Qt ?_)
     refine Be (_, _, y, u) hi ⟨hT, hb2, ho2, by dsimp only; omega, hop2⟩ (AI)
  ·obtain ⟨b, o, x, t⟩ := y
   obtain ⟨hT, hb, ho, htl, hop⟩ := hT
   dsimp only at hT hb ho htl hop ⊢
   rw [List.drop_of_length_le (Nat.le_refl _)] at hT
   simp only [Ha] at hT
   rw [hT] at hrd
   have htn := AA t
   have cc := Dk x fun o ho => XB (hop o ho)
   clear hI hL hl hdl hT
   cases t with
   | cons u t =>
    have hrd : Gr (k :: c) = none := hrd
    have hne : (AH (u :: t)).length ≠ 0 := by rw [htn]; simp
    clear cc hb ho
    repeat' (first | refine Al ?_ | (refine Ay ?_; first | (refine AK (A1 0) ?_; first | refine Ag (A1 0) ?_ | refine An (Cq 0) ?_ | (refine Ah (A6 _ 0) ?_ ?_ <;> intro _ <;> (try (exfalso; omega))) | (refine Ao (A6 _ 0) ?_ ?_ <;> intro _))) | refine Ak ?_ | refine nc ?_ ?_ | (with_reducible intro _ <;> (try (exfalso; omega))) | refine Ad ?_ | (refine nd ?_ ?_ <;> intro hg <;> first | exact xo hg | rw [hg]) | refine Dw (FR ?_))
    all_goals first | exact Kt hrd (Az []) | (exfalso; omega) | trace_state
   | nil =>
    have hrd : Gr (k :: c) = if Eb x then some x else none := hrd
    have hz : (AH []).length = 0 := rfl
    cases hf : Eb x with
    | false =>
     rw [hf] at hrd cc
     simp only [Bool.false_eq_true, if_false] at hrd cc
     rcases hb with ⟨rfl, hb⟩ | rfl <;> rcases ho with ⟨rfl, ho⟩ | rfl
     all_goals
      simp only [Bx, Cj, Db, A2, *, AH, List.map_nil, List.map_cons, List.cons_append, List.nil_append] at cc ⊢
      repeat' (first | refine Al ?_ | (refine Ay ?_; first | (refine AK (A1 0) ?_; first | refine Ag (A1 0) ?_ | refine An (Cq 0) ?_ | (refine Ah (A6 _ 0) ?_ ?_ <;> intro _ <;> (try (exfalso; omega))) | (refine Ao (A6 _ 0) ?_ ?_ <;> intro _)) | refine cz (cc) ?_) | refine Ak ?_ | refine nc ?_ ?_ | (with_reducible intro _ <;> (try (exfalso; omega))) | refine Ad ?_ | (refine nd ?_ ?_ <;> intro hg <;> first | exact xo hg | rw [hg]) | refine Dw (FR ?_))
     all_goals first | exact Kt hrd (Az []) | (exfalso; omega) | trace_state
    | true =>
     rw [hf] at hrd cc
     simp only [if_true] at hrd cc
     rcases hb with ⟨rfl, hb⟩ | rfl <;> rcases ho with ⟨rfl, ho⟩ | rfl
     all_goals
      simp only [Bx, Cj, Db, A2, *, AH, List.map_nil, List.map_cons, List.cons_append, List.nil_append] at cc ⊢
      repeat' (first | refine Al ?_ | (refine Ay ?_; first | (refine AK (A1 0) ?_; first | refine Ag (A1 0) ?_ | refine An (Cq 0) ?_ | (refine Ah (A6 _ 0) ?_ ?_ <;> intro _ <;> (try (exfalso; omega))) | (refine Ao (A6 _ 0) ?_ ?_ <;> intro _)) | refine cz (cc) ?_) | refine Ak ?_ | refine nc ?_ ?_ | (with_reducible intro _ <;> (try (exfalso; omega))) | refine Ad ?_ | (refine nd ?_ ?_ <;> intro hg <;> first | exact xo hg | rw [hg]) | refine Dw (FR ?_))
     all_goals first | (refine Xc hrd ?_; simp only [A2, Db, YW, Yz, *, AH, List.map_nil, List.map_cons, List.cons_append, List.nil_append]; exact A4 []) | (exfalso; omega) | trace_state
 ·repeat' (first | exact trivial | exact rfl | refine ⟨?_, ?_⟩)

end Go.Proofs.YtbgcjnfhadhjeaaGreat