/- Walks by data and names, part 34: Layer 19: arguments of its laws, as data. Frames, plain: what they are, which may be, their bytes, and what is read. Sums of bytes, plain: the register, what is sealed, and that what differs in 32 bits in a row is not sealed. -/
import Derived.Test.YtbgcjnfhadhjeaaGreatPk3
import Derived.Test.YtbgcjnfhadhjeaaGreatPk33
import Derived.Test.YtbgcjnfhadhjeaaGreatPk28
import Derived.Test.YtbgcjnfhadhjeaaGreatPk30
import Derived.Test.YtbgcjnfhadhjeaaGreatPk26
namespace Go.Proofs.YtbgcjnfhadhjeaaGreat
set_option maxRecDepth 20000
open Go.RowKit
def I64 (n : Int) : Prop := -9223372036854775808 ≤ n ∧ n ≤ 9223372036854775807
def U64 (n : Int) : Prop := 0 ≤ n ∧ n ≤ 18446744073709551615
theorem CR : EF Tryz.prog 3 I64 (fun n => [.lit (.int .i64 n)]) := EF.i64 Tryz.underlying3 (by kernel_rfl)
theorem E3 : EF Tryz.prog 22 U64 (fun n => [.lit (.int .u64 n)]) := (EF.int Tryz.underlying22 (by kernel_rfl)).map (fun y h => ⟨y, by have := bounds_u64 h; exact this, rfl⟩) (fun _ _ => by rw [show Tryz.prog.cellsOf 22 = 1 by kernel_rfl]; rfl)
theorem Ll : EF Tryz.prog 5 (fun _ : UInt8 => True) (fun y => [.lit (vb y)]) := EF.u8 Tryz.underlying5 (by kernel_rfl)
theorem U7 : EF Tryz.prog 23 (fun b : List UInt8 => b.length ≤ 9223372036854775807) (fun b => [.sl false false (AH b)]) :=
 (EF.slice Ll Tryz.underlying23 (by rw [show Tryz.prog.cellsOf 5 = 1 by kernel_rfl]; omega) (by kernel_rfl)).map (fun y h => ⟨y, h.2, rfl⟩) (fun z hz => by rw [show Tryz.prog.cellsOf 23 = 1 by kernel_rfl]; rfl)
theorem RK : EF Tryz.prog 66 (fun _ : BL => True) (fun c => [.lit (vb c.r), .lit (vb c.g), .lit (vb c.b), .lit (vb c.a)]) :=
 (EF.struct (tot := 4) Tryz.underlying66 (by kernel_rfl) (BZ.cons Ll rfl (BZ.cons Ll (by kernel_rfl) (BZ.cons Ll (by kernel_rfl) (BZ.cons Ll (by kernel_rfl) (BZ.nil (by kernel_rfl))))))).map
  (fun y _ => ⟨⟨y.1, y.2.1, y.2.2.1, y.2.2.2.1⟩, trivial, rfl⟩) (fun z hz => by rw [show Tryz.prog.cellsOf 66 = 4 by kernel_rfl]; rfl)
theorem U3 : EF Tryz.prog 26 Vc.in Hz :=
 (EF.array (n := 9) E3 Tryz.underlying26 (by kernel_rfl)).map (fun y h => by
  obtain ⟨h1, h2⟩ := h
  match y, h1, h2 with
  | [a, b, c, d, e, f, g, i, j], _, h2 =>
   have q : ∀ x ∈ [a, b, c, d, e, f, g, i, j], ((x.toNat : Nat) : Int) = x := fun x hx => Int.toNat_of_nonneg (h2 x hx).1
   have r : ∀ x ∈ [a, b, c, d, e, f, g, i, j], x.toNat < 18446744073709551616 := fun x hx => by have := h2 x hx; unfold U64 at this; omega
   refine ⟨⟨a.toNat, b.toNat, c.toNat, d.toNat, e.toNat, f.toNat, g.toNat, i.toNat, j.toNat⟩, ⟨r a (by simp), r b (by simp), r c (by simp), r d (by simp), r e (by simp), r f (by simp), r g (by simp), r i (by simp), r j (by simp)⟩, ?_⟩
   simp only [Hz, AW]
   rw [q a (by simp), q b (by simp), q c (by simp), q d (by simp), q e (by simp), q f (by simp), q g (by simp), q i (by simp), q j (by simp)]
   rfl) (fun z hz => by rw [show Tryz.prog.cellsOf 26 = 9 by kernel_rfl]; rfl)
theorem U5 : EF Tryz.prog 64 (fun _ : Bk => True) F9 :=
 (EF.struct (tot := 3) Tryz.underlying64 (by kernel_rfl) (BZ.cons E3 rfl (BZ.cons CR (by kernel_rfl) (BZ.cons E3 (by kernel_rfl) (BZ.nil (by kernel_rfl)))))).map
  (fun y h => ⟨⟨y.1.toNat, y.2.1, y.2.2.1.toNat⟩, trivial, by
   have q1 : ((y.1.toNat : Nat) : Int) = y.1 := Int.toNat_of_nonneg h.1.1
   have q2 : ((y.2.2.1.toNat : Nat) : Int) = y.2.2.1 := Int.toNat_of_nonneg h.2.2.1.1
   simp only [F9, AW]
   rw [q1, q2]
   rfl⟩) (fun z hz => by rw [show Tryz.prog.cellsOf 64 = 3 by kernel_rfl]; rfl)
theorem U6 : EF Tryz.prog 67 (fun _ : List BL => True) (fun l => [.sl false false (l.map CI)]) :=
 (EF.slice RK Tryz.underlying67 (by rw [show Tryz.prog.cellsOf 66 = 4 by kernel_rfl]; omega) (by kernel_rfl)).map (fun y h => ⟨y, trivial, rfl⟩) (fun z hz => by rw [show Tryz.prog.cellsOf 67 = 1 by kernel_rfl]; rfl)
theorem Sz : EF Tryz.prog 69 (fun _ : Int × Int × List BL => True) (fun s => [Ar s.1, Ar s.2.1, .sl false false (s.2.2.map CI)]) :=
 (EF.struct (tot := 3) Tryz.underlying69 (by kernel_rfl) (BZ.cons CR rfl (BZ.cons CR (by kernel_rfl) (BZ.cons U6 (by kernel_rfl) (BZ.nil (by kernel_rfl)))))).map
  (fun y h => ⟨⟨y.1, y.2.1, y.2.2.1⟩, trivial, rfl⟩) (fun z hz => by rw [show Tryz.prog.cellsOf 69 = 3 by kernel_rfl]; rfl)
theorem ZP : EF Tryz.prog 71 (fun _ : Bb => True) oD :=
 (EF.struct (tot := 19) Tryz.underlying71 (by kernel_rfl) (BZ.cons U5 rfl (BZ.cons CR (by kernel_rfl) (BZ.cons CR (by kernel_rfl) (BZ.cons CR (by kernel_rfl) (BZ.cons CR (by kernel_rfl) (BZ.cons CR (by kernel_rfl) (BZ.cons CR (by kernel_rfl) (BZ.cons RK (by kernel_rfl) (BZ.cons Sz (by kernel_rfl) (BZ.cons U5 (by kernel_rfl) (BZ.nil (by kernel_rfl))))))))))))).map
  (fun y _ => ⟨⟨y.1, y.2.1, y.2.2.1, y.2.2.2.1, y.2.2.2.2.1, y.2.2.2.2.2.1, y.2.2.2.2.2.2.1, y.2.2.2.2.2.2.2.1, y.2.2.2.2.2.2.2.2.1.1, y.2.2.2.2.2.2.2.2.1.2.1, y.2.2.2.2.2.2.2.2.1.2.2, y.2.2.2.2.2.2.2.2.2.1⟩, trivial, rfl⟩) (fun z hz => by rw [show Tryz.prog.cellsOf 71 = 19 by kernel_rfl]; rfl)
theorem Xz : EF Tryz.prog 24 (fun _ : List Bb => True) (fun l => [.sl false false (l.map oD)]) :=
 (EF.slice ZP Tryz.underlying24 (by rw [show Tryz.prog.cellsOf 71 = 19 by kernel_rfl]; omega) (by kernel_rfl)).map (fun y h => ⟨y, trivial, rfl⟩) (fun z hz => by rw [show Tryz.prog.cellsOf 24 = 1 by kernel_rfl]; rfl)

set_option maxRecDepth 10000
inductive Fl
 | ep
 | si
 | sn
 | ix
 | my
 | bs
 | os
 | v
 | fl
 | fq
 | pr
 | tl
 | w
deriving DecidableEq
structure Fr where
 k : Int
 ep : Nat
 si : Int
 sn : Nat
 ix : Int
 my : Int
 bs : List UInt8
 os : List Bb
 v : Vc
 fl : Nat
 fq : Nat
 pr : Nat
 tl : Nat
 w : Vc
deriving DecidableEq
def Fr.zero : Fr := ⟨0, 0, 0, 0, 0, 0, [], [], .zero, 0, 0, 0, 0, .zero⟩
def AV (k : Int) : List Fl := if k = 1 then [.ep, .si, .sn, .ix] else if k = 2 then [.ep, .si, .sn, .ix, .my, .bs] else if k = 3 then [.ep, .si, .os] else if k = 4 then [.ep, .si, .v, .fl, .fq] else if k = 5 then [.ep, .v, .pr, .tl, .w] else []
def Ko (f g : Fr) : Fl → Fr
 | .ep => { f with ep := g.ep }
 | .si => { f with si := g.si }
 | .sn => { f with sn := g.sn }
 | .ix => { f with ix := g.ix }
 | .my => { f with my := g.my }
 | .bs => { f with bs := g.bs }
 | .os => { f with os := g.os }
 | .v => { f with v := g.v }
 | .fl => { f with fl := g.fl }
 | .fq => { f with fq := g.fq }
 | .pr => { f with pr := g.pr }
 | .tl => { f with tl := g.tl }
 | .w => { f with w := g.w }
def Eo (f : Fr) : Fr := (AV f.k).foldl (fun o n => Ko o f n) { Fr.zero with k := f.k }
def G7 : List Bb → Bool
 | [] => true
 | [_] => true
 | a :: b :: l => HZ a.id b.id && G7 (b :: l)
def WW (f : Fr) : Bool := Og f.ep && Og f.sn && Og f.fl && Og f.fq && Og f.pr && Og f.tl
def Mv (f : Fr) : Bool :=
 if f.k = 1 then BQ f.si && decide (0 ≤ f.ix) && decide (f.ix ≤ 64)
 else if f.k = 2 then BQ f.si && decide (1 ≤ f.my) && decide (f.my ≤ 64) && decide (0 ≤ f.ix) && decide (f.ix < f.my) && decide (1 ≤ f.bs.length) && decide (f.bs.length ≤ 256)
 else if f.k = 3 then (decide (f.si = 0) || BQ f.si) && decide (1 ≤ f.os.length) && decide (f.os.length ≤ 4) && f.os.all (fun o => Da o && (decide (f.si = 0) || decide (o.id.s = f.si))) && G7 f.os
 else if f.k = 4 then BQ f.si
 else decide (f.pr = 0) || decide (f.tl < f.pr)
def Eb (f : Fr) : Bool := WW f && decide (1 ≤ f.k) && decide (f.k ≤ 5) && decide (Eo f = f) && D9 f.v && D9 f.w && Mv f
def A0 (f : Fr) : Fl → List UInt8
 | .ep => Av 8 f.ep
 | .si => Av 1 f.si.toNat
 | .sn => Av 8 f.sn
 | .ix => Av 1 f.ix.toNat
 | .my => Av 1 f.my.toNat
 | .bs => Av 2 f.bs.length ++ f.bs
 | .os => C9 f.os
 | .v => GW f.v
 | .fl => Av 8 f.fl
 | .fq => Av 8 f.fq
 | .pr => Av 8 f.pr
 | .tl => Av 8 f.tl
 | .w => GW f.w
def BM (f : Fr) (ns : List Fl) : List UInt8 := ns.flatMap (A0 f)
def A5 (f : Fr) : List UInt8 := Av 1 f.k.toNat ++ BM f (AV f.k)
def MQ (w : Nat) (b : List UInt8) : Option (Nat × List UInt8) := if w ≤ b.length then some (A3 (b.take w), b.drop w) else none
def Jq (b : List UInt8) : Option (Vc × List UInt8) := if b.length < 64 then none else if D9 (J8 b) then some (J8 b, b.drop 64) else none
def BE (f : Fr) : Fl → List UInt8 → Option (Fr × List UInt8)
 | .ep, b => (MQ 8 b).map fun p => ({ f with ep := p.1 }, p.2)
 | .si, b => (MQ 1 b).map fun p => ({ f with si := p.1 }, p.2)
 | .sn, b => (MQ 8 b).map fun p => ({ f with sn := p.1 }, p.2)
 | .ix, b => (MQ 1 b).map fun p => ({ f with ix := p.1 }, p.2)
 | .my, b => (MQ 1 b).map fun p => ({ f with my := p.1 }, p.2)
 | .bs, b => match MQ 2 b with
  | none => none
  | some (m, t) => if m ≤ t.length then some ({ f with bs := t.take m }, t.drop m) else none
 | .os, b => match GG b with
  | .error _ => none
  | .ok (l, t) => some ({ f with os := l }, t)
 | .v, b => (Jq b).map fun p => ({ f with v := p.1 }, p.2)
 | .fl, b => (MQ 8 b).map fun p => ({ f with fl := p.1 }, p.2)
 | .fq, b => (MQ 8 b).map fun p => ({ f with fq := p.1 }, p.2)
 | .pr, b => (MQ 8 b).map fun p => ({ f with pr := p.1 }, p.2)
 | .tl, b => (MQ 8 b).map fun p => ({ f with tl := p.1 }, p.2)
 | .w, b => (Jq b).map fun p => ({ f with w := p.1 }, p.2)
def Ha : List Fl → Fr → List UInt8 → Option (Fr × List UInt8)
 | [], f, b => some (f, b)
 | n :: ns, f, b => match BE f n b with
  | none => none
  | some (g, t) => Ha ns g t
def Gr : List UInt8 → Option Fr
 | [] => none
 | k :: b => match Ha (AV k.toNat) { Fr.zero with k := k.toNat } b with
  | some (f, []) => if Eb f then some f else none
  | _ => none
def BX (f : Fr) : Fl → Prop
 | .ep => f.ep ≤ 4611686018427387904
 | .si => 0 ≤ f.si ∧ f.si < 256
 | .sn => f.sn ≤ 4611686018427387904
 | .ix => 0 ≤ f.ix ∧ f.ix < 256
 | .my => 0 ≤ f.my ∧ f.my < 256
 | .bs => f.bs.length ≤ 256
 | .os => (∀ o ∈ f.os, Da o = true) ∧ f.os.length ≤ 64
 | .v => D9 f.v = true
 | .fl => f.fl ≤ 4611686018427387904
 | .fq => f.fq ≤ 4611686018427387904
 | .pr => f.pr ≤ 4611686018427387904
 | .tl => f.tl ≤ 4611686018427387904
 | .w => D9 f.w = true
theorem FM (w n : Nat) (h : n < 256 ^ w) (r : List UInt8) : MQ w (Av w n ++ r) = some (n, r) := by
 have hl := As w n
 unfold MQ
 rw [if_pos (by rw [List.length_append, hl]; omega), List.take_left' hl, List.drop_left' hl, E9 w n h]
theorem Wc {w n : Nat} {b t : List UInt8} (h : MQ w b = some (n, t)) : Av w n ++ t = b ∧ n < 256 ^ w := by
 unfold MQ at h
 split at h
 ·cases h
  have hl : (b.take w).length = w := by rw [List.length_take]; omega
  have h1 := F7 (b.take w)
  have h2 := IP (b.take w)
  rw [hl] at h1 h2
  exact ⟨by rw [h1, List.take_append_drop], h2⟩
 ·cases h
theorem FS (v : Vc) : (GW v).length = 64 := by simp [GW, As]
theorem WQ {v : Vc} (h : D9 v = true) (r : List UInt8) : J8 (GW v ++ r) = v := by
 obtain ⟨h0, h1, h2, h3, h4, h5, h6, h7, h8⟩ := (HA v).1 h
 have e : ∀ (a b c : List UInt8), a.length = 8 → (∀ n m, n = a.length + m → ((a ++ b ++ c).take n).drop 8 = (b ++ c).take m) := fun a b c ha n m hn => by
  rw [hn, List.append_assoc, List.take_length_add_append, ← ha, List.drop_left]
 have nl : ∀ n, n ≤ 4611686018427387904 → A3 (Av 8 n) = n := fun n hn => E9 8 n (by omega)
 have tk : ∀ (n : Nat) (x : List UInt8), (Av 8 n ++ x).take 8 = Av 8 n := fun n x => List.take_left' (As 8 n)
 have dk : ∀ (n m : Nat) (x : List UInt8), (Av 8 n ++ x).drop (8 + m) = x.drop m := fun n m x => by rw [← List.drop_drop, List.drop_left' (As 8 n)]
 have td : ∀ (x : List UInt8) (k : Nat), (x.take (k + 8)).drop k = (x.drop k).take 8 := fun x k => by rw [List.drop_take]; congr 1; omega
 have key : ∀ k, ((GW v ++ r).take (k + 8)).drop k = ((GW v ++ r).drop k).take 8 := fun k => td _ k
 unfold J8
 have k8 := key 8; have k16 := key 16; have k24 := key 24; have k32 := key 32; have k40 := key 40; have k48 := key 48; have k56 := key 56
 simp only [Nat.reduceAdd] at k8 k16 k24 k32 k40 k48 k56
 rw [k8, k16, k24, k32, k40, k48, k56]
 simp only [GW, List.append_assoc]
 rw [tk, show (8 : Nat) = 8 + 0 from rfl, dk, show (16 : Nat) = 8 + (8 + 0) from rfl, dk, dk, show (24 : Nat) = 8 + (8 + (8 + 0)) from rfl, dk, dk, dk, show (32 : Nat) = 8 + (8 + (8 + (8 + 0))) from rfl, dk, dk, dk, dk, show (40 : Nat) = 8 + (8 + (8 + (8 + (8 + 0)))) from rfl, dk, dk, dk, dk, dk,
  show (48 : Nat) = 8 + (8 + (8 + (8 + (8 + (8 + 0))))) from rfl, dk, dk, dk, dk, dk, dk, show (56 : Nat) = 8 + (8 + (8 + (8 + (8 + (8 + (8 + 0)))))) from rfl, dk, dk, dk, dk, dk, dk, dk]
 simp only [List.drop_zero, Nat.add_zero]
 rw [tk, tk, tk, tk, tk, tk, tk, nl _ h1, nl _ h2, nl _ h3, nl _ h4, nl _ h5, nl _ h6, nl _ h7, nl _ h8, ← h0]
theorem Rp {v : Vc} (h : D9 v = true) (r : List UInt8) : Jq (GW v ++ r) = some (v, r) := by
 have hl := FS v
 unfold Jq
 rw [if_neg (by rw [List.length_append, hl]; omega), WQ h, if_pos h, List.drop_left' hl]
theorem Yd {v : Vc} {b t : List UInt8} (h : Jq b = some (v, t)) : GW v ++ t = b ∧ D9 v = true := by
 unfold Jq at h
 split at h
 ·cases h
 ·rename_i hl
  split at h
  ·rename_i hv
   cases h
   refine ⟨?_, hv⟩
   have c : ∀ (k : Nat) (r : List UInt8), k + 8 ≤ 64 → Av 8 (A3 ((b.take (k + 8)).drop k)) ++ (b.drop (k + 8)) = b.drop k := fun k r hk => by
    have hl2 : ((b.take (k + 8)).drop k).length = 8 := by rw [List.length_drop, List.length_take]; omega
    have h1 := F7 ((b.take (k + 8)).drop k)
    rw [hl2] at h1
    rw [h1, List.drop_take, show k + 8 - k = 8 by omega, ← List.drop_drop, List.take_append_drop]
   simp only [GW, J8, List.append_assoc]
   rw [c 56 [] (by omega), c 48 [] (by omega), c 40 [] (by omega), c 32 [] (by omega), c 24 [] (by omega), c 16 [] (by omega), c 8 [] (by omega)]
   have := c 0 [] (by omega)
   simpa using this
  ·cases h
theorem Xl {f : Fr} (g : Fr) {n : Fl} (h : BX f n) (r : List UInt8) : BE g n (A0 f n ++ r) = some (Ko g f n, r) := by
 cases n with
 | ep => simp only [BX] at h; simp only [BE, A0, Ko]; rw [FM 8 _ (by omega)]; rfl
 | si => simp only [BX] at h; simp only [BE, A0, Ko]; rw [FM 1 _ (by omega), Option.map_some, Int.toNat_of_nonneg h.1]
 | sn => simp only [BX] at h; simp only [BE, A0, Ko]; rw [FM 8 _ (by omega)]; rfl
 | ix => simp only [BX] at h; simp only [BE, A0, Ko]; rw [FM 1 _ (by omega), Option.map_some, Int.toNat_of_nonneg h.1]
 | my => simp only [BX] at h; simp only [BE, A0, Ko]; rw [FM 1 _ (by omega), Option.map_some, Int.toNat_of_nonneg h.1]
 | bs =>
  simp only [BX] at h; simp only [BE, A0, Ko]; rw [List.append_assoc, FM 2 _ (by omega)]
  show (if f.bs.length ≤ (f.bs ++ r).length then _ else _) = _
  rw [if_pos (by rw [List.length_append]; omega), List.take_left, List.drop_left]
 | os => simp only [BX] at h; simp only [BE, A0, Ko]; rw [Uu h.1 h.2]
 | v => simp only [BX] at h; simp only [BE, A0, Ko]; rw [Rp h]; rfl
 | fl => simp only [BX] at h; simp only [BE, A0, Ko]; rw [FM 8 _ (by omega)]; rfl
 | fq => simp only [BX] at h; simp only [BE, A0, Ko]; rw [FM 8 _ (by omega)]; rfl
 | pr => simp only [BX] at h; simp only [BE, A0, Ko]; rw [FM 8 _ (by omega)]; rfl
 | tl => simp only [BX] at h; simp only [BE, A0, Ko]; rw [FM 8 _ (by omega)]; rfl
 | w => simp only [BX] at h; simp only [BE, A0, Ko]; rw [Rp h]; rfl
theorem OT {f : Fr} : ∀ (ns : List Fl) (g : Fr), (∀ n ∈ ns, BX f n) → ∀ r, Ha ns g (BM f ns ++ r) = some (ns.foldl (fun o n => Ko o f n) g, r)
 | [], g, _, r => rfl
 | n :: ns, g, h, r => by
  simp only [Ha, BM, List.flatMap_cons, List.append_assoc]
  rw [Xl g (h n (by simp))]
  exact OT ns _ (fun m hm => h m (by simp [hm])) r
theorem Ob {f g : Fr} {n : Fl} {b t : List UInt8} (h : BE f n b = some (g, t)) : A0 g n ++ t = b ∧ g.k = f.k ∧ ∀ m, m ≠ n → A0 g m = A0 f m := by
 cases n with
 | bs =>
  simp only [BE] at h
  split at h
  ·cases h
  ·rename_i m u hm
   split at h
   ·rename_i hmu
    cases h
    have h1 := Wc hm
    refine ⟨?_, rfl, fun m hm => by cases m <;> first | exact absurd rfl hm | rfl⟩
    simp only [A0]
    rw [List.length_take, Nat.min_eq_left hmu, List.append_assoc, List.take_append_drop, h1.1]
   ·cases h
 | os =>
  simp only [BE] at h
  split at h
  ·cases h
  ·rename_i l u hl
   cases h
   exact ⟨(QL hl).2.2, rfl, fun m hm => by cases m <;> first | exact absurd rfl hm | rfl⟩
 | v | w =>
  simp only [BE, Option.map_eq_some_iff] at h
  obtain ⟨⟨x, y⟩, h1, h2⟩ := h
  cases h2
  exact ⟨(Yd h1).1, rfl, fun m hm => by cases m <;> first | exact absurd rfl hm | rfl⟩
 | _ =>
  simp only [BE, Option.map_eq_some_iff] at h
  obtain ⟨⟨x, y⟩, h1, h2⟩ := h
  cases h2
  have h3 := (Wc h1).1
  refine ⟨?_, rfl, fun m hm => by cases m <;> first | exact absurd rfl hm | rfl⟩
  simpa only [A0, Int.toNat_natCast] using h3
theorem Pu : ∀ (ns : List Fl) {f g : Fr} {b t : List UInt8}, ns.Nodup → Ha ns f b = some (g, t) → BM g ns ++ t = b ∧ g.k = f.k ∧ ∀ m, m ∉ ns → A0 g m = A0 f m
 | [], f, g, b, t, _, h => by cases h; exact ⟨rfl, rfl, fun _ _ => rfl⟩
 | n :: ns, f, g, b, t, hn, h => by
  simp only [Ha] at h
  split at h
  ·cases h
  ·rename_i g1 t1 h1
   have hd := List.nodup_cons.1 hn
   obtain ⟨a1, a2, a3⟩ := Ob h1
   obtain ⟨b1, b2, b3⟩ := Pu ns hd.2 h
   refine ⟨?_, b2.trans a2, fun m hm => ?_⟩
   ·simp only [BM, List.flatMap_cons, List.append_assoc] at b1 ⊢
    rw [b1, b3 n hd.1, a1]
   ·simp only [List.mem_cons, not_or] at hm
    rw [b3 m hm.2, a3 m hm.1]
theorem Ov (k : Int) : (AV k).Nodup := by
 unfold AV
 repeat' split
 all_goals decide
theorem GA {f : Fr} (h : Eb f = true) : (WW f = true ∧ (1 ≤ f.k ∧ f.k ≤ 5) ∧ Eo f = f ∧ D9 f.v = true ∧ D9 f.w = true) ∧ Mv f = true := by
 simp only [Eb, Bool.and_eq_true, decide_eq_true_eq] at h
 obtain ⟨⟨⟨⟨⟨⟨h1, h2⟩, h3⟩, h4⟩, h5⟩, h6⟩, h7⟩ := h
 exact ⟨⟨h1, ⟨h2, h3⟩, h4, h5, h6⟩, h7⟩
theorem PO {f : Fr} (h : WW f = true) : f.ep ≤ 4611686018427387904 ∧ f.sn ≤ 4611686018427387904 ∧ f.fl ≤ 4611686018427387904 ∧ f.fq ≤ 4611686018427387904 ∧ f.pr ≤ 4611686018427387904 ∧ f.tl ≤ 4611686018427387904 := by
 simp only [WW, Og, Bool.and_eq_true, decide_eq_true_eq] at h
 omega
theorem Jy {k : Int} (h1 : 1 ≤ k) (h2 : k ≤ 5) : k = 1 ∨ k = 2 ∨ k = 3 ∨ k = 4 ∨ k = 5 := by omega
theorem QE {f : Fr} (h : Mv f = true) : (f.k = 1 → (1 ≤ f.si ∧ f.si ≤ 8) ∧ 0 ≤ f.ix ∧ f.ix ≤ 64) ∧ (f.k = 2 → (1 ≤ f.si ∧ f.si ≤ 8) ∧ (1 ≤ f.my ∧ f.my ≤ 64) ∧ (0 ≤ f.ix ∧ f.ix < f.my) ∧ 1 ≤ f.bs.length ∧ f.bs.length ≤ 256) ∧
  (f.k = 3 → (0 ≤ f.si ∧ f.si ≤ 8) ∧ (1 ≤ f.os.length ∧ f.os.length ≤ 4) ∧ (∀ o ∈ f.os, Da o = true ∧ (f.si = 0 ∨ o.id.s = f.si)) ∧ G7 f.os = true) ∧ (f.k = 4 → 1 ≤ f.si ∧ f.si ≤ 8) := by
 refine ⟨fun e => ?_, fun e => ?_, fun e => ?_, fun e => ?_⟩ <;> simp only [Mv, e, BQ] at h <;> simp at h
 ·omega
 ·omega
 ·refine ⟨by omega, by omega, fun o ho => h.1.2 o ho, h.2⟩
 ·omega
theorem LC {f : Fr} (h : Eb f = true) : ∀ n ∈ AV f.k, BX f n := by
 obtain ⟨⟨h1, ⟨h2, h2'⟩, _, h4, h5⟩, h6⟩ := GA h
 obtain ⟨t1, t2, t3, t4, t5, t6⟩ := PO h1
 obtain ⟨k1, k2, k3, k4⟩ := QE h6
 rcases Jy h2 h2' with e | e | e | e | e <;> rw [e] <;> intro n hn <;> simp [AV] at hn
 ·have := k1 e; rcases hn with rfl | rfl | rfl | rfl <;> simp only [BX] <;> omega
 ·have := k2 e; rcases hn with rfl | rfl | rfl | rfl | rfl | rfl <;> simp only [BX] <;> omega
 ·have := k3 e
  rcases hn with rfl | rfl | rfl <;> simp only [BX]
  ·omega
  ·omega
  ·exact ⟨fun o ho => (this.2.2.1 o ho).1, by omega⟩
 ·have := k4 e; rcases hn with rfl | rfl | rfl | rfl | rfl <;> simp only [BX] <;> first | omega | assumption
 ·rcases hn with rfl | rfl | rfl | rfl | rfl <;> simp only [BX] <;> first | omega | assumption
theorem kU {k : Int} (h1 : 0 ≤ k) (h2 : k < 256) : Av 1 k.toNat = [UInt8.ofNat k.toNat] ∧ ((UInt8.ofNat k.toNat).toNat : Int) = k := by
 have h := TH k h1 h2
 have hm : k.toNat % 256 = k.toNat := Nat.mod_eq_of_lt (by omega)
 rw [Qw, hm]; rw [hm] at h
 exact ⟨rfl, h⟩
theorem Uq {f : Fr} (h : Eb f = true) : Gr (A5 f) = some f := by
 obtain ⟨⟨_, ⟨h2, h2'⟩, h3, _, _⟩, _⟩ := GA h
 obtain ⟨e1, e2⟩ := kU (k := f.k) (by omega) (by omega)
 have e := OT (AV f.k) { Fr.zero with k := f.k } (LC h) []
 rw [List.append_nil] at e
 unfold A5
 rw [e1]
 simp only [List.cons_append, List.nil_append, Gr]
 rw [e2, e]
 show (if Eb (Eo f) = true then some (Eo f) else none) = _
 rw [h3, if_pos h]
theorem Ack {f : Fr} {b : List UInt8} (h : Gr b = some f) : Eb f = true ∧ A5 f = b := by
 cases b with
 | nil => cases h
 | cons k b =>
  simp only [Gr] at h
  split at h
  ·rename_i g hg
   split at h
   ·rename_i hf
    cases h
    obtain ⟨b1, b2, _⟩ := Pu _ (Ov _) hg
    refine ⟨hf, ?_⟩
    unfold A5
    rw [List.append_nil] at b1
    rw [b2, b1]
    simp only [Int.toNat_natCast]
    rw [Jx]; rfl
   ·cases h
  ·cases h
theorem Aac {f g : Fr} (h : Eb f = true) (k : Eb g = true) (e : A5 f = A5 g) : f = g := by
 have h1 := Uq h
 rw [e, Uq k] at h1
 cases h1; rfl
theorem RL {o : Bb} (h : Da o = true) : (Cf o).length ≤ 280 := by
 obtain ⟨_, ⟨h1, h2⟩, _, _, _, h6, _⟩ := EM h
 have hf : (CU o).length = 2 := by simp [CU, As]
 have ht : (FK o).length = 2 := by simp [FK, As]
 have hs : (Et o).length = 2 := by simp [Et, As]
 have hi := C0 o.tg
 have hp := FZ o.px
 unfold Cf Bu
 rw [List.length_append, List.length_append, As, C0]
 split
 ·simp only [List.length_append, List.length_cons, List.length_nil]; omega
 ·split
  ·simp only [List.length_append, List.length_cons, List.length_nil]; omega
  ·split
   ·simp only [List.length_append, List.length_cons, List.length_nil]; omega
   ·split
    ·rename_i h6'
     obtain ⟨s1, s2, s3⟩ := JR (h6 h6')
     simp only [Bv, Bool.and_eq_true, decide_eq_true_eq] at s1 s2
     have hm : o.w.toNat * o.h.toNat ≤ 8 * 8 := Nat.mul_le_mul (by omega) (by omega)
     simp only [List.length_append, As]; omega
    ·omega
theorem VO {f : Fr} (h : Eb f = true) : (A5 f).length ≤ 1200 := by
 obtain ⟨⟨_, ⟨h2, h2'⟩, _, _, _⟩, h6⟩ := GA h
 obtain ⟨_, k2, k3, _⟩ := QE h6
 have hv := FS f.v
 have hw := FS f.w
 unfold A5
 rw [List.length_append, As]
 rcases Jy h2 h2' with e | e | e | e | e <;> rw [e]
 ·simp [AV, BM, A0, As]
 ·have := k2 e; simp [AV, BM, A0, As]; omega
 ·obtain ⟨_, a2, a3, _⟩ := k3 e
  have hl : ∀ (l : List Bb), (∀ o ∈ l, Da o = true) → (l.flatMap Cf).length ≤ 280 * l.length := fun l hl => by
   induction l with
   | nil => simp
   | cons x l ih =>
    have h1 := RL (hl x (by simp))
    have h2 := ih fun o ho => hl o (by simp [ho])
    rw [List.flatMap_cons, List.length_append, List.length_cons]; omega
  have h3 := hl f.os fun o ho => (a3 o ho).1
  have h4 : (BM f (AV 3)).length = 8 + (1 + (1 + (f.os.flatMap Cf).length)) := by
   show (Av 8 f.ep ++ (Av 1 f.si.toNat ++ (C9 f.os ++ []))).length = _
   simp only [List.length_append, As, C9, List.length_nil]; omega
  rw [h4]; omega
 ·simp [AV, BM, A0, As, hv]
 ·simp [AV, BM, A0, As, hv, hw]

set_option maxRecDepth 20000
def Ach : Nat := 3988292384
def AO (r : Nat) : Nat := if r % 2 = 1 then (r / 2) ^^^ Ach else r / 2
def DT : Nat → Nat → Nat
 | 0, r => r
 | n + 1, r => DT n (AO r)
def YR (r : Nat) (x : UInt8) : Nat := DT 8 (r ^^^ x.toNat)
def I8 (r : Nat) (b : List UInt8) : Nat := b.foldl YR r
def cF : Nat := 4294967295
def E7 (b : List UInt8) : Nat := cF - I8 cF b
def nB : List UInt8 → Nat
 | [] => 0
 | x :: xs => x.toNat + 256 * nB xs
def VG : Nat → Nat → List UInt8
 | 0, _ => []
 | k + 1, n => UInt8.ofNat n :: VG k (n / 256)
theorem KI (a b : Nat) : (a ^^^ b) % 2 = (a % 2 + b % 2) % 2 := by
 have h := Nat.testBit_xor a b 0
 simp only [Nat.testBit_zero] at h
 have e : (a ^^^ b) % 2 = 1 ↔ (decide (a % 2 = 1) ^^ decide (b % 2 = 1)) = true := by rw [← h]; simp
 by_cases h1 : a % 2 = 1 <;> by_cases h2 : b % 2 = 1 <;> simp only [h1, h2, decide_true, decide_false, Bool.xor_self, Bool.xor_true, Bool.xor_false, Bool.not_false, Bool.false_eq_true, iff_true, iff_false] at e <;> omega
theorem Oi (a b : Nat) : (a ^^^ b) / 2 = a / 2 ^^^ b / 2 := by
 have := Nat.shiftRight_xor_distrib (a := a) (b := b) (i := 1)
 simpa [Nat.shiftRight_succ] using this
theorem Wt (a b c : Nat) : (a ^^^ c) ^^^ (b ^^^ c) = a ^^^ b := by
 rw [Nat.xor_comm b c, Nat.xor_assoc, ← Nat.xor_assoc c c b, Nat.xor_self, Nat.zero_xor]
theorem WX (a b : Nat) : AO (a ^^^ b) = AO a ^^^ AO b := by
 unfold AO
 rw [KI, Oi]
 by_cases h1 : a % 2 = 1 <;> by_cases h2 : b % 2 = 1
 ·rw [if_neg (by omega), if_pos h1, if_pos h2, Wt]
 ·rw [if_pos (by omega), if_pos h1, if_neg h2, Nat.xor_assoc, Nat.xor_comm (b / 2), ← Nat.xor_assoc]
 ·rw [if_pos (by omega), if_neg h1, if_pos h2, Nat.xor_assoc]
 ·rw [if_neg (by omega), if_neg h1, if_neg h2]
theorem WY (a : Nat) : AO (2 * a) = a := by unfold AO; rw [if_neg (by omega)]; omega
theorem HB : ∀ (n a b : Nat), DT n (a ^^^ b) = DT n a ^^^ DT n b
 | 0, _, _ => rfl
 | n + 1, a, b => by simp only [DT]; rw [WX, HB n]
theorem HC : ∀ (n m a : Nat), DT (n + m) a = DT m (DT n a)
 | 0, m, a => by rw [Nat.zero_add]; rfl
 | n + 1, m, a => by rw [Nat.add_right_comm]; simp only [DT]; exact HC n m _
theorem IC : ∀ (n a : Nat), DT n (2 ^ n * a) = a
 | 0, a => by simp [DT]
 | n + 1, a => by simp only [DT]; rw [Nat.pow_succ, Nat.mul_comm (2 ^ n) 2, Nat.mul_assoc, WY]; exact IC n a
theorem TW {a : Nat} (h : a < 4294967296) : AO a < 4294967296 := by
 unfold AO
 split
 ·exact Nat.xor_lt_two_pow (n := 32) (show a / 2 < 2 ^ 32 by omega) (by decide)
 ·omega
theorem Jj : ∀ (n : Nat) {a : Nat}, a < 4294967296 → DT n a < 4294967296
 | 0, _, h => h
 | n + 1, _, h => Jj n (TW h)
theorem Yk (x y : Nat) (h : x < 256) : x + 256 * y = x ^^^ 256 * y := by
 have h1 := Nat.two_pow_add_eq_or_of_lt (i := 8) (b := x) (by omega) y
 rw [show 2 ^ 8 = 256 from rfl] at h1
 rw [Nat.add_comm, h1]
 apply Nat.eq_of_testBit_eq
 intro i
 rw [Nat.testBit_or, Nat.testBit_xor, show 256 * y = 2 ^ 8 * y from rfl, Nat.testBit_two_pow_mul]
 by_cases hi : i < 8
 ·have : ¬ 8 ≤ i := by omega
  simp [this]
 ·have : x.testBit i = false := Nat.testBit_lt_two_pow (Nat.lt_of_lt_of_le h (show 2 ^ 8 ≤ 2 ^ i from Nat.pow_le_pow_right (by omega) (by omega)))
  simp [this]
theorem R7 : ∀ (b : List UInt8) (r : Nat), I8 r b = DT (8 * b.length) (r ^^^ nB b)
 | [], r => by simp [I8, nB, DT]
 | x :: xs, r => by
  have ih := R7 xs (YR r x)
  unfold I8 at ih ⊢
  rw [List.foldl_cons, ih, List.length_cons, Nat.mul_add, Nat.mul_one, Nat.add_comm (8 * xs.length), HC, nB, Yk _ _ x.toNat_lt, ← Nat.xor_assoc]
  congr 1
  rw [HB 8 (r ^^^ x.toNat), show 256 * nB xs = 2 ^ 8 * nB xs from rfl, IC]; rfl
theorem N9 : ∀ (b : List UInt8) {r : Nat}, r < 4294967296 → I8 r b < 4294967296
 | [], _, h => h
 | x :: xs, r, h => by
  unfold I8; rw [List.foldl_cons]
  exact N9 xs (Jj 8 (Nat.xor_lt_two_pow (n := 32) h (Nat.lt_of_lt_of_le x.toNat_lt (by decide))))
theorem YC : ∀ (b : List UInt8), nB b < 256 ^ b.length
 | [] => by simp [nB]
 | x :: xs => by have := YC xs; have := x.toNat_lt; rw [nB, List.length_cons, Nat.pow_succ]; omega
theorem IT : ∀ (k n : Nat), (VG k n).length = k
 | 0, _ => rfl
 | k + 1, n => by rw [VG, List.length_cons, IT]
def Km (w : Nat) : List UInt8 := VG 4 w
def AS (b : List UInt8) : List UInt8 := b ++ Km (E7 b)
def DN (s : List UInt8) : Option (List UInt8) :=
 if s.length < 4 then none else if s.drop (s.length - 4) = Km (E7 (s.take (s.length - 4))) then some (s.take (s.length - 4)) else none
theorem N7 (b : List UInt8) : E7 b < 4294967296 := by unfold E7 cF; omega
theorem Jt (b : List UInt8) : DN (AS b) = some b := by
 have hl : (AS b).length = b.length + 4 := by simp [AS, Km, IT]
 unfold DN
 rw [if_neg (by omega), hl, show b.length + 4 - 4 = b.length by omega]
 unfold AS
 rw [List.take_left, List.drop_left, if_pos rfl]
theorem SA {s b : List UInt8} (h : DN s = some b) : s = AS b := by
 unfold DN at h
 split at h
 ·cases h
 ·split at h
  ·rename_i h1 h2
   cases h
   unfold AS
   rw [← h2, List.take_append_drop]
  ·cases h
theorem ZK (n : Nat) : 256 ^ n = 2 ^ (8 * n) := by rw [show 256 = 2 ^ 8 from rfl, ← Nat.pow_mul]

set_option maxRecDepth 10000
def ER (f : Fr) : List UInt8 × Int := if Eb f then (AS (A5 f), 0) else ([], 300)
def CY (b : List UInt8) : Fr × Int := match DN b with
 | none => (.zero, 120)
 | some c => match Gr c with
  | none => (.zero, 300)
  | some f => (f, 0)
theorem KY (b : List UInt8) : (AS b).length = b.length + 4 := by simp [AS, Km, IT]
theorem Ih {f : Fr} (h : Eb f = true) : CY (AS (A5 f)) = (f, 0) := by unfold CY; rw [Jt]; show (match Gr (A5 f) with | none => _ | some f => _) = _; rw [Uq h]
theorem PZ (b : List UInt8) : (CY b = (.zero, 120) ∧ DN b = none) ∨ (CY b = (.zero, 300) ∧ ∃ c, DN b = some c ∧ Gr c = none) ∨ ∃ f, CY b = (f, 0) ∧ Eb f = true ∧ AS (A5 f) = b := by
 unfold CY
 cases hb : DN b with
 | none => exact .inl ⟨rfl, rfl⟩
 | some c =>
  cases hc : Gr c with
  | none => exact .inr (.inl ⟨by simp only [hc], c, rfl, hc⟩)
  | some f =>
   obtain ⟨h1, h2⟩ := Ack hc
   exact .inr (.inr ⟨f, by simp only [hc], h1, by rw [h2, SA hb]⟩)
theorem TZ {a b : List UInt8} (h : AS a = AS b) : a = b := by
 have := Jt a
 rw [h, Jt] at this
 cases this; rfl
theorem Nb {f g : Fr} (h : Eb f = true) (k : Eb g = true) : (AS (A5 f) = AS (A5 g)) ↔ f = g := ⟨fun e => Aac h k (TZ e), fun e => by rw [e]⟩

end Go.Proofs.YtbgcjnfhadhjeaaGreat