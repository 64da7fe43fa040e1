/- Walks by data and names, part 25: Numbers as bytes: plain. Octet, by V: numbers laid. Octet, by V: Put, Lay; a reader's Number. -/
import Derived.ChangeKeysEq
import Derived.Test.YtbgcjnfhadhjeaaGreatQk24
namespace Go.Proofs.YtbgcjnfhadhjeaaGreat
set_option maxRecDepth 20000
open Go.RowKit
def AF : Nat → Nat → List UInt8
 | 0, _ => []
 | w + 1, n => AF w (n / 256) ++ [UInt8.ofNat (n % 256)]
def AV (b : List UInt8) : Nat := b.foldl (fun a x => 256 * a + x.toNat) 0
theorem F8 (b : List UInt8) (x : UInt8) : AV (b ++ [x]) = 256 * AV b + x.toNat := by simp [AV]
theorem AI : ∀ (w n : Nat), (AF w n).length = w
 | 0, _ => rfl
 | w + 1, n => by simp [AF, AI w]
theorem MN : ∀ (w n : Nat), AF (w + 1) n = UInt8.ofNat (n / 256 ^ w % 256) :: AF w n
 | 0, n => by simp [AF]
 | w + 1, n => by
  rw [show AF (w + 1 + 1) n = AF (w + 1) (n / 256) ++ [UInt8.ofNat (n % 256)] from rfl, MN w (n / 256)]
  simp only [AF, List.cons_append, Nat.div_div_eq_div_mul, Nat.pow_succ]
  rw [Nat.mul_comm]
theorem KO (n : Nat) (h : n < 256) : (UInt8.ofNat n).toNat = n := by simp []; omega
theorem Ts (n : Nat) (h : n < 256) : vb (UInt8.ofNat n) = .int .u8 n := by simp only [vb, KO n h]
theorem Ff : ∀ (w n : Nat), n < 256 ^ w → AV (AF w n) = n
 | 0, n, h => by simp at h; subst h; rfl
 | w + 1, n, h => by
  rw [Nat.pow_succ] at h
  rw [AF, F8, Ff w _ (by omega), KO _ (by omega)]; omega
theorem HR : ∀ (b : List UInt8), AV b < 256 ^ b.length := fun b => by
 suffices ∀ n (b : List UInt8), b.length = n → AV b < 256 ^ n from this _ b rfl
 intro n
 induction n with
 | zero => intro b hb; have := List.eq_nil_of_length_eq_zero hb; subst this; simp [AV]
 | succ n ih =>
  intro b hb
  obtain ⟨c, x, rfl⟩ : ∃ c x, b = c ++ [x] := ⟨b.dropLast, b.getLast (by intro h; simp [h] at hb), (List.dropLast_concat_getLast _).symm⟩
  have h1 := ih c (by simpa using hb)
  have h2 := x.toNat_lt
  rw [F8, Nat.pow_succ]; omega
theorem Gd : ∀ (b : List UInt8), AF b.length (AV b) = b := fun b => by
 suffices ∀ n (b : List UInt8), b.length = n → AF n (AV b) = b from this _ b rfl
 intro n
 induction n with
 | zero => intro b hb; have := List.eq_nil_of_length_eq_zero hb; subst this; rfl
 | succ n ih =>
  intro b hb
  obtain ⟨c, x, rfl⟩ : ∃ c x, b = c ++ [x] := ⟨b.dropLast, b.getLast (by intro h; simp [h] at hb), (List.dropLast_concat_getLast _).symm⟩
  have h1 := ih c (by simpa using hb)
  have h2 := x.toNat_lt
  rw [F8, AF, show (256 * AV c + x.toNat) / 256 = AV c by omega, h1, show (256 * AV c + x.toNat) % 256 = x.toNat by omega]
  simp
theorem ZY (a b : Nat) (h : a ≤ b) : 256 ^ a ≤ 256 ^ b := Nat.pow_le_pow_right (by omega) h
theorem Ln (b : List UInt8) (h : b.length ≤ 7) : AV b < 72057594037927936 := Nat.lt_of_lt_of_le (HR b) (ZY _ 7 h)
theorem Qy (n : Nat) : IntKind.u8.wrap (n : Int) = ((n % 256 : Nat) : Int) := by
 rw [show (n : Int) = 256 * ((n / 256 : Nat) : Int) + ((n % 256 : Nat) : Int) by omega]; simp [IntKind.wrap, IntKind.bits, IntKind.signed]
theorem Ug (w n : Nat) : n / 256 ^ w % 256 < 256 := Nat.mod_lt _ (by omega)
set_option maxRecDepth 10000
set_option maxHeartbeats 4000000
theorem BF (b : List UInt8) (hb : b.length ≤ 8) : VP Tryz.prog 102 [BD b] (· = .ret (AK (AV b))) := by
 refine Al fun B => ?_
 have ha := Av b
 repeat' (first | refine Ai ?_ | refine Ah ?_ | refine nc ?_ ?_ | (with_reducible intro _ <;> (try (exfalso; omega))) | refine Aa ?_ | (refine nd ?_ ?_ <;> intro hg <;> first | exact xo hg | rw [hg]))
 refine Bo 6 b (fun x => [.lit (vb x)]) (fun (i : Nat) (_ : Unit) => ⟨[(8, I .i64 i), (7, I .i64 (AG b).length), (6, .d (.sl false false (AG b))), (3, I .u64 (AV (b.take i)))], [], 0⟩) (fun i _ => True) () (AE) trivial (fun i y x hT hi hx hx' hlt hlm hlen hdr => ?_) (fun y hT hlt hlm => ?_)
 ·have htk : AV (b.take (i + 1)) = 256 * AV (b.take i) + x.toNat := by rw [List.take_add_one, hx]; exact F8 _ _
  have h1 := Ln (b.take i) (by simp; omega)
  have h2 := x.toNat_lt
  repeat' (first | refine Ai ?_ | refine Ah ?_ | refine nc ?_ ?_ | (with_reducible intro _ <;> (try (exfalso; omega))) | refine Aa ?_ | (refine nd ?_ ?_ <;> intro hg <;> first | exact xo hg | rw [hg]))
  refine Bd () hi trivial ?_
  rw [show ((AV (b.take (i + 1)) : Nat) : Int) = 256 * (AV (b.take i) : Int) + (x.toNat : Int) by rw [htk]; simp]
  exact (AE)
 ·repeat' (first | refine Ai ?_ | refine Ah ?_ | refine nc ?_ ?_ | (with_reducible intro _ <;> (try (exfalso; omega))) | refine Aa ?_ | (refine nd ?_ ?_ <;> intro hg <;> first | exact xo hg | rw [hg]))
  rw [List.take_of_length_le (Nat.le_refl _)]

set_option maxRecDepth 20000
set_option maxRecDepth 10000
theorem Bf (e : Int) : VP Tryz.prog 200 [.lit (.bool true), An e] (· = .ret (.tup [])) := by
 refine Al fun B => ?_
 repeat' (first | refine Ai ?_ | refine Ah ?_ | refine nc ?_ ?_ | (with_reducible intro _ <;> (try (exfalso; omega))) | refine Aa ?_ | (refine nd ?_ ?_ <;> intro hg <;> first | exact xo hg | rw [hg]))
 all_goals rfl
theorem Ds (e : Int) : VP Tryz.prog 200 [.lit (.bool false), An e] (· = .panic (GM e)) := by
 refine Al fun B => ?_
 repeat' (first | refine Ai ?_ | refine Ah ?_ | refine nc ?_ ?_ | (with_reducible intro _ <;> (try (exfalso; omega))) | refine Aa ?_ | (refine nd ?_ ?_ <;> intro hg <;> first | exact xo hg | rw [hg]))
 all_goals rfl
theorem BA (c : Bool) (e : Int) : VP Tryz.prog 200 [.lit (.bool c), An e] (· = if c then .ret (.tup []) else .panic (GM e)) := by
 cases c with
 | true => exact Bf e
 | false => exact Ds e
theorem Rt (w : Int) (h : 1 ≤ w ∧ w ≤ 8) : VP Tryz.prog 201 [An w] (· = .ret (.lit (.bool true))) := by
 refine Al fun B => ?_
 repeat' (first | refine Ai ?_ | refine Ah ?_ | refine nc ?_ ?_ | (with_reducible intro _ <;> (try (exfalso; omega))) | refine Aa ?_ | (refine nd ?_ ?_ <;> intro hg <;> first | exact xo hg | rw [hg]))
 all_goals simp; omega
theorem Xx (n x : Nat) (hn : n < 72057594037927936) (hx : x < 256) : IntKind.u64.wrap ((BitVec.ofInt IntKind.u64.bits (IntKind.u64.wrap ((n : Int) * 2 ^ min (Int.toNat 8) IntKind.u64.bits)) ||| BitVec.ofInt IntKind.u64.bits (x : Int)).toNat : Nat) = ((256 * n + x : Nat) : Int) := by
 rw [show ((n : Int) * 2 ^ min (Int.toNat 8) IntKind.u64.bits) = ((256 * n : Nat) : Int) by rw [show (2 : Int) ^ min (Int.toNat 8) IntKind.u64.bits = 256 from rfl]; omega]
 rw [show IntKind.u64.wrap ((256 * n : Nat) : Int) = ((256 * n : Nat) : Int) from CR (by simp only [I6]; omega)]
 have h : (BitVec.ofInt IntKind.u64.bits ((256 * n : Nat) : Int) ||| BitVec.ofInt IntKind.u64.bits (x : Int)).toNat = 256 * n + x := by
  rw [BitVec.toNat_or, BitVec.ofInt_natCast, BitVec.ofInt_natCast, BitVec.toNat_ofNat, BitVec.toNat_ofNat, show (2 : Nat) ^ IntKind.u64.bits = 18446744073709551616 from rfl, Nat.mod_eq_of_lt (by omega), Nat.mod_eq_of_lt (by omega)]
  have := Nat.shiftLeft_add_eq_or_of_lt (i := 8) (b := x) (by omega) n
  rw [Nat.shiftLeft_eq, show 2 ^ 8 = 256 from rfl] at this
  rw [Nat.mul_comm 256 n, ← this]
 rw [h, CR (by simp only [I6]; omega)]
theorem U5 (b : List UInt8) (hb : b.length ≤ 8) : VP Tryz.prog 202 [BD b] (· = .ret (AK (AV b))) := by
 refine Al fun B => ?_
 have ha := Av b
 repeat' (first | refine Ai ?_ | refine Ah ?_ | refine nc ?_ ?_ | (with_reducible intro _ <;> (try (exfalso; omega))) | refine Aa ?_ | (refine nd ?_ ?_ <;> intro hg <;> first | exact xo hg | rw [hg]))
 refine Bo 6 b (fun x => [.lit (vb x)]) (fun (i : Nat) (_ : Unit) => ⟨[(8, I .i64 i), (7, I .i64 (AG b).length), (6, .d (.sl false false (AG b))), (3, I .u64 (AV (b.take i)))], [], 0⟩) (fun i _ => True) () (AE) trivial (fun i y x hT hi hx hx' hlt hlm hlen hdr => ?_) (fun y hT hlt hlm => ?_)
 ·have htk : AV (b.take (i + 1)) = 256 * AV (b.take i) + x.toNat := by rw [List.take_add_one, hx]; exact F8 _ _
  have h1 := Ln (b.take i) (by simp; omega)
  have h2 := x.toNat_lt
  repeat' (first | refine Ai ?_ | refine Ah ?_ | refine nc ?_ ?_ | (with_reducible intro _ <;> (try (exfalso; omega))) | refine Aa ?_ | (refine nd ?_ ?_ <;> intro hg <;> first | exact xo hg | rw [hg]))
  refine Bd () hi trivial ?_
  rw [Xx _ _ h1 h2, ← htk]
  exact (AE)
 ·repeat' (first | refine Ai ?_ | refine Ah ?_ | refine nc ?_ ?_ | (with_reducible intro _ <;> (try (exfalso; omega))) | refine Aa ?_ | (refine nd ?_ ?_ <;> intro hg <;> first | exact xo hg | rw [hg]))
  rw [List.take_of_length_le (Nat.le_refl _)]
theorem V8 (a b : List UInt8) (h : a.length + b.length ≤ 140737488355328) : VP Tryz.prog 176 [BD a, BD b] (· = .own 5 1 (AG (a ++ b))) := by
 refine Al fun B => ?_
 have ha := Av a
 have hb := Av b
 repeat' (first | refine Ai ?_ | (refine As ?_; first | refine Oe ?_) | refine Ah ?_ | refine nc ?_ ?_ | (with_reducible intro _ <;> (try (exfalso; omega))) | refine Aa ?_ | (refine nd ?_ ?_ <;> intro hg <;> first | exact xo hg | rw [hg]))
 all_goals simp [AG]
theorem QX (n k : Nat) (h : k ≤ 8) : (n : Int).fdiv (2 ^ min (8 * (k : Int)).toNat IntKind.u64.bits) = ((n / 256 ^ k : Nat) : Int) := by
 rw [show min (8 * (k : Int)).toNat IntKind.u64.bits = 8 * k by rw [show IntKind.u64.bits = 64 from rfl]; omega, Int.fdiv_eq_ediv_of_nonneg _ (Int.pow_nonneg (by omega)), show (256 : Nat) = 2 ^ 8 from rfl, ← Nat.pow_mul]
 simp
theorem XX (w n : Nat) (h : w ≤ 8) : AG (AF (w + 1) n) = [.lit (.int .u8 (IntKind.u8.wrap ((n : Int).fdiv (2 ^ min (8 * (w : Int)).toNat IntKind.u64.bits))))] :: AG (AF w n) := by
 rw [MN, QX n w h, Qy]
 simp only [AG, List.map_cons, Ts _ (Ug w n)]
theorem Qi (w n : Nat) (hw : 1 ≤ w ∧ w ≤ 8) (hn : n < 256 ^ w) : VP Tryz.prog 177 [An w, AK n] (· = .ret (BD (AF w n))) := by
 have ci := Rt w (by omega)
 have hz : (n : Int).fdiv (2 ^ min (8 * (w : Int)).toNat IntKind.u64.bits) = 0 := by rw [QX n w hw.2, Nat.div_eq_of_lt hn]; rfl
 have c2 := Bf 112
 rw [← decide_eq_true hz] at c2
 have h8 : w = 1 ∨ w = 2 ∨ w = 3 ∨ w = 4 ∨ w = 5 ∨ w = 6 ∨ w = 7 ∨ w = 8 := by omega
 rcases h8 with rfl | rfl | rfl | rfl | rfl | rfl | rfl | rfl
 all_goals
  refine Al fun B => ?_
  repeat' (first | refine Ai ?_ | (refine As ?_; first | refine cz (ci) ?_ | refine cz (Bf 111) ?_ | refine cz (Bf 112) ?_ | refine cz (c2) ?_) | refine Ah ?_ | refine nc ?_ ?_ | (with_reducible intro _ <;> (try (exfalso; omega))) | refine Aa ?_ | (refine nd ?_ ?_ <;> intro hg <;> first | exact xo hg | rw [hg]))
  refine AB 9 ?_
  repeat' (first | refine Ai ?_ | (refine As ?_; first | refine AZ ?_) | refine Ah ?_ | refine nc ?_ ?_ | (with_reducible intro _ <;> (try (exfalso; omega))) | refine Aa ?_ | (refine nd ?_ ?_ <;> intro hg <;> first | exact xo hg | rw [hg]))
 all_goals (show _ = R.ret (.sl false false (AG _)))
 all_goals (repeat rw [XX _ n (by omega)])
 all_goals rfl

set_option maxRecDepth 20000
set_option maxRecDepth 10000
theorem JY (b : List UInt8) (w n : Nat) (hw : 1 ≤ w ∧ w ≤ 8) (hn : n < 256 ^ w) (hb : b.length ≤ 100000000) : VP Tryz.prog 172 [BD b, An w, AK n] (· = .ret (.tup [.sl false true (AG (b ++ AF w n)), An 0])) := by
 have c1 := Qi w n hw hn
 have c2 := V8 b (AF w n) (by rw [AI]; omega)
 refine Al fun B => ?_
 repeat' (first | refine Ai ?_ | (refine As ?_; first | refine cz (c1) ?_ | refine cz (c2) ?_ | refine Ae 211 fun _ => ?_ | refine BI (hc := AN (fd := 246) Tryz.func210 rfl Tryz.ntmps210 Tryz.results210 fun _ => ?_)) | refine Ah ?_ | refine nc ?_ ?_ | (with_reducible intro _ <;> (try (exfalso; omega))) | refine Aa ?_ | (refine nd ?_ ?_ <;> intro hg <;> first | exact xo hg | rw [hg]) | refine AU Tryz.func246 rfl Tryz.ntmps246 Tryz.results246 ?_)
 all_goals first | rfl | trace_state
theorem Pk (b : List UInt8) (n : Nat) : CP none (some (n : Int)) (AG b) = AG (b.take n) := by
 rw [DK]; simp [AG, List.map_take]
theorem Adv (b : List UInt8) (n : Nat) : CP (some (n : Int)) none (AG b) = AG (b.drop n) := AaN _ b n
theorem DI (f : Bool) (b : List UInt8) (w : Nat) (hw : 1 ≤ w ∧ w ≤ 8) (h : w ≤ b.length) : Dk Tryz.prog 219 1 [.ptr 0 0, .d (An w)] [.c 0 0 [.d (.sl false f (AG b)), .d (An 0)]] 1 (.ret (.d (AK (AV (b.take w))))) [.c 0 0 [.d (.sl false f (AG (b.drop w))), .d (An 0)]] 1 := by
 have ci := Rt w (by omega)
 have cn := U5 (b.take w) (by simp; omega)
 have hl := Av b
 have hc := Pk b w
 have hd := Adv b w
 refine AH fun B M => ?_
 repeat' (first | refine Ai ?_ | (refine As ?_; first | refine cz (ci) ?_ | (refine AJ (Bf 111) ?_; first | refine Ag (Bf 111) ?_ | refine Ao (Ds 111) ?_ | (refine Aj (BA _ 111) ?_ ?_ <;> intro _ <;> (try (exfalso; omega))) | (refine Ap (BA _ 111) ?_ ?_ <;> intro _)) | (refine AJ (Bf 2) ?_; first | refine Ag (Bf 2) ?_ | refine Ao (Ds 2) ?_ | (refine Aj (BA _ 2) ?_ ?_ <;> intro _ <;> (try (exfalso; omega))) | (refine Ap (BA _ 2) ?_ ?_ <;> intro _)) | (refine AJ (Bf 110) ?_; first | refine Ag (Bf 110) ?_ | refine Ao (Ds 110) ?_ | (refine Aj (BA _ 110) ?_ ?_ <;> intro _ <;> (try (exfalso; omega))) | (refine Ap (BA _ 110) ?_ ?_ <;> intro _)) | (rw [hc]; first | refine cz (cn) ?_) | refine Ae 256 fun _ => ?_ | refine Ae 255 fun _ => ?_ | refine Ae 254 fun _ => ?_ | refine Ar ?_ | refine Bg ?_ | refine BI (hc := AN (fd := 229) Tryz.func198 rfl Tryz.ntmps198 Tryz.results198 fun _ => ?_)) | refine Ah ?_ | refine nc ?_ ?_ | (with_reducible intro _ <;> (try (exfalso; omega))) | refine Aa ?_ | (refine nd ?_ ?_ <;> intro hg <;> first | exact xo hg | rw [hg]) | refine AU Tryz.func229 rfl Tryz.ntmps229 Tryz.results229 ?_)
 rw [hd]
 exact A8 []
theorem CY (f : Bool) (b : List UInt8) (w : Nat) (hw : 1 ≤ w ∧ w ≤ 8) (h : ¬ w ≤ b.length) : Dk Tryz.prog 219 1 [.ptr 0 0, .d (An w)] [.c 0 0 [.d (.sl false f (AG b)), .d (An 0)]] 1 (.ret (.d (AK 0))) [.c 0 0 [.d (.sl false f (AG b)), .d (An 110)]] 1 := by
 have ci := Rt w (by omega)
 have hl := Av b
 refine AH fun B M => ?_
 repeat' (first | refine Ai ?_ | (refine As ?_; first | refine cz (ci) ?_ | (refine AJ (Bf 111) ?_; first | refine Ag (Bf 111) ?_ | refine Ao (Ds 111) ?_ | (refine Aj (BA _ 111) ?_ ?_ <;> intro _ <;> (try (exfalso; omega))) | (refine Ap (BA _ 111) ?_ ?_ <;> intro _)) | (refine AJ (Bf 2) ?_; first | refine Ag (Bf 2) ?_ | refine Ao (Ds 2) ?_ | (refine Aj (BA _ 2) ?_ ?_ <;> intro _ <;> (try (exfalso; omega))) | (refine Ap (BA _ 2) ?_ ?_ <;> intro _)) | (refine AJ (Bf 110) ?_; first | refine Ag (Bf 110) ?_ | refine Ao (Ds 110) ?_ | (refine Aj (BA _ 110) ?_ ?_ <;> intro _ <;> (try (exfalso; omega))) | (refine Ap (BA _ 110) ?_ ?_ <;> intro _)) | refine Ae 256 fun _ => ?_ | refine Ae 255 fun _ => ?_ | refine Ae 254 fun _ => ?_ | refine Ar ?_ | refine Bg ?_ | refine BI (hc := AN (fd := 229) Tryz.func198 rfl Tryz.ntmps198 Tryz.results198 fun _ => ?_)) | refine Ah ?_ | refine nc ?_ ?_ | (with_reducible intro _ <;> (try (exfalso; omega))) | refine Aa ?_ | (refine nd ?_ ?_ <;> intro hg <;> first | exact xo hg | rw [hg]) | refine AU Tryz.func229 rfl Tryz.ntmps229 Tryz.results229 ?_)
 exact A8 []

set_option maxRecDepth 20000
section
variable {P : Program} {cx : Cx} {s : St}
theorem Xr {t ty e : TypeId} {x : Operand} {k off n cap sz sz' by_ : Nat} [hE : EQ P t e sz' by_] (hx : Af s x = some (.sv k off n cap sz)) : Bq P cx (.call { callee := .builtin .len, args := #[x], argTypes := #[t] }) ty s (I .i64 (n : Int)) := fun g a w hS => by
 have h := hS.eval hx
 simp only [vrep] at h
 obtain ⟨b, _, h, _⟩ := h
 refine ⟨.int .i64 n, ?_, by simp only [vrep, drep]⟩
 simp [execOp, resolve, invoke, builtin, Builtin.len_, h, run_underlying hE.elem.und w, goInt]
theorem Rg {t ty e : TypeId} {x y : Operand} {k0 : IntKind} {i : Int} {k off n cap sz by_ : Nat} [hE : EQ P t e sz by_] (hx : Af s x = some (.sv k off n cap sz)) (hy : Af s y = some (I k0 i)) (h0 : 0 ≤ i) (h1 : i < (n : Int)) : Bq P cx (.indexAddr t x y) ty s (.ptr k (off + i.toNat * sz)) := fun g a w hS => by
 have hx' := hS.eval hx
 have hy' := hS.eval hy
 simp only [vrep, drep] at hx' hy'
 obtain ⟨b, hb, hx', _⟩ := hx'
 have hadd : (⟨b, off, none⟩ : Addr).add (i.toNat * sz) = ⟨b, off + i.toNat * sz, none⟩ := by unfold Addr.add; split <;> simp_all
 refine ⟨.pointer (some ⟨b, off + i.toNat * sz, none⟩), ?_, by simp only [vrep]; exact ⟨b, hb, rfl⟩⟩
 simp [execOp, hx', hy', Instr.indexAt, asIntOf, run_underlying hE.elem.und w, Cv hE.elem, h0, h1, hadd]
class We (P : Program) (t : TypeId) : Prop where
 no : P.eqGuardType P.depth t = false
def uV (n : Int) : Value := .int .u64 n
def uDs : List D → Option (List Int)
 | [] => some []
 | .lit (.int .u64 n) :: r => (uDs r).map (n :: ·)
 | _ => none
def uVs : List V → Option (List Int)
 | [] => some []
 | .d (.lit (.int .u64 n)) :: r => (uVs r).map (n :: ·)
 | _ => none
def Wh : V → Option (List Int)
 | .agg l => uVs l
 | .d (.agg l) => uDs l
 | _ => none
theorem QM {B : Nat} {U : Nat → Prop} {w : World} : ∀ {l : List D} {r : List Int} {us : List Value}, uDs l = some r → dreps B U w l us → us = r.map uV
 | [], r, us, h, hu => by simp only [uDs, Option.some.injEq] at h; subst h; simpa only [dreps, List.map_nil] using hu
 | .lit (.int .u64 n) :: l, r, us, h, hu => by
  simp only [uDs, Option.map_eq_some_iff] at h
  obtain ⟨q, h, rfl⟩ := h
  simp only [dreps, drep] at hu
  obtain ⟨y, ys, rfl, rfl, k⟩ := hu
  rw [QM h k]; rfl
theorem QL {B : Nat} {g : G} {w : World} : ∀ {l : List V} {r : List Int} {us : List Value}, uVs l = some r → vreps B g w l us → us = r.map uV
 | [], r, us, h, hu => by simp only [uVs, Option.some.injEq] at h; subst h; simpa only [vreps, List.map_nil] using hu
 | .d (.lit (.int .u64 n)) :: l, r, us, h, hu => by
  simp only [uVs, Option.map_eq_some_iff] at h
  obtain ⟨q, h, rfl⟩ := h
  simp only [vreps, vrep, drep] at hu
  obtain ⟨y, ys, rfl, rfl, k⟩ := hu
  rw [QL h k]; rfl
theorem Kn {B : Nat} {g : G} {w : World} {v : V} {r : List Int} {u : Value} (h : Wh v = some r) (hu : vrep B g w v u) : u = .agg (r.map uV).toArray := by
 unfold Wh at h
 split at h
 ·simp only [vrep] at hu; obtain ⟨us, rfl, k⟩ := hu; rw [QL h k]
 ·simp only [vrep, drep] at hu; obtain ⟨us, rfl, k⟩ := hu; rw [QM h k]
 ·cases h
theorem FP {w : World} {e : TypeId} {z : List Value} [hI : Jn P e .u64] [hT : BE P e false 1 z] (d : Nat) (xs ys : List Int) : ∀ (is : List Nat), (∀ i ∈ is, i < xs.length ∧ i < ys.length) →
  (Op.eqItems (d + 1) e 1 (xs.map uV).toArray (ys.map uV).toArray is).run P w = .ok (decide (∀ i ∈ is, xs[i]? = ys[i]?)) w
 | [], _ => by simp [Op.eqItems]
 | i :: is, h => by
  obtain ⟨h1, h2⟩ := h i (by simp)
  have ih := FP (w := w) (e := e) (z := z) d xs ys is (fun j hj => h j (by simp [hj]))
  have p1 : (part e (xs.map uV).toArray (i * 1)).run P w = .ok (uV xs[i]) w := JA (t := e) (sz := 1) (z := z) (by simp [h1])
  have p2 : (part e (ys.map uV).toArray (i * 1)).run P w = .ok (uV ys[i]) w := JA (t := e) (sz := 1) (z := z) (by simp [h2])
  have he : (Op.equalIn (d + 1) e (uV xs[i]) (uV ys[i])).run P w = .ok (xs[i] == ys[i]) w := by simp [Op.equalIn, uV, run_underlying hI.und]
  simp only [Op.eqItems, Sem.run_bind, p1, p2, Result.andThen_ok, he]
  by_cases hc : xs[i] = ys[i]
  ·simp [hc, ih, h1, h2]
  ·simp [hc, h1, h2]
theorem AbN {t yt ty e : TypeId} {x y : Operand} {v1 v2 : V} {xs ys : List Int} {n : Nat} {z : List Value} [hA : EP P t n e 1] [hI : Jn P e .u64] [hT : BE P e false 1 z] [hG : We P t] (hx : Af s x = some v1) (hy : Af s y = some v2) (h1 : Wh v1 = some xs) (h2 : Wh v2 = some ys) (hl1 : xs.length = n) (hl2 : ys.length = n) :
  Bq P cx (.binOp .eql t x y yt) ty s (.d (.lit (.bool (decide (xs = ys))))) := fun g a w hS => by
 have e1 := Kn h1 (hS.eval hx)
 have e2 := Kn h2 (hS.eval hy)
 obtain ⟨hu, i, hi, hsz⟩ := hA.get
 have hc : P.cellsOf e = 1 := by simp [Program.cellsOf, hi, hsz]
 have hg := run_eqGuard_agg (P := P) (w := w) .eql t x y (xs.map uV).toArray (ys.map uV).toArray hG.no
 have hq := run_equalIn_array (P := P) w 9999 (xs.map uV).toArray (ys.map uV).toArray hu hi
 rw [hc, FP (e := e) (z := z) 9998 xs ys _ (fun j hj => by simp at hj; omega)] at hq
 have hd : (decide (∀ i ∈ List.range n, xs[i]? = ys[i]?)) = decide (xs = ys) := by
  rw [Bool.eq_iff_iff]
  simp only [List.mem_range, decide_eq_true_eq]
  constructor
  ·intro h
   apply List.ext_getElem?
   intro i
   by_cases hi : i < n
   ·exact h i hi
   ·rw [List.getElem?_eq_none (by omega), List.getElem?_eq_none (by omega)]
  ·rintro rfl _ _; rfl
 rw [hd] at hq
 have hs := run_eql_struct (P := P) (w := w) t (xs.map uV).toArray (ys.map uV).toArray
 rw [hq] at hs
 exact ⟨.bool (decide (xs = ys)), by simp [execOp, e1, e2, hg, hs], by simp only [vrep, drep]⟩
end
section
variable {P : Program} {cx : Cx} {tm : List (Nat × V)} {st : List E} {nb : Nat} {Q : VE → St → Prop} {ops rest : List Oper}
theorem Bl {d : Tmp} {t ty e : TypeId} {x : Operand} {kk off n cap sz sz' by_ : Nat} {pos : String} {af : Array Edge} [hE : EQ P t e sz' by_] (k : VL P cx ops rest ⟨(d, I .i64 (n : Int)) :: tm, st, nb⟩ Q) (hx : Af ⟨tm, st, nb⟩ x = some (.sv kk off n cap sz) := by rfl) (hd : Nat.blt d cx.N = true := by rfl) :
  VL P cx ops (⟨some d, .call { callee := .builtin .len, args := #[x], argTypes := #[t] }, ty, pos, af, none⟩ :: rest) ⟨tm, st, nb⟩ Q := H7 k (IM (h := Xr hx) (hd := hd))
theorem Of {d : Tmp} {t ty e : TypeId} {x y : Operand} {k0 : IntKind} {i : Int} {kk off n cap sz by_ : Nat} {pos : String} {af : Array Edge} [hE : EQ P t e sz by_] (k : VL P cx ops rest ⟨(d, .ptr kk (off + i.toNat * sz)) :: tm, st, nb⟩ Q) (hx : Af ⟨tm, st, nb⟩ x = some (.sv kk off n cap sz) := by rfl) (hy : Af ⟨tm, st, nb⟩ y = some (I k0 i) := by rfl)
  (h0 : 0 ≤ i := by omega) (h1 : i < (n : Int) := by omega) (hd : Nat.blt d cx.N = true := by rfl) :
  VL P cx ops (⟨some d, .indexAddr t x y, ty, pos, af, none⟩ :: rest) ⟨tm, st, nb⟩ Q := H7 k (IM (h := Rg hx hy h0 h1) (hd := hd))
theorem Zd {d : Tmp} {t yt ty e : TypeId} {x y : Operand} {v1 v2 : V} {xs ys : List Int} {n : Nat} {z : List Value} {pos : String} {af : Array Edge} {gd : Option (Nat × Bool)} [hA : EP P t n e 1] [hI : Jn P e .u64] [hT : BE P e false 1 z] [hG : We P t] (k : VL P cx ops rest ⟨(d, .d (.lit (.bool (decide (xs = ys))))) :: tm, st, nb⟩ Q)
  (hx : Af ⟨tm, st, nb⟩ x = some v1 := by rfl) (hy : Af ⟨tm, st, nb⟩ y = some v2 := by rfl) (h1 : Wh v1 = some xs := by rfl) (h2 : Wh v2 = some ys := by rfl) (hl1 : xs.length = n := by rfl) (hl2 : ys.length = n := by rfl) (hd : Nat.blt d cx.N = true := by rfl)
  (hw : Wd ops tm gd := by first | exact trivial | exact A1 rfl rfl (by with_reducible rfl)) : VL P cx ops (⟨some d, .binOp .eql t x y yt, ty, pos, af, gd⟩ :: rest) ⟨tm, st, nb⟩ Q := H7 k (IM (h := AbN hx hy h1 h2 hl1 hl2) (hd := hd) (hw := hw))
end

set_option maxRecDepth 10000
structure Vc where
 n0 : Nat
 n1 : Nat
 n2 : Nat
 n3 : Nat
 n4 : Nat
 n5 : Nat
 n6 : Nat
 n7 : Nat
 n8 : Nat
deriving DecidableEq
abbrev Gv (v : Vc) : List D := [AK v.n0, AK v.n1, AK v.n2, AK v.n3, AK v.n4, AK v.n5, AK v.n6, AK v.n7, AK v.n8]
def O0 (n : Nat) : Bool := decide (n ≤ 4611686018427387904)
def Ej (v : Vc) : Bool := decide (v.n0 = 0) && O0 v.n1 && O0 v.n2 && O0 v.n3 && O0 v.n4 && O0 v.n5 && O0 v.n6 && O0 v.n7 && O0 v.n8
theorem Kl (v : Vc) : Ej v = true ↔ v.n0 = 0 ∧ v.n1 ≤ 4611686018427387904 ∧ v.n2 ≤ 4611686018427387904 ∧ v.n3 ≤ 4611686018427387904 ∧ v.n4 ≤ 4611686018427387904 ∧ v.n5 ≤ 4611686018427387904 ∧ v.n6 ≤ 4611686018427387904 ∧ v.n7 ≤ 4611686018427387904 ∧ v.n8 ≤ 4611686018427387904 := by
 simp [Ej, O0, and_assoc]
theorem Ys {v : Vc} (h : v.n0 = 0 ∧ v.n1 ≤ 4611686018427387904 ∧ v.n2 ≤ 4611686018427387904 ∧ v.n3 ≤ 4611686018427387904 ∧ v.n4 ≤ 4611686018427387904 ∧ v.n5 ≤ 4611686018427387904 ∧ v.n6 ≤ 4611686018427387904 ∧ v.n7 ≤ 4611686018427387904 ∧ v.n8 ≤ 4611686018427387904) : Ej v = true := (Kl v).2 h
theorem Tr {v : Vc} (h : ¬ (v.n0 = 0 ∧ v.n1 ≤ 4611686018427387904 ∧ v.n2 ≤ 4611686018427387904 ∧ v.n3 ≤ 4611686018427387904 ∧ v.n4 ≤ 4611686018427387904 ∧ v.n5 ≤ 4611686018427387904 ∧ v.n6 ≤ 4611686018427387904 ∧ v.n7 ≤ 4611686018427387904 ∧ v.n8 ≤ 4611686018427387904)) : Ej v = false := by
 cases e : Ej v
 ·rfl
 ·exact (h ((Kl v).1 e)).elim
theorem CK (v : Vc) : VP Tryz.prog 34 [.agg (Gv v)] (· = .ret (.lit (.bool (Ej v)))) := by
 refine Al fun B => ?_
 repeat' (first | refine Ai ?_ | refine Ah ?_ | refine nc ?_ ?_ | (with_reducible intro _ <;> (try (exfalso; omega))) | refine Aa ?_ | (refine nd ?_ ?_ <;> intro hg <;> first | exact xo hg | rw [hg]))
 refine AB 10 ?_
 repeat' (first | refine Ai ?_ | refine Ah ?_ | refine nc ?_ ?_ | (with_reducible intro _ <;> (try (exfalso; omega))) | refine Aa ?_ | (refine nd ?_ ?_ <;> intro hg <;> first | exact xo hg | rw [hg]))
 all_goals first | (rw [Tr (by omega)]) | (rw [Ys (by omega)]) | trace_state
theorem KN (v : Vc) : VP Tryz.prog 42 [.agg (Gv v)] (· = .ret (An (if Ej v then 0 else 230))) := by
 refine Al fun B => ?_
 repeat' (first | refine Ai ?_ | (refine As ?_; first | refine Ae 72 fun _ => ?_) | refine Ah ?_ | refine nc ?_ ?_ | (with_reducible intro _ <;> (try (exfalso; omega))) | refine Aa ?_ | (refine nd ?_ ?_ <;> intro hg <;> first | exact xo hg | rw [hg]))
 ·rw [Tr (by omega)]; rfl
 refine Oa rfl rfl rfl rfl rfl rfl rfl fun R T hOk => ?_
 refine CI fun M2 => ?_
 repeat' (first | refine Ai ?_ | refine Ah ?_ | refine nc ?_ ?_ | (with_reducible intro _ <;> (try (exfalso; omega))) | refine Aa ?_ | (refine nd ?_ ?_ <;> intro hg <;> first | exact xo hg | rw [hg]))
 refine AB 10 ?_
 repeat' (first | refine Ai ?_ | (refine As ?_; first | refine AT (by assumption) fun _ _ => ?_) | refine Ah ?_ | refine nc ?_ ?_ | (with_reducible intro _ <;> (try (exfalso; omega))) | refine Aa ?_ | (refine nd ?_ ?_ <;> intro hg <;> first | exact xo hg | rw [hg]))
 all_goals first | (rw [Tr (by omega)]; rfl) | (rw [Ys (by omega)]; rfl) | trace_state
def IL (v : Vc) : List UInt8 := AF 8 v.n1 ++ AF 8 v.n2 ++ AF 8 v.n3 ++ AF 8 v.n4 ++ AF 8 v.n5 ++ AF 8 v.n6 ++ AF 8 v.n7 ++ AF 8 v.n8
def Vc.in (v : Vc) : Prop := v.n0 < 18446744073709551616 ∧ v.n1 < 18446744073709551616 ∧ v.n2 < 18446744073709551616 ∧ v.n3 < 18446744073709551616 ∧ v.n4 < 18446744073709551616 ∧ v.n5 < 18446744073709551616 ∧ v.n6 < 18446744073709551616 ∧ v.n7 < 18446744073709551616 ∧ v.n8 < 18446744073709551616
def Hc (b : List UInt8) : Vc := ⟨0, AV (b.take 8), AV ((b.take 16).drop 8), AV ((b.take 24).drop 16), AV ((b.take 32).drop 24), AV ((b.take 40).drop 32), AV ((b.take 48).drop 40), AV ((b.take 56).drop 48), AV ((b.take 64).drop 56)⟩
def Vc.zero : Vc := ⟨0, 0, 0, 0, 0, 0, 0, 0, 0⟩
def BK (b : List UInt8) : Vc × Int × Int := if b.length < 64 then (.zero, 0, 110) else if Ej (Hc b) then (Hc b, 64, 0) else (.zero, 0, 290)
theorem TL (b : List UInt8) : VP Tryz.prog 157 [BD b] (· = .ret (.tup [.agg (Gv (BK b).1), An (BK b).2.1, An (BK b).2.2])) := by
 have hbl := Av b
 by_cases hl : b.length < 64
 ·rw [BK, if_pos hl]
  refine Al fun B => ?_
  repeat' (first | refine Ai ?_ | refine Ah ?_ | refine nc ?_ ?_ | (with_reducible intro _ <;> (try (exfalso; omega))) | refine Aa ?_ | (refine nd ?_ ?_ <;> intro hg <;> first | exact xo hg | rw [hg]))
  all_goals first | rfl | trace_state
 have h1 : CP (some (8 * 1 - 8)) (some (8 * 1)) (AG b) = AG ((b.take 8).drop 0) := Pm _ b 0 8
 have h2 : CP (some (8 * (1 + 1) - 8)) (some (8 * (1 + 1))) (AG b) = AG ((b.take 16).drop 8) := Pm _ b 8 16
 have h3 : CP (some (8 * (1 + 1 + 1) - 8)) (some (8 * (1 + 1 + 1))) (AG b) = AG ((b.take 24).drop 16) := Pm _ b 16 24
 have h4 : CP (some (8 * (1 + 1 + 1 + 1) - 8)) (some (8 * (1 + 1 + 1 + 1))) (AG b) = AG ((b.take 32).drop 24) := Pm _ b 24 32
 have h5 : CP (some (8 * (1 + 1 + 1 + 1 + 1) - 8)) (some (8 * (1 + 1 + 1 + 1 + 1))) (AG b) = AG ((b.take 40).drop 32) := Pm _ b 32 40
 have h6 : CP (some (8 * (1 + 1 + 1 + 1 + 1 + 1) - 8)) (some (8 * (1 + 1 + 1 + 1 + 1 + 1))) (AG b) = AG ((b.take 48).drop 40) := Pm _ b 40 48
 have h7 : CP (some (8 * (1 + 1 + 1 + 1 + 1 + 1 + 1) - 8)) (some (8 * (1 + 1 + 1 + 1 + 1 + 1 + 1))) (AG b) = AG ((b.take 56).drop 48) := Pm _ b 48 56
 have h8 : CP (some (8 * (1 + 1 + 1 + 1 + 1 + 1 + 1 + 1) - 8)) (some (8 * (1 + 1 + 1 + 1 + 1 + 1 + 1 + 1))) (AG b) = AG ((b.take 64).drop 56) := Pm _ b 56 64
 rw [List.drop_zero] at h1
 have c1 := BF (b.take 8) (by simp; omega)
 have c2 := BF ((b.take 16).drop 8) (by simp; omega)
 have c3 := BF ((b.take 24).drop 16) (by simp; omega)
 have c4 := BF ((b.take 32).drop 24) (by simp; omega)
 have c5 := BF ((b.take 40).drop 32) (by simp; omega)
 have c6 := BF ((b.take 48).drop 40) (by simp; omega)
 have c7 := BF ((b.take 56).drop 48) (by simp; omega)
 have c8 := BF ((b.take 64).drop 56) (by simp; omega)
 have cr := CK (Hc b)
 obtain ⟨r, hr⟩ : ∃ r, Ej (Hc b) = r := ⟨_, rfl⟩
 have ht : BK b = if r then (Hc b, 64, 0) else (.zero, 0, 290) := by rw [BK, if_neg hl, hr]
 rw [hr] at cr
 rw [ht]
 clear ht hr
 simp only [Hc] at cr ⊢
 refine Al fun B => ?_
 repeat' (first | refine Ai ?_ | refine Ah ?_ | refine nc ?_ ?_ | (with_reducible intro _ <;> (try (exfalso; omega))) | refine Aa ?_ | (refine nd ?_ ?_ <;> intro hg <;> first | exact xo hg | rw [hg]))
 refine AB 9 ?_
 repeat' (first | refine Ai ?_ | (refine As ?_; first | (rw [h1]; first | refine cz (c1) ?_) | (rw [h2]; first | refine cz (c2) ?_) | (rw [h3]; first | refine cz (c3) ?_) | (rw [h4]; first | refine cz (c4) ?_) | (rw [h5]; first | refine cz (c5) ?_) | (rw [h6]; first | refine cz (c6) ?_) | (rw [h7]; first | refine cz (c7) ?_) | (rw [h8]; first | refine cz (c8) ?_) | refine cz (cr) ?_) | refine Ah ?_ | refine nc ?_ ?_ | (with_reducible intro _ <;> (try (exfalso; omega))) | refine Aa ?_ | (refine nd ?_ ?_ <;> intro hg <;> first | exact xo hg | rw [hg]))
 all_goals (rename_i hx; cases r)
 all_goals first | rfl | (exact absurd hx (by decide))

set_option maxRecDepth 20000
set_option maxRecDepth 10000
theorem Ab (e : Int) : VP Tryz.prog 180 [.lit (.bool true), An e] (· = .ret (.tup [])) := by
 refine Al fun B => ?_
 repeat' (first | refine Ai ?_ | refine Ah ?_ | refine nc ?_ ?_ | (with_reducible intro _ <;> (try (exfalso; omega))) | refine Aa ?_ | (refine nd ?_ ?_ <;> intro hg <;> first | exact xo hg | rw [hg]))
 all_goals rfl
theorem Ak (e : Int) : VP Tryz.prog 180 [.lit (.bool false), An e] (· = .panic (GM e)) := by
 refine Al fun B => ?_
 repeat' (first | refine Ai ?_ | refine Ah ?_ | refine nc ?_ ?_ | (with_reducible intro _ <;> (try (exfalso; omega))) | refine Aa ?_ | (refine nd ?_ ?_ <;> intro hg <;> first | exact xo hg | rw [hg]))
 all_goals rfl
theorem Ad (c : Bool) (e : Int) : VP Tryz.prog 180 [.lit (.bool c), An e] (· = if c then .ret (.tup []) else .panic (GM e)) := by
 cases c with
 | true => exact Ab e
 | false => exact Ak e
theorem RY (v : Vc) (h : v.in) : VP Tryz.prog 189 [.agg (Gv v)] (· = .ret (.tup [.sl false true (AG (if Ej v then IL v else [])), An (if Ej v then 0 else 230)])) := by
 obtain ⟨h0, h1, h2, h3, h4, h5, h6, h7, h8⟩ := h
 have cc := KN v
 refine VP.le ?_
 cases hv : Ej v with
 | false =>
  rw [hv] at cc
  simp only [Bool.false_eq_true, if_false] at cc ⊢
  refine Al fun B => ?_
  repeat' (first | refine Ai ?_ | (refine As ?_; first | refine cz (cc) ?_ | (refine AJ (Ab 230) ?_; first | refine Ag (Ab 230) ?_ | refine Ao (Ak 230) ?_ | (refine Aj (Ad _ 230) ?_ ?_ <;> intro _ <;> (try (exfalso; omega))) | (refine Ap (Ad _ 230) ?_ ?_ <;> intro _)) | refine Ae 178 fun _ => ?_ | refine Ae 213 fun _ => ?_ | refine Ae 224 fun _ => ?_ | refine BI (hc := AN (fd := 247) Tryz.func212 rfl Tryz.ntmps212 Tryz.results212 fun _ => ?_)) | refine Ah ?_ | refine nc ?_ ?_ | (with_reducible intro _ <;> (try (exfalso; omega))) | refine Aa ?_ | (refine nd ?_ ?_ <;> intro hg <;> first | exact xo hg | rw [hg]) | refine AU Tryz.func247 rfl Tryz.ntmps247 Tryz.results247 ?_)
  all_goals (simp only [AG, List.map_nil, Cm]; infer_instance)
 | true =>
  rw [hv] at cc
  simp only [if_true] at cc ⊢
  have c1 := JY [] 8 v.n1 (by omega) (by simpa using h1) (by simp)
  have c2 := JY ([] ++ AF 8 v.n1) 8 v.n2 (by omega) (by simpa using h2) (by simp [AI])
  have c3 := JY ([] ++ AF 8 v.n1 ++ AF 8 v.n2) 8 v.n3 (by omega) (by simpa using h3) (by simp [AI])
  have c4 := JY ([] ++ AF 8 v.n1 ++ AF 8 v.n2 ++ AF 8 v.n3) 8 v.n4 (by omega) (by simpa using h4) (by simp [AI])
  have c5 := JY ([] ++ AF 8 v.n1 ++ AF 8 v.n2 ++ AF 8 v.n3 ++ AF 8 v.n4) 8 v.n5 (by omega) (by simpa using h5) (by simp [AI])
  have c6 := JY ([] ++ AF 8 v.n1 ++ AF 8 v.n2 ++ AF 8 v.n3 ++ AF 8 v.n4 ++ AF 8 v.n5) 8 v.n6 (by omega) (by simpa using h6) (by simp [AI])
  have c7 := JY ([] ++ AF 8 v.n1 ++ AF 8 v.n2 ++ AF 8 v.n3 ++ AF 8 v.n4 ++ AF 8 v.n5 ++ AF 8 v.n6) 8 v.n7 (by omega) (by simpa using h7) (by simp [AI])
  have c8 := JY ([] ++ AF 8 v.n1 ++ AF 8 v.n2 ++ AF 8 v.n3 ++ AF 8 v.n4 ++ AF 8 v.n5 ++ AF 8 v.n6 ++ AF 8 v.n7) 8 v.n8 (by omega) (by simpa using h8) (by simp [AI])
  simp only [BD, show AG ([] : List UInt8) = [] from rfl] at c1
  rw [show ((8 : Nat) : Int) = 8 from rfl] at c1 c2 c3 c4 c5 c6 c7 c8
  simp only [IL]
  generalize AF 8 v.n1 = L1 at *
  generalize AF 8 v.n2 = L2 at *
  generalize AF 8 v.n3 = L3 at *
  generalize AF 8 v.n4 = L4 at *
  generalize AF 8 v.n5 = L5 at *
  generalize AF 8 v.n6 = L6 at *
  generalize AF 8 v.n7 = L7 at *
  generalize AF 8 v.n8 = L8 at *
  refine Al fun B => ?_
  repeat' (first | refine Ai ?_ | (refine As ?_; first | refine cz (cc) ?_ | (refine AJ (Ab 230) ?_; first | refine Ag (Ab 230) ?_ | refine Ao (Ak 230) ?_ | (refine Aj (Ad _ 230) ?_ ?_ <;> intro _ <;> (try (exfalso; omega))) | (refine Ap (Ad _ 230) ?_ ?_ <;> intro _)) | refine Ae 178 fun _ => ?_ | refine Ae 213 fun _ => ?_ | refine Ae 224 fun _ => ?_ | refine AZ ?_ | refine Bl ?_ | refine BI (hc := AN (fd := 247) Tryz.func212 rfl Tryz.ntmps212 Tryz.results212 fun _ => ?_)) | refine Ah ?_ | refine nc ?_ ?_ | (with_reducible intro _ <;> (try (exfalso; omega))) | refine Aa ?_ | (refine nd ?_ ?_ <;> intro hg <;> first | exact xo hg | rw [hg]) | refine AU Tryz.func247 rfl Tryz.ntmps247 Tryz.results247 ?_)
  refine AB 9 ?_
  repeat' (first | refine Ai ?_ | (refine As ?_; first | refine Of ?_ | refine Ae 181 fun _ => ?_ | refine cz (c1) ?_ | refine cz (c2) ?_ | refine cz (c3) ?_ | refine cz (c4) ?_ | refine cz (c5) ?_ | refine cz (c6) ?_ | refine cz (c7) ?_ | refine cz (c8) ?_ | (refine AJ (Ab 0) ?_; first | refine Ag (Ab 0) ?_ | refine Ao (Ak 0) ?_ | (refine Aj (Ad _ 0) ?_ ?_ <;> intro _ <;> (try (exfalso; omega))) | (refine Ap (Ad _ 0) ?_ ?_ <;> intro _))) | refine Ah ?_ | refine nc ?_ ?_ | (with_reducible intro _ <;> (try (exfalso; omega))) | refine Aa ?_ | (refine nd ?_ ?_ <;> intro hg <;> first | exact xo hg | rw [hg]) | refine AU Tryz.func247 rfl Tryz.ntmps247 Tryz.results247 ?_)
  have hv : AG ([] ++ L1 ++ L2 ++ L3 ++ L4 ++ L5 ++ L6 ++ L7 ++ L8) = AG (L1 ++ L2 ++ L3 ++ L4 ++ L5 ++ L6 ++ L7 ++ L8) := by rw [List.nil_append]
  rw [hv]
  exact A7 _

end Go.Proofs.YtbgcjnfhadhjeaaGreat