/- Walks by data and names, part 15: Slices of arrays: of a variable's own, and of cells that nobody writes to. Strings of bytes. One step of a walk: the operation's law is found by itself. -/
import Derived.Laws.BytesArg
import Derived.Laws.IdiomStrings
import Derived.Laws.Strings
import Derived.Test.YtkjpcjccddggoaaGreatQk14
namespace Go.Proofs.YtkjpcjccddggoaaGreat
open Go.RowKit
section
variable {P : Program} {cx : Cx} {s : St}
theorem run_sliceArr {w : World} {t e n sz b o : Nat} [hA : ArrI P t n e sz] : (Instr.sliceAt t (.pointer (some ⟨b, o, none⟩)) none none none).run P w = .ok (.slice (some ⟨b, o, none⟩) n n) w := by
  obtain ⟨h1, i, h2, h3⟩ := hA.get
  have hs : (sizeOf e).run P w = .ok sz w := by simp [sizeOf, typeInfo, h2, h3]
  have hb : (Instr.sliceBounds false n n none none none).run P w = .ok (0, n, n) w := by simp [Instr.sliceBounds]
  have ha : (⟨b, o, none⟩ : Addr).add 0 = ⟨b, o, none⟩ := by simp [Addr.add]
  simp [Instr.sliceAt, run_underlying h1, Instr.sureAddr, hb, hs, ha]
theorem q_slicep {t ty e : TypeId} {x : Operand} {k off n sz : Nat} [hA : ArrI P t n e sz] (hx : evalV s x = some (.ptr k off)) (hn : Nat.ble n 9223372036854775807 = true) : OpQ P cx (.slice t x none none none) ty s (.sv k off n n sz) := fun g a w hS => by
  have h := hS.eval hx
  simp only [vrep] at h
  obtain ⟨b, hb, hu⟩ := h
  refine ⟨.slice (some ⟨b, off, none⟩) n n, ?_, by simp only [vrep]; exact ⟨b, hb, rfl, Nat.le_refl _, Nat.le_of_ble_eq_true hn⟩⟩
  simp [execOp, hu, run_sliceArr (P := P) (t := t) (n := n) (e := e) (sz := sz)]
theorem q_slicee {t ty e : TypeId} {x : Operand} {n sz : Nat} {l : List D} [hA : ArrI P t n e sz] (hx : evalV s x = some (.ep l)) (hl : l.length = n * sz) (h1 : leaves (l.map .d) = true) (hn : Nat.ble n 9223372036854775807 = true) : OpQ P cx (.slice t x none none none) ty s (.d (.sl false false (chunk sz n l))) := fun g a w hS => by
  have h := hS.eval hx
  simp only [vrep] at h
  obtain ⟨b, o, cs, hu, k1, k2⟩ := h
  obtain ⟨m1, m2⟩ := drepss_chunk hl k2
  refine ⟨.slice (some ⟨b, o, none⟩) n n, ?_, ?_⟩
  · simp [execOp, hu, run_sliceArr (P := P) (t := t) (n := n) (e := e) (sz := sz)]
  · simp only [vrep, drep]
    exact ⟨_, n, cs, by rw [chunk_len], by rw [chunk_len]; exact Nat.le_refl _, Nat.le_of_ble_eq_true hn, (fun h => by cases h), (fun h => by cases h), ⟨sz, m2⟩, leaves_one h1 (vreps_d k2), k1.imp fun _ hb => ⟨hb, fun h => by cases h⟩, m1⟩
end
end Go.Proofs.YtkjpcjccddggoaaGreat

namespace Go.Proofs.YtkjpcjccddggoaaGreat
open Go.RowKit
abbrev strV (b : List UInt8) : Value := .string ⟨b.toArray⟩
/-- bytes that are told as a string -/
inductive BsV : V → List UInt8 → Prop where
  | sl {c f : Bool} {b : List UInt8} : BsV (.d (.sl c f (b.map fun x => [.lit (vb x)]))) b
  | nil : BsV (.d (.lit (.slice none 0 0))) []
section
variable {P : Program} {cx : Cx} {s : St}
theorem drepss_bytes {B : Nat} {U : Nat → Prop} {w : World} : ∀ {b : List UInt8} {cs : List Value}, drepss B U w (b.map fun x => [.lit (vb x)]) cs → cs = b.map vb
  | [], _, h => by simpa only [List.map_nil, drepss] using h
  | x :: b, _, h => by
    simp only [List.map_cons, drepss, dreps, drep] at h
    obtain ⟨c1, c2, rfl, ⟨y, ys, rfl, rfl, rfl⟩, h2⟩ := h
    rw [drepss_bytes h2]; rfl
theorem q_bstr {t1 t2 ty e : TypeId} {by_ : Nat} {x : Operand} {v : V} {b : List UInt8} [hE : SlI P t1 e 1 by_] [hI : IntI P e .u8] [hS2 : StrI P t2] (hx : evalV s x = some v) (hb : BsV v b) : OpQ P cx (.convert t1 t2 x) ty s (.d (.lit (strV b))) := fun g a w hS => by
  have h := hS.eval hx
  refine ⟨strV b, ?_, by simp only [vrep, drep]⟩
  cases hb with
  | nil =>
    simp only [vrep, drep] at h
    simp only [execOp, h, Sem.run_bind]
    have := run_convert_bytes_nil w t1 e hE.elem.und hI.und 0 0 t2 hS2.und
    rw [this]; rfl
  | sl =>
    rename_i c f
    simp only [vrep, drep] at h
    obtain ⟨ad, cap, cs, e1, e2, e3, e4, e5, _, _, e7, e8⟩ := h
    have hcs := drepss_bytes e8
    subst hcs
    simp only [execOp, e1, Sem.run_bind, List.length_map]
    cases ad with
    | none =>
      have hz : b = [] := by
        have := e5 rfl
        rw [List.length_map] at e2
        exact List.length_eq_zero_iff.1 (by omega)
      subst hz
      have := run_convert_bytes_nil w t1 e hE.elem.und hI.und 0 cap t2 hS2.und
      simp only [List.length_nil]
      rw [this]; rfl
    | some ad =>
      have := run_convert_bytes_back (P := P) w t1 t2 e ad cap b hE.elem.und hI.und hS2.und fun j hj => by
        obtain ⟨bk, o, k1, _, k3⟩ := e7 j (vb b[j]) (by simp [hj])
        cases k1
        have he : (⟨bk, o, none⟩ : Addr).add j = ⟨bk, o + j, none⟩ := by unfold Addr.add; split <;> simp_all
        rw [he]; exact k3
      rw [this]; rfl
theorem q_eqs {t yt ty : TypeId} {x y : Operand} {a b : List UInt8} (hx : evalV s x = some (.d (.lit (strV a)))) (hy : evalV s y = some (.d (.lit (strV b)))) : OpQ P cx (.binOp .eql t x y yt) ty s (.d (.lit (.bool (decide (a = b))))) := by
  refine q_bin hx hy fun w => ?_
  simp only [eqGuard, binOp, Sem.run_bind, Sem.run_pure, Op.stringOp]
  have : ((⟨a.toArray⟩ : ByteArray).toList == (⟨b.toArray⟩ : ByteArray).toList) = decide (a = b) := by
    rw [ByteArray.toList_mk, ByteArray.toList_mk, Bool.eq_iff_iff]
    simp
  simp []
  rw [Bool.eq_iff_iff]; simp
theorem q_nes {t yt ty : TypeId} {x y : Operand} {a b : List UInt8} (hx : evalV s x = some (.d (.lit (strV a)))) (hy : evalV s y = some (.d (.lit (strV b)))) : OpQ P cx (.binOp .neq t x y yt) ty s (.d (.lit (.bool (decide (a ≠ b))))) := by
  refine q_bin hx hy fun w => ?_
  simp only [eqGuard, binOp, Sem.run_bind, Sem.run_pure, Op.stringOp]
  have : ((⟨a.toArray⟩ : ByteArray).toList == (⟨b.toArray⟩ : ByteArray).toList) = decide (a = b) := by
    rw [ByteArray.toList_mk, ByteArray.toList_mk, Bool.eq_iff_iff]
    simp
  simp []
  rw [Bool.eq_iff_iff]; simp
end
end Go.Proofs.YtkjpcjccddggoaaGreat

namespace Go.Proofs.YtkjpcjccddggoaaGreat
open Go.RowKit
section
variable {P : Program} {cx : Cx} {tm : List (Nat × V)} {st : List E} {nb : Nat} {s : St} {Q : VE → St → Prop} {ops rest : List Oper}
section
variable {ty t y : TypeId} {x z : Operand} {v : V}
theorem oq_ld (h : OpQ P cx (.load t x) ty s v) : OpQ P cx (.load t x) ty s v := h
theorem oq_bin {b : BinOp} (h : OpQ P cx (.binOp b t x z y) ty s v) : OpQ P cx (.binOp b t x z y) ty s v := h
theorem oq_fa {i : Nat} (h : OpQ P cx (.fieldAddr t x i) ty s v) : OpQ P cx (.fieldAddr t x i) ty s v := h
theorem oq_un {b : UnOp} (h : OpQ P cx (.unOp b t x) ty s v) : OpQ P cx (.unOp b t x) ty s v := h
theorem oq_nil (h : OpQ P cx (.nilCheck x) ty s v) : OpQ P cx (.nilCheck x) ty s v := h
theorem oq_ia (h : OpQ P cx (.indexAddr t x z) ty s v) : OpQ P cx (.indexAddr t x z) ty s v := h
theorem oq_call {c : Call} (h : OpQ P cx (.call c) ty s v) : OpQ P cx (.call c) ty s v := h
theorem oq_sl {a b c : Option Operand} (h : OpQ P cx (.slice t x a b c) ty s v) : OpQ P cx (.slice t x a b c) ty s v := h
end
theorem vl_id (h : VL P cx ops rest s Q) : VL P cx ops rest s Q := h
theorem v_app' {t ty e : TypeId} {x y : Operand} {k ver sz by_ : Nat} {l l2 : List (List D)} {nw : Bool} {v2 : V} [hE : SlI P t e sz by_] (hx : evalV ⟨tm, st, nb⟩ x = some (.row k ver)) (hr : rowAt k st = some (true, nw, ver, e, sz, l)) (hy : evalV ⟨tm, st, nb⟩ y = some v2) (hsrc : SrcV st sz v2 l2)
    (hb : (l.length + l2.length) * by_ ≤ 140737488355328) (h0 : 0 < by_) : OpV P cx (.call { callee := .builtin .append, args := #[x, y], argTypes := #[t, t] }) ty ⟨tm, st, nb⟩ (.row k (ver + 1)) (.r true nw k (ver + 1) e sz (l ++ l2) :: st) nb := v_app hx hr hy hsrc hb h0
theorem v_copy' {t t2 ty e : TypeId} {x y : Operand} {k ver by_ : Nat} {nw : Bool} {l l2 : List (List D)} {v2 : V} [hE : SlI P t e 1 by_] (hx : evalV ⟨tm, st, nb⟩ x = some (.row k ver)) (hr : rowAt k st = some (true, nw, ver, e, 1, l)) (hy : evalV ⟨tm, st, nb⟩ y = some v2) (hsrc : SrcV st 1 v2 l2) (hl : l2.length = l.length) :
    OpV P cx (.call { callee := .builtin .copy, args := #[x, y], argTypes := #[t, t2] }) ty ⟨tm, st, nb⟩ (I .i64 (l2.length : Int)) (.r true nw k ver e 1 l2 :: st) nb := v_copy hx hr hy hsrc hl
theorem u_storer' {t ty e : TypeId} {x y : Operand} {k ver sz i j n : Nat} {ag nw : Bool} {z : List Value} {l : List (List D)} {cs : List D} {v : V} {vs : List V} {d : D} [hT : TyI P t ag n z] (hx : evalV ⟨tm, st, nb⟩ x = some (.rp k ver sz i j)) (hr : rowAt k st = some (true, nw, ver, e, sz, l)) (hl : l[i]? = some cs) (hy : evalV ⟨tm, st, nb⟩ y = some v) (hd : argD st v = some d) (hv : cellsV (.d d) = some vs) (h1 : (leaves vs && Nat.beq vs.length n) = true) (hj : Nat.ble (j + n) sz = true) :
    OpU P cx (.store t x y) ty ⟨tm, st, nb⟩ (.r true nw k ver e sz (l.set i (setD cs j (cellsD d))) :: st) nb := u_storer hx hr hl hy hd hv h1 hj
theorem u_store' {t ty : TypeId} {x y : Operand} {k off sz : Nat} {ag : Bool} {z : List Value} {v : V} {vs old : List V} [hT : TyI P t ag (sz + 1) z] (hx : evalV ⟨tm, st, nb⟩ x = some (.ptr k off)) (hy : evalV ⟨tm, st, nb⟩ y = some v) (hv : cellsV v = some vs) (hl : vs.length = sz + 1) (h1 : leaves vs = true) (hold : cellsAt k off st (sz + 1) = some old) :
    OpU P cx (.store t x y) ty ⟨tm, st, nb⟩ (.c k off vs :: st) nb := u_store hx hy hv hl h1 hold
theorem vs_p {d : Option Tmp} {op : Op} {ty : TypeId} {pos : String} {af : Array Edge} {gd : Option (Nat × Bool)} {v : V} (k : Q (.panic v) ⟨tm, st, nb⟩)
    (h : OpP P cx op ty ⟨tm, st, nb⟩ v := by
      first
        | ((with_reducible apply p_panic); rfl) | ((with_reducible apply p_panicd); rfl))
    (hw : Wd ops tm gd := by first | exact trivial | exact wd_of rfl rfl (by with_reducible rfl)) (hn : noDefer op = true := by rfl) : VL P cx ops (⟨d, op, ty, pos, af, gd⟩ :: rest) ⟨tm, st, nb⟩ Q := vl_p h hw hn k
/-- the guard's two answers -/
theorem vs_case {d : Tmp} {op : Op} {ty : TypeId} {pos : String} {af : Array Edge} {j : Nat} {b : Bool} {t : Nat} {p : Prop} [Decidable p] (k1 : p → VL P cx ops (⟨some d, op, ty, pos, af, some (j, b)⟩ :: rest) ⟨(t, .d (.lit (.bool true))) :: tm, st, nb⟩ Q) (k2 : ¬ p → VL P cx ops (⟨some d, op, ty, pos, af, some (j, b)⟩ :: rest) ⟨(t, .d (.lit (.bool false))) :: tm, st, nb⟩ Q)
    (_h1 : (ops[j]?).bind (·.dst) = some t := by rfl) (h2 : lookT t tm = some (.d (.lit (.bool (decide p)))) := by rfl) : VL P cx ops (⟨some d, op, ty, pos, af, some (j, b)⟩ :: rest) ⟨tm, st, nb⟩ Q := vl_casep h2 k1 k2
theorem vs_caseb {d : Tmp} {op : Op} {ty : TypeId} {pos : String} {af : Array Edge} {j : Nat} {b c : Bool} {t : Nat} (k1 : c = true → VL P cx ops (⟨some d, op, ty, pos, af, some (j, b)⟩ :: rest) ⟨(t, .d (.lit (.bool true))) :: tm, st, nb⟩ Q) (k2 : c = false → VL P cx ops (⟨some d, op, ty, pos, af, some (j, b)⟩ :: rest) ⟨(t, .d (.lit (.bool false))) :: tm, st, nb⟩ Q)
    (_h1 : (ops[j]?).bind (·.dst) = some t := by rfl) (h2 : lookT t tm = some (.d (.lit (.bool c))) := by rfl) : VL P cx ops (⟨some d, op, ty, pos, af, some (j, b)⟩ :: rest) ⟨tm, st, nb⟩ Q := vl_case h2 k1 k2
/-- the guard's answer is known -/
theorem vs_lit {d : Tmp} {op : Op} {ty : TypeId} {pos : String} {af : Array Edge} {j : Nat} {b : Bool} {t : Nat} (k : VL P cx ops (⟨some d, op, ty, pos, af, some (j, b)⟩ :: rest) ⟨tm, st, nb⟩ Q)
    (_h1 : (ops[j]?).bind (·.dst) = some t := by rfl) {v : V} (_h2 : lookT t tm = some v := by rfl) (_h3 : v = .d (.lit (.bool true)) ∨ v = .d (.lit (.bool false)) := by first | (left; with_reducible rfl) | (right; with_reducible rfl)) : VL P cx ops (⟨some d, op, ty, pos, af, some (j, b)⟩ :: rest) ⟨tm, st, nb⟩ Q := k
theorem vs_pan {t : Tmp} {x : Operand} {f : FuncId} {xs : Array Operand} {tys : Array TypeId} {ty : TypeId} {pos : String} {af : Array Edge} {gd : Option (Nat × Bool)} {v : V} {vs az : List V} {ds' ds : List D} {d : D}
    (hc : VP P f ds (· = .panic d)) (k : Q (.panic (.d d)) ⟨tm, st, nb⟩) (hx : evalV ⟨tm, st, nb⟩ x = some v := by rfl) (hv : evalVs ⟨tm, st, nb⟩ xs.toList = some vs := by rfl) (hf : fnV v vs = some (f, az) := by rfl) (ha : AD st az ds' := by first | exact ad_of rfl | ((repeat' (first | exact ad_nil | exact ad_map | ((apply ad_cons); rfl))); fail_if_success (focus skip))) (hd : DLs ds' ds := by ((repeat' (first | exact dls_nil | with_reducible apply dls_cons | with_reducible exact dl_lit _ | with_reducible exact dl_lf _ | infer_instance | with_reducible apply dl_agg | with_reducible apply dl_ifc | with_reducible apply dl_pt | with_reducible apply dl_fn | with_reducible apply dl_slr | assumption | apply dl_slr)); fail_if_success (focus skip))) (hw : Wd ops tm gd := by first | exact trivial | exact wd_of rfl rfl (by with_reducible rfl)) (ht : Nat.blt t cx.N = true := by rfl) :
    VL P cx ops (⟨some t, .call { callee := .value x, args := xs, argTypes := tys }, ty, pos, af, gd⟩ :: rest) ⟨tm, st, nb⟩ Q := vl_pan hc hx hv hf ha hd hw ht k
theorem vs_lentp {t : Tmp} {x : Operand} {f : FuncId} {xs : Array Operand} {tys : Array TypeId} {ty : TypeId} {pos : String} {af : Array Edge} {gd : Option (Nat × Bool)} {v : V} {vs az : List V} {ds' ds : List D} {d : D}
    (hc : VP P f ds (· = .panic d)) (k : Q (.panic (.d d)) ⟨tm, st, nb⟩) (hx : evalV ⟨tm, st, nb⟩ x = some v := by rfl) (hv : evalVs ⟨tm, st, nb⟩ xs.toList = some vs := by rfl) (hf : fnV v vs = some (f, az) := by rfl) (ha : lendDs st 64 az = some ds' := by rfl) (hd : DLs ds' ds := by ((repeat' (first | exact dls_nil | with_reducible apply dls_cons | with_reducible exact dl_lit _ | with_reducible exact dl_lf _ | infer_instance | with_reducible apply dl_agg | with_reducible apply dl_ifc | with_reducible apply dl_pt | with_reducible apply dl_fn | with_reducible apply dl_slr | assumption | apply dl_slr)); fail_if_success (focus skip))) (hfl : NewD d := by infer_instance) (hw : Wd ops tm gd := by first | exact trivial | exact wd_of rfl rfl (by with_reducible rfl)) (ht : Nat.blt t cx.N = true := by rfl) :
    VL P cx ops (⟨some t, .call { callee := .value x, args := xs, argTypes := tys }, ty, pos, af, gd⟩ :: rest) ⟨tm, st, nb⟩ Q := vl_lent hc hx hv hf ha hd hfl hw ht (fun _ e => by cases e) (fun _ _ _ e => by cases e) (fun _ e => by cases e; exact k)
theorem vw_cid {c : Operand} {x y : Code} (h : VW P cx (.cond c x y) s Q) : VW P cx (.cond c x y) s Q := h
theorem vw_condt {c : Operand} {x y : Code} (ht : VW P cx x s Q) (hc : evalV s c = some (.d (.lit (.bool true))) := by exact ev_of rfl (by with_reducible rfl)) : VW P cx (.cond c x y) s Q := vw_cond hc (fun _ => ht) (fun h => by cases h)
theorem vw_condf {c : Operand} {x y : Code} (ht : VW P cx y s Q) (hc : evalV s c = some (.d (.lit (.bool false))) := by exact ev_of rfl (by with_reducible rfl)) : VW P cx (.cond c x y) s Q := vw_cond hc (fun h => by cases h) (fun _ => ht)
theorem vw_cp {c : Operand} {x y : Code} {p : Prop} [Decidable p] (ht : p → VW P cx x s Q) (hf : ¬ p → VW P cx y s Q) (hc : evalV s c = some (.d (.lit (.bool (decide p)))) := by rfl) : VW P cx (.cond c x y) s Q := vw_condp hc ht hf
theorem vw_cb {c : Operand} {x y : Code} {b : Bool} (ht : b = true → VW P cx x s Q) (hf : b = false → VW P cx y s Q) (hc : evalV s c = some (.d (.lit (.bool b))) := by rfl) : VW P cx (.cond c x y) s Q := vw_cond hc ht hf
theorem nx_blkx {i j : Nat} (hj : Nat.beq j i = true) (h : Q .normal s) : blockV i Q (.exit j) s := by simp only [blockV, hj]; exact h
theorem nx_blky {i j : Nat} (hj : Nat.beq j i = false) (h : Q (.exit j) s) : blockV i Q (.exit j) s := by simp only [blockV, hj]; exact h
theorem rt_id {rs : List ResultVar} {post : R → Prop} (h : retQ P rs post .ret s) : retQ P rs post .ret s := h
theorem rt_idp {rs : List ResultVar} {post : R → Prop} {v : V} (h : retQ P rs post (.panic v) s) : retQ P rs post (.panic v) s := h
theorem rt_a {rs : List ResultVar} {post : R → Prop} {vs : List V} {d : D} (k : post (.ret d))
    (h : ResV P s rs vs := by repeat' (first | exact ResV.nil | (apply ResV.tmp; rfl) | (apply ResV.cell; infer_instance; rfl; rfl) | (apply ResV.cells; infer_instance; rfl; rfl))) (hd : retD s.st (packV vs) = some d := by rfl) : retQ P rs post .ret s := ⟨vs, h, .inl ⟨d, hd, k⟩⟩
theorem rt_o {rs : List ResultVar} {post : R → Prop} {vs : List V} {k ver : Nat} {nw : Bool} {e : TypeId} {sz : Nat} {l : List (List D)} (q : post (.own e sz l))
    (h : ResV P s rs vs := by repeat' (first | exact ResV.nil | (apply ResV.tmp; rfl) | (apply ResV.cell; infer_instance; rfl; rfl) | (apply ResV.cells; infer_instance; rfl; rfl))) (hd : packV vs = .row k ver := by rfl) (hr : rowAt k s.st = some (true, nw, ver, e, sz, l) := by rfl) : retQ P rs post .ret s := ⟨vs, h, .inr ⟨k, nw, ver, e, sz, l, hd, hr, q⟩⟩
theorem rt_n {post : R → Prop} (k : post (.ret (.tup []))) : retQ P [] post .normal s := ⟨[], .nil, .inl ⟨_, rfl, k⟩⟩
theorem rt_nr {post : R → Prop} (k : post (.ret (.tup []))) : retQ P [] post .ret s := ⟨[], .nil, .inl ⟨_, rfl, k⟩⟩
theorem rt_pan {rs : List ResultVar} {post : R → Prop} {v : V} {d : D} (hd : retD s.st v = some d) (k : post (.panic d)) : retQ P rs post (.panic v) s := ⟨d, hd, k⟩
/-- a slice is no longer than slices are -/
theorem vw_len {c : Code} {cc f : Bool} {l : List (List D)} (t : Tmp) (ht : lookT t s.tm = some (.d (.sl cc f l))) (k : l.length ≤ 9223372036854775807 → VW P cx c s Q) : VW P cx c s Q := fun n g0 w0 g a w hE hS => by
  have h := hS.tm ht
  simp only [vrep, drep] at h
  obtain ⟨_, cap, _, _, h1, h2, _⟩ := h
  exact k (by simp only [maxLen] at h2; omega) n g0 w0 g a w hE hS
/-- a slice's elements say what they say to others too -/
theorem dlss_of {l : List (List D)} (h : ∀ x ∈ l, DLs x x) : DLss l l := ⟨fun B B' U w u k => by
  induction l generalizing u with
  | nil => simpa only [drepss] using k
  | cons x xs ih =>
    simp only [drepss] at k ⊢
    obtain ⟨c1, c2, e, k1, k2⟩ := k
    exact ⟨c1, c2, e, (h x (by simp)).le _ _ _ _ _ k1, ih (fun y hy => h y (by simp [hy])) _ k2⟩, rfl, fun _ h => h⟩
instance dlss_nil : DLss [] [] := dlss_of fun _ h => by simp at h
instance dlss_cons {x : List D} {l : List (List D)} [h : DLs x x] [hs : DLss l l] : DLss (x :: l) (x :: l) := ⟨fun B B' U w u k => by
  simp only [drepss] at k ⊢
  obtain ⟨c1, c2, e, k1, k2⟩ := k
  exact ⟨c1, c2, e, h.le _ _ _ _ _ k1, hs.le _ _ _ _ _ k2⟩, rfl, fun _ h => h⟩
end
end Go.Proofs.YtkjpcjccddggoaaGreat
