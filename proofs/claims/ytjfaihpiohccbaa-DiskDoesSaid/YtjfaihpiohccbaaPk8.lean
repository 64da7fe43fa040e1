/- Walks by data and names, part 8: Slices of arrays: of a variable's own, and of cells that nobody writes to. Strings of bytes. One step of a walk: the operation's law is found by itself. -/
import Derived.Laws.BytesArg
import Derived.Laws.IdiomStrings
import Derived.Laws.Strings
import Derived.StillTailTactics
import Derived.Deep.RegionHeld3
import Derived.Test.YtjfaihpiohccbaaPk7
namespace Go.Proofs.Ytjfaihpiohccbaa
open Go.RowKit

section
variable {P : Program} {cx : Cx} {s : St}
theorem run_sliceArr {w : World} {t e n sz b o : Nat} [hA : ArrI P t n e sz] : (Instr.sliceAt t (.pointer (some ⟨b, o, none⟩)) none none none).run P w = .ok (.slice (some ⟨b, o, none⟩) n n) w := by
  obtain ⟨h1, i, h2, h3⟩ := hA.get
  have hs : (sizeOf e).run P w = .ok sz w := by simp [sizeOf, typeInfo, h2, h3]
  have hb : (Instr.sliceBounds false n n none none none).run P w = .ok (0, n, n) w := by simp [Instr.sliceBounds]
  have ha : (⟨b, o, none⟩ : Addr).add 0 = ⟨b, o, none⟩ := by simp [Addr.add]
  simp [Instr.sliceAt, run_underlying h1, Instr.sureAddr, hb, hs, ha]
theorem q_slicep {t ty e : TypeId} {x : Operand} {k off n sz : Nat} [hA : ArrI P t n e sz] (hx : evalV s x = some (.ptr k off)) (hn : Nat.ble n 9223372036854775807 = true) : OpQ P cx (.slice t x none none none) ty s (.sv k off n n sz) := fun g a w hS => by
  have h := hS.eval hx
  simp only [vrep] at h
  obtain ⟨b, hb, hu⟩ := h
  refine ⟨.slice (some ⟨b, off, none⟩) n n, ?_, by simp only [vrep]; exact ⟨b, hb, rfl, Nat.le_refl _, Nat.le_of_ble_eq_true hn⟩⟩
  simp [execOp, hu, run_sliceArr (P := P) (t := t) (n := n) (e := e) (sz := sz)]
theorem q_slicee {t ty e : TypeId} {x : Operand} {n sz : Nat} {l : List D} [hA : ArrI P t n e sz] (hx : evalV s x = some (.ep l)) (hl : l.length = n * sz) (h1 : leaves (l.map .d) = true) (hn : Nat.ble n 9223372036854775807 = true) : OpQ P cx (.slice t x none none none) ty s (.d (.sl false false (chunk sz n l))) := fun g a w hS => by
  have h := hS.eval hx
  simp only [vrep] at h
  obtain ⟨b, o, cs, hu, k1, k2⟩ := h
  obtain ⟨m1, m2⟩ := drepss_chunk hl k2
  refine ⟨.slice (some ⟨b, o, none⟩) n n, ?_, ?_⟩
  · simp [execOp, hu, run_sliceArr (P := P) (t := t) (n := n) (e := e) (sz := sz)]
  · simp only [vrep, drep]
    exact ⟨_, n, cs, by rw [chunk_len], by rw [chunk_len]; exact Nat.le_refl _, Nat.le_of_ble_eq_true hn, (fun h => by cases h), (fun h => by cases h), ⟨sz, m2⟩, leaves_one h1 (vreps_d k2), k1.imp fun _ hb => ⟨hb, fun h => by cases h⟩, m1⟩
end

end Go.Proofs.Ytjfaihpiohccbaa

namespace Go.Proofs.Ytjfaihpiohccbaa
open Go.RowKit

abbrev strV (b : List UInt8) : Value := .string ⟨b.toArray⟩
/-- bytes that are told as a string -/
inductive BsV : V → List UInt8 → Prop where
  | sl {c f : Bool} {b : List UInt8} : BsV (.d (.sl c f (b.map fun x => [.lit (vb x)]))) b
  | nil : BsV (.d (.lit (.slice none 0 0))) []
section
variable {P : Program} {cx : Cx} {s : St}
theorem drepss_bytes {B : Nat} {U : Nat → Prop} {w : World} : ∀ {b : List UInt8} {cs : List Value}, drepss B U w (b.map fun x => [.lit (vb x)]) cs → cs = b.map vb
  | [], _, h => by simpa only [List.map_nil, drepss] using h
  | x :: b, _, h => by
    simp only [List.map_cons, drepss, dreps, drep] at h
    obtain ⟨c1, c2, rfl, ⟨y, ys, rfl, rfl, rfl⟩, h2⟩ := h
    rw [drepss_bytes h2]; rfl
theorem q_bstr {t1 t2 ty e : TypeId} {by_ : Nat} {x : Operand} {v : V} {b : List UInt8} [hE : SlI P t1 e 1 by_] [hI : IntI P e .u8] [hS2 : StrI P t2] (hx : evalV s x = some v) (hb : BsV v b) : OpQ P cx (.convert t1 t2 x) ty s (.d (.lit (strV b))) := fun g a w hS => by
  have h := hS.eval hx
  refine ⟨strV b, ?_, by simp only [vrep, drep]⟩
  cases hb with
  | nil =>
    simp only [vrep, drep] at h
    simp only [execOp, h, Sem.run_bind]
    have := run_convert_bytes_nil w t1 e hE.elem.und hI.und 0 0 t2 hS2.und
    rw [this]; rfl
  | sl =>
    rename_i c f
    simp only [vrep, drep] at h
    obtain ⟨ad, cap, cs, e1, e2, e3, e4, e5, _, _, e7, e8⟩ := h
    have hcs := drepss_bytes e8
    subst hcs
    simp only [execOp, e1, Sem.run_bind, List.length_map]
    cases ad with
    | none =>
      have hz : b = [] := by
        have := e5 rfl
        rw [List.length_map] at e2
        exact List.length_eq_zero_iff.1 (by omega)
      subst hz
      have := run_convert_bytes_nil w t1 e hE.elem.und hI.und 0 cap t2 hS2.und
      simp only [List.length_nil]
      rw [this]; rfl
    | some ad =>
      have := run_convert_bytes_back (P := P) w t1 t2 e ad cap b hE.elem.und hI.und hS2.und fun j hj => by
        obtain ⟨bk, o, k1, _, k3⟩ := e7 j (vb b[j]) (by simp [hj])
        cases k1
        have he : (⟨bk, o, none⟩ : Addr).add j = ⟨bk, o + j, none⟩ := by unfold Addr.add; split <;> simp_all
        rw [he]; exact k3
      rw [this]; rfl
theorem q_eqs {t yt ty : TypeId} {x y : Operand} {a b : List UInt8} (hx : evalV s x = some (.d (.lit (strV a)))) (hy : evalV s y = some (.d (.lit (strV b)))) : OpQ P cx (.binOp .eql t x y yt) ty s (.d (.lit (.bool (decide (a = b))))) := by
  refine q_bin hx hy fun w => ?_
  simp only [eqGuard, binOp, Sem.run_bind, Sem.run_pure, Op.stringOp]
  have : ((⟨a.toArray⟩ : ByteArray).toList == (⟨b.toArray⟩ : ByteArray).toList) = decide (a = b) := by
    rw [ByteArray.toList_mk, ByteArray.toList_mk, Bool.eq_iff_iff]
    simp
  simp []
  rw [Bool.eq_iff_iff]; simp
theorem q_nes {t yt ty : TypeId} {x y : Operand} {a b : List UInt8} (hx : evalV s x = some (.d (.lit (strV a)))) (hy : evalV s y = some (.d (.lit (strV b)))) : OpQ P cx (.binOp .neq t x y yt) ty s (.d (.lit (.bool (decide (a ≠ b))))) := by
  refine q_bin hx hy fun w => ?_
  simp only [eqGuard, binOp, Sem.run_bind, Sem.run_pure, Op.stringOp]
  have : ((⟨a.toArray⟩ : ByteArray).toList == (⟨b.toArray⟩ : ByteArray).toList) = decide (a = b) := by
    rw [ByteArray.toList_mk, ByteArray.toList_mk, Bool.eq_iff_iff]
    simp
  simp []
  rw [Bool.eq_iff_iff]; simp
end

end Go.Proofs.Ytjfaihpiohccbaa

namespace Go.Proofs.Ytjfaihpiohccbaa
open Go.RowKit

section
variable {P : Program} {cx : Cx} {tm : List (Nat × V)} {st : List E} {nb : Nat} {s : St} {Q : VE → St → Prop} {ops rest : List Oper}

section
variable {ty t y : TypeId} {x z : Operand} {v : V}
theorem oq_ld (h : OpQ P cx (.load t x) ty s v) : OpQ P cx (.load t x) ty s v := h
theorem oq_bin {b : BinOp} (h : OpQ P cx (.binOp b t x z y) ty s v) : OpQ P cx (.binOp b t x z y) ty s v := h
theorem oq_fa {i : Nat} (h : OpQ P cx (.fieldAddr t x i) ty s v) : OpQ P cx (.fieldAddr t x i) ty s v := h
theorem oq_un {b : UnOp} (h : OpQ P cx (.unOp b t x) ty s v) : OpQ P cx (.unOp b t x) ty s v := h
theorem oq_nil (h : OpQ P cx (.nilCheck x) ty s v) : OpQ P cx (.nilCheck x) ty s v := h
theorem oq_ia (h : OpQ P cx (.indexAddr t x z) ty s v) : OpQ P cx (.indexAddr t x z) ty s v := h
theorem oq_call {c : Call} (h : OpQ P cx (.call c) ty s v) : OpQ P cx (.call c) ty s v := h
theorem oq_sl {a b c : Option Operand} (h : OpQ P cx (.slice t x a b c) ty s v) : OpQ P cx (.slice t x a b c) ty s v := h
end
theorem vl_id (h : VL P cx ops rest s Q) : VL P cx ops rest s Q := h

theorem vs_q {d : Tmp} {op : Op} {ty : TypeId} {pos : String} {af : Array Edge} {gd : Option (Nat × Bool)} {v : V} (k : VL P cx ops rest ⟨(d, v) :: tm, st, nb⟩ Q)
    (h : OpQ P cx op ty ⟨tm, st, nb⟩ v := by first | ((with_reducible apply q_move); rfl) | ((with_reducible apply q_assign); rfl) | ((with_reducible apply oq_ld); first | ((with_reducible apply q_load) <;> rfl) | ((with_reducible apply q_loade) <;> rfl) | ((with_reducible apply q_loades) <;> (first | rfl | assumption)) | ((with_reducible apply q_loads) <;> rfl) | ((with_reducible apply q_loadr); rfl; rfl; (first | rfl | assumption); rfl) | ((with_reducible apply q_loadrs); rfl; rfl; (first | rfl | assumption); exact Nat.le_of_ble_eq_true rfl)) | ((with_reducible apply oq_fa); first | ((with_reducible apply q_fldp); rfl) | ((with_reducible apply q_flde); rfl) | ((with_reducible apply q_fldr); rfl)) | ((with_reducible apply oq_bin); first | ((with_reducible apply q_eq) <;> rfl) | ((with_reducible apply q_ne) <;> rfl) | ((with_reducible apply q_lt) <;> rfl) | ((with_reducible apply q_le) <;> rfl) | ((with_reducible apply q_gt) <;> rfl) | ((with_reducible apply q_ge) <;> rfl) | ((with_reducible apply q_add); rfl; rfl; (simp only [inK]; omega)) | ((with_reducible apply q_sub); rfl; rfl; (simp only [inK]; omega)) | ((with_reducible apply q_mul); rfl; rfl; (simp only [inK]; omega)) | ((with_reducible apply q_neit) <;> rfl) | ((with_reducible apply q_neif) <;> rfl) | ((with_reducible apply q_eqit) <;> rfl) | ((with_reducible apply q_eqif) <;> rfl) | ((with_reducible apply q_eqb) <;> rfl) | ((with_reducible apply q_neb) <;> rfl) | ((with_reducible apply q_eqs) <;> rfl) | ((with_reducible apply q_nes) <;> rfl) | ((with_reducible apply q_bini); rfl; rfl; exact fun _ => rfl)) | ((with_reducible apply oq_un); first | ((with_reducible apply q_nott); exact ev_of rfl (by with_reducible rfl)) | ((with_reducible apply q_notf); exact ev_of rfl (by with_reducible rfl)) | ((with_reducible apply q_not); rfl) | ((with_reducible apply q_un); rfl; exact fun _ => rfl)) | ((with_reducible apply q_pickt); exact ev_of rfl (by with_reducible rfl); rfl) | ((with_reducible apply q_pickf); exact ev_of rfl (by with_reducible rfl); rfl) | ((with_reducible apply oq_nil); first | ((with_reducible apply q_nilp); rfl) | ((with_reducible apply q_nile); rfl) | ((with_reducible apply q_nilr); rfl) | ((with_reducible apply q_nilf); rfl)) | ((with_reducible apply oq_call); first | ((with_reducible apply q_len) <;> rfl) | ((with_reducible apply q_min) <;> rfl) | ((with_reducible apply q_max) <;> rfl)) | ((with_reducible apply q_ext) <;> rfl) | ((with_reducible apply q_extd) <;> rfl) | ((with_reducible apply q_mkf) <;> rfl) | ((with_reducible apply q_mki); rfl) | ((with_reducible apply oq_ia); first | ((with_reducible apply q_idxp); rfl; rfl; omega; omega) | ((with_reducible apply q_idx); rfl; rfl; rfl; omega; (first | rfl | assumption); (first | rfl | assumption)) | ((with_reducible apply q_idxr); rfl; rfl; rfl; omega; omega)) | ((with_reducible apply q_build) <;> rfl) | ((with_reducible apply q_builda) <;> rfl) | ((with_reducible apply oq_sl); first | ((with_reducible apply q_slicep) <;> rfl) | ((with_reducible apply q_slicee) <;> rfl) | ((with_reducible apply q_slice); rfl; rfl; rfl; rfl; (first | exact Int.le_refl _ | omega | (simp only [Option.getD]; omega)); (simp only [Option.getD]; omega); (first | exact Int.le_refl _ | (simp only [Option.getD]; omega)); (first | assumption | (simp; fail_if_success (focus skip)))) | ((with_reducible apply q_slicerv); rfl; rfl; rfl; rfl; (first | exact Int.le_refl _ | omega); (first | exact Int.le_refl _ | omega)) | ((with_reducible apply q_slice3); rfl; rfl; rfl; rfl; rfl; (first | exact Int.le_refl _ | (simp only [Option.getD]; omega)); (simp only [Option.getD]; omega); (first | exact Int.le_refl _ | omega); (first | assumption | (simp; fail_if_success (focus skip))))) | ((with_reducible apply q_index); rfl; rfl; rfl; rfl; omega; omega; (first | rfl | assumption)) | ((with_reducible apply q_field) <;> rfl) | ((with_reducible apply q_fields) <;> rfl) | ((with_reducible apply q_ta) <;> rfl) | ((with_reducible apply q_ta1) <;> rfl) | ((with_reducible apply q_bstr); rfl; (first | exact .sl | exact .nil)) | ((with_reducible apply q_convi); rfl; (simp only [inK]; omega)) | ((with_reducible apply q_convw); rfl))
    (hw : Wd ops tm gd := by first | exact trivial | exact wd_of rfl rfl (by with_reducible rfl)) (hd : Nat.blt d cx.N = true := by rfl) (hn : noDefer op = true := by rfl) : VL P cx ops (⟨some d, op, ty, pos, af, gd⟩ :: rest) ⟨tm, st, nb⟩ Q := vl_q h hw hd hn k

theorem evalV_nb {nb' : Nat} {x : Operand} {v : V} (h : evalV ⟨tm, st, nb⟩ x = some v) : evalV ⟨tm, st, nb'⟩ x = some v := by cases x <;> exact h
theorem v_app' {t ty e : TypeId} {x y : Operand} {k ver sz by_ : Nat} {l l2 : List (List D)} {nw : Bool} {v2 : V} [hE : SlI P t e sz by_] (hx : evalV ⟨tm, st, nb⟩ x = some (.row k ver)) (hr : rowAt k st = some (true, nw, ver, e, sz, l)) (hy : evalV ⟨tm, st, nb⟩ y = some v2) (hsrc : SrcV st sz v2 l2)
    (hb : (l.length + l2.length) * by_ ≤ 140737488355328) (h0 : 0 < by_) : OpV P cx (.call { callee := .builtin .append, args := #[x, y], argTypes := #[t, t] }) ty ⟨tm, st, nb⟩ (.row k (ver + 1)) (.r true nw k (ver + 1) e sz (l ++ l2) :: st) nb := v_app hx hr hy hsrc hb h0
theorem v_copy' {t t2 ty e : TypeId} {x y : Operand} {k ver by_ : Nat} {nw : Bool} {l l2 : List (List D)} {v2 : V} [hE : SlI P t e 1 by_] (hx : evalV ⟨tm, st, nb⟩ x = some (.row k ver)) (hr : rowAt k st = some (true, nw, ver, e, 1, l)) (hy : evalV ⟨tm, st, nb⟩ y = some v2) (hsrc : SrcV st 1 v2 l2) (hl : l2.length = l.length) :
    OpV P cx (.call { callee := .builtin .copy, args := #[x, y], argTypes := #[t, t2] }) ty ⟨tm, st, nb⟩ (I .i64 (l2.length : Int)) (.r true nw k ver e 1 l2 :: st) nb := v_copy hx hr hy hsrc hl
theorem u_storer' {t ty e : TypeId} {x y : Operand} {k ver sz i j n : Nat} {ag nw : Bool} {z : List Value} {l : List (List D)} {cs : List D} {v : V} {vs : List V} {d : D} [hT : TyI P t ag n z] (hx : evalV ⟨tm, st, nb⟩ x = some (.rp k ver sz i j)) (hr : rowAt k st = some (true, nw, ver, e, sz, l)) (hl : l[i]? = some cs) (hy : evalV ⟨tm, st, nb⟩ y = some v) (hd : argD st v = some d) (hv : cellsV (.d d) = some vs) (h1 : (leaves vs && Nat.beq vs.length n) = true) (hj : Nat.ble (j + n) sz = true) :
    OpU P cx (.store t x y) ty ⟨tm, st, nb⟩ (.r true nw k ver e sz (l.set i (setD cs j (cellsD d))) :: st) nb := u_storer hx hr hl hy hd hv h1 hj
theorem u_store' {t ty : TypeId} {x y : Operand} {k off sz : Nat} {ag : Bool} {z : List Value} {v : V} {vs old : List V} [hT : TyI P t ag (sz + 1) z] (hx : evalV ⟨tm, st, nb⟩ x = some (.ptr k off)) (hy : evalV ⟨tm, st, nb⟩ y = some v) (hv : cellsV v = some vs) (hl : vs.length = sz + 1) (h1 : leaves vs = true) (hold : cellsAt k off st (sz + 1) = some old) :
    OpU P cx (.store t x y) ty ⟨tm, st, nb⟩ (.c k off vs :: st) nb := u_store hx hy hv hl h1 hold

theorem vs_r {d : Tmp} {op : Op} {ty : TypeId} {pos : String} {af : Array Edge} {gd : Option (Nat × Bool)} {v : V} {e : E} (k : VL P cx ops rest ⟨(d, v) :: tm, e :: st, nb + 1⟩ Q)
    (h : OpR P cx op ty tm st v nb e := by first | (with_reducible apply r_alloc) | ((with_reducible apply r_box) <;> rfl) | ((with_reducible apply r_bs) <;> rfl) | ((with_reducible apply r_make); rfl; rfl; omega; omega; decide; rfl) | ((with_reducible apply r_appn); rfl; rfl; (first | exact .row rfl | exact .nil | exact .sl (by first | assumption | (simp; fail_if_success (focus skip)))); (first | omega | (simp; omega)); decide) | ((with_reducible apply r_appc); rfl; (first | exact .rv rfl (Nat.le_refl _) | exact .rv rfl (by omega) | exact .sl (by first | assumption | (simp; fail_if_success (focus skip)))); rfl; (first | exact .row rfl | exact .sl (by first | assumption | (simp; fail_if_success (focus skip)))); (first | omega | simp); (first | omega | (simp; omega)); decide))
    (hw : Wd ops tm gd := by first | exact trivial | exact wd_of rfl rfl (by with_reducible rfl)) (hd : Nat.blt d cx.N = true := by rfl) (hn : noDefer op = true := by rfl) : VL P cx ops (⟨some d, op, ty, pos, af, gd⟩ :: rest) ⟨tm, st, nb⟩ Q := vl_v h.v hw hd hn k
theorem vs_v {d : Tmp} {op : Op} {ty : TypeId} {pos : String} {af : Array Edge} {gd : Option (Nat × Bool)} {v : V} {st' : List E} {nb' : Nat} (k : VL P cx ops rest ⟨(d, v) :: tm, st', nb'⟩ Q)
    (h : OpV P cx op ty ⟨tm, st, nb⟩ v st' nb' := by
      first
        | ((with_reducible apply v_copy'); rfl; rfl; rfl; (first | exact .row rfl | exact .nil | exact .sl (by first | assumption | (simp; done))); (first | rfl | (simp; done)))
        | ((with_reducible apply v_app'); rfl; rfl; rfl; (first | exact .row rfl | exact .nil | exact .sl (by first | assumption | (simp; done))); (first | omega | (simp; omega)); decide))
    (hw : Wd ops tm gd := by first | exact trivial | exact wd_of rfl rfl (by with_reducible rfl)) (hd : Nat.blt d cx.N = true := by rfl) (hn : noDefer op = true := by rfl) : VL P cx ops (⟨some d, op, ty, pos, af, gd⟩ :: rest) ⟨tm, st, nb⟩ Q := vl_v h hw hd hn k
theorem vs_u {op : Op} {ty : TypeId} {pos : String} {af : Array Edge} {gd : Option (Nat × Bool)} {st' : List E} {nb' : Nat} (k : VL P cx ops rest ⟨tm, st', nb'⟩ Q)
    (h : OpU P cx op ty ⟨tm, st, nb⟩ st' nb' := by
      first
        | ((with_reducible apply u_store') <;> rfl)
        | ((with_reducible apply u_storer'); rfl; rfl; (first | rfl | assumption); rfl; rfl; rfl; rfl; rfl))
    (hw : Wd ops tm gd := by first | exact trivial | exact wd_of rfl rfl (by with_reducible rfl)) (hn : noDefer op = true := by rfl) : VL P cx ops (⟨none, op, ty, pos, af, gd⟩ :: rest) ⟨tm, st, nb⟩ Q := vl_u h hw hn k
theorem vs_p {d : Option Tmp} {op : Op} {ty : TypeId} {pos : String} {af : Array Edge} {gd : Option (Nat × Bool)} {v : V} (k : Q (.panic v) ⟨tm, st, nb⟩)
    (h : OpP P cx op ty ⟨tm, st, nb⟩ v := by
      first
        | ((with_reducible apply p_panic); rfl) | ((with_reducible apply p_panicd); rfl))
    (hw : Wd ops tm gd := by first | exact trivial | exact wd_of rfl rfl (by with_reducible rfl)) (hn : noDefer op = true := by rfl) : VL P cx ops (⟨d, op, ty, pos, af, gd⟩ :: rest) ⟨tm, st, nb⟩ Q := vl_p h hw hn k
/-- the guard's two answers -/
theorem vs_case {d : Tmp} {op : Op} {ty : TypeId} {pos : String} {af : Array Edge} {j : Nat} {b : Bool} {t : Nat} {p : Prop} [Decidable p] (k1 : p → VL P cx ops (⟨some d, op, ty, pos, af, some (j, b)⟩ :: rest) ⟨(t, .d (.lit (.bool true))) :: tm, st, nb⟩ Q) (k2 : ¬ p → VL P cx ops (⟨some d, op, ty, pos, af, some (j, b)⟩ :: rest) ⟨(t, .d (.lit (.bool false))) :: tm, st, nb⟩ Q)
    (_h1 : (ops[j]?).bind (·.dst) = some t := by rfl) (h2 : lookT t tm = some (.d (.lit (.bool (decide p)))) := by rfl) : VL P cx ops (⟨some d, op, ty, pos, af, some (j, b)⟩ :: rest) ⟨tm, st, nb⟩ Q := vl_casep h2 k1 k2
theorem vs_caseb {d : Tmp} {op : Op} {ty : TypeId} {pos : String} {af : Array Edge} {j : Nat} {b c : Bool} {t : Nat} (k1 : c = true → VL P cx ops (⟨some d, op, ty, pos, af, some (j, b)⟩ :: rest) ⟨(t, .d (.lit (.bool true))) :: tm, st, nb⟩ Q) (k2 : c = false → VL P cx ops (⟨some d, op, ty, pos, af, some (j, b)⟩ :: rest) ⟨(t, .d (.lit (.bool false))) :: tm, st, nb⟩ Q)
    (_h1 : (ops[j]?).bind (·.dst) = some t := by rfl) (h2 : lookT t tm = some (.d (.lit (.bool c))) := by rfl) : VL P cx ops (⟨some d, op, ty, pos, af, some (j, b)⟩ :: rest) ⟨tm, st, nb⟩ Q := vl_case h2 k1 k2

/-- the guard's answer is known -/
theorem vs_lit {d : Tmp} {op : Op} {ty : TypeId} {pos : String} {af : Array Edge} {j : Nat} {b : Bool} {t : Nat} (k : VL P cx ops (⟨some d, op, ty, pos, af, some (j, b)⟩ :: rest) ⟨tm, st, nb⟩ Q)
    (_h1 : (ops[j]?).bind (·.dst) = some t := by rfl) {v : V} (_h2 : lookT t tm = some v := by rfl) (_h3 : v = .d (.lit (.bool true)) ∨ v = .d (.lit (.bool false)) := by first | (left; with_reducible rfl) | (right; with_reducible rfl)) : VL P cx ops (⟨some d, op, ty, pos, af, some (j, b)⟩ :: rest) ⟨tm, st, nb⟩ Q := k
theorem vs_ret {t : Tmp} {x : Operand} {f : FuncId} {xs : Array Operand} {tys : Array TypeId} {ty : TypeId} {pos : String} {af : Array Edge} {gd : Option (Nat × Bool)} {v : V} {vs az : List V} {ds' ds : List D} {d : D}
    (hc : VP P f ds (· = .ret d)) (k : VL P cx ops rest ⟨(t, .d d) :: tm, st, nb⟩ Q) (hx : evalV ⟨tm, st, nb⟩ x = some v := by rfl) (hv : evalVs ⟨tm, st, nb⟩ xs.toList = some vs := by rfl) (hf : fnV v vs = some (f, az) := by rfl) (ha : AD st az ds' := by first | exact ad_of rfl | ((repeat' (first | exact ad_nil | exact ad_map | ((apply ad_cons); rfl))); fail_if_success (focus skip))) (hd : DLs ds' ds := by ((repeat' (first | exact dls_nil | with_reducible apply dls_cons | with_reducible exact dl_lit _ | with_reducible exact dl_lf _ | infer_instance | with_reducible apply dl_agg | with_reducible apply dl_ifc | with_reducible apply dl_pt | with_reducible apply dl_fn | with_reducible apply dl_slr | assumption | apply dl_slr)); fail_if_success (focus skip))) (hw : Wd ops tm gd := by first | exact trivial | exact wd_of rfl rfl (by with_reducible rfl)) (ht : Nat.blt t cx.N = true := by rfl) :
    VL P cx ops (⟨some t, .call { callee := .value x, args := xs, argTypes := tys }, ty, pos, af, gd⟩ :: rest) ⟨tm, st, nb⟩ Q := vl_ret hc hx hv hf ha hd hw ht k
theorem vs_own {t : Tmp} {x : Operand} {f : FuncId} {xs : Array Operand} {tys : Array TypeId} {ty : TypeId} {pos : String} {af : Array Edge} {gd : Option (Nat × Bool)} {v : V} {vs az : List V} {ds' ds : List D} {e : TypeId} {sz : Nat} {l : List (List D)}
    (hc : VP P f ds (· = .own e sz l)) (k : VL P cx ops rest ⟨(t, .row nb 0) :: tm, .r true true nb 0 e sz l :: st, nb + 1⟩ Q) (hx : evalV ⟨tm, st, nb⟩ x = some v := by rfl) (hv : evalVs ⟨tm, st, nb⟩ xs.toList = some vs := by rfl) (hf : fnV v vs = some (f, az) := by rfl) (ha : AD st az ds' := by first | exact ad_of rfl | ((repeat' (first | exact ad_nil | exact ad_map | ((apply ad_cons); rfl))); fail_if_success (focus skip))) (hd : DLs ds' ds := by ((repeat' (first | exact dls_nil | with_reducible apply dls_cons | with_reducible exact dl_lit _ | with_reducible exact dl_lf _ | infer_instance | with_reducible apply dl_agg | with_reducible apply dl_ifc | with_reducible apply dl_pt | with_reducible apply dl_fn | with_reducible apply dl_slr | assumption | apply dl_slr)); fail_if_success (focus skip))) (hw : Wd ops tm gd := by first | exact trivial | exact wd_of rfl rfl (by with_reducible rfl)) (ht : Nat.blt t cx.N = true := by rfl) :
    VL P cx ops (⟨some t, .call { callee := .value x, args := xs, argTypes := tys }, ty, pos, af, gd⟩ :: rest) ⟨tm, st, nb⟩ Q := vl_own hc hx hv hf ha hd hw ht k
theorem vs_pan {t : Tmp} {x : Operand} {f : FuncId} {xs : Array Operand} {tys : Array TypeId} {ty : TypeId} {pos : String} {af : Array Edge} {gd : Option (Nat × Bool)} {v : V} {vs az : List V} {ds' ds : List D} {d : D}
    (hc : VP P f ds (· = .panic d)) (k : Q (.panic (.d d)) ⟨tm, st, nb⟩) (hx : evalV ⟨tm, st, nb⟩ x = some v := by rfl) (hv : evalVs ⟨tm, st, nb⟩ xs.toList = some vs := by rfl) (hf : fnV v vs = some (f, az) := by rfl) (ha : AD st az ds' := by first | exact ad_of rfl | ((repeat' (first | exact ad_nil | exact ad_map | ((apply ad_cons); rfl))); fail_if_success (focus skip))) (hd : DLs ds' ds := by ((repeat' (first | exact dls_nil | with_reducible apply dls_cons | with_reducible exact dl_lit _ | with_reducible exact dl_lf _ | infer_instance | with_reducible apply dl_agg | with_reducible apply dl_ifc | with_reducible apply dl_pt | with_reducible apply dl_fn | with_reducible apply dl_slr | assumption | apply dl_slr)); fail_if_success (focus skip))) (hw : Wd ops tm gd := by first | exact trivial | exact wd_of rfl rfl (by with_reducible rfl)) (ht : Nat.blt t cx.N = true := by rfl) :
    VL P cx ops (⟨some t, .call { callee := .value x, args := xs, argTypes := tys }, ty, pos, af, gd⟩ :: rest) ⟨tm, st, nb⟩ Q := vl_pan hc hx hv hf ha hd hw ht k

theorem vs_lent {t : Tmp} {x : Operand} {f : FuncId} {xs : Array Operand} {tys : Array TypeId} {ty : TypeId} {pos : String} {af : Array Edge} {gd : Option (Nat × Bool)} {v : V} {vs az : List V} {ds' ds : List D} {d : D}
    (hc : VP P f ds (· = .ret d)) (k : VL P cx ops rest ⟨(t, .d d) :: tm, st, nb⟩ Q) (hx : evalV ⟨tm, st, nb⟩ x = some v := by rfl) (hv : evalVs ⟨tm, st, nb⟩ xs.toList = some vs := by rfl) (hf : fnV v vs = some (f, az) := by rfl) (ha : lendDs st 64 az = some ds' := by rfl) (hd : DLs ds' ds := by ((repeat' (first | exact dls_nil | with_reducible apply dls_cons | with_reducible exact dl_lit _ | with_reducible exact dl_lf _ | infer_instance | with_reducible apply dl_agg | with_reducible apply dl_ifc | with_reducible apply dl_pt | with_reducible apply dl_fn | with_reducible apply dl_slr | assumption | apply dl_slr)); fail_if_success (focus skip))) (hfl : NewD d := by infer_instance) (hw : Wd ops tm gd := by first | exact trivial | exact wd_of rfl rfl (by with_reducible rfl)) (ht : Nat.blt t cx.N = true := by rfl) :
    VL P cx ops (⟨some t, .call { callee := .value x, args := xs, argTypes := tys }, ty, pos, af, gd⟩ :: rest) ⟨tm, st, nb⟩ Q := vl_lent hc hx hv hf ha hd hfl hw ht (fun _ e => by cases e; exact k) (fun _ _ _ e => by cases e) (fun _ e => by cases e)
theorem vs_lentp {t : Tmp} {x : Operand} {f : FuncId} {xs : Array Operand} {tys : Array TypeId} {ty : TypeId} {pos : String} {af : Array Edge} {gd : Option (Nat × Bool)} {v : V} {vs az : List V} {ds' ds : List D} {d : D}
    (hc : VP P f ds (· = .panic d)) (k : Q (.panic (.d d)) ⟨tm, st, nb⟩) (hx : evalV ⟨tm, st, nb⟩ x = some v := by rfl) (hv : evalVs ⟨tm, st, nb⟩ xs.toList = some vs := by rfl) (hf : fnV v vs = some (f, az) := by rfl) (ha : lendDs st 64 az = some ds' := by rfl) (hd : DLs ds' ds := by ((repeat' (first | exact dls_nil | with_reducible apply dls_cons | with_reducible exact dl_lit _ | with_reducible exact dl_lf _ | infer_instance | with_reducible apply dl_agg | with_reducible apply dl_ifc | with_reducible apply dl_pt | with_reducible apply dl_fn | with_reducible apply dl_slr | assumption | apply dl_slr)); fail_if_success (focus skip))) (hfl : NewD d := by infer_instance) (hw : Wd ops tm gd := by first | exact trivial | exact wd_of rfl rfl (by with_reducible rfl)) (ht : Nat.blt t cx.N = true := by rfl) :
    VL P cx ops (⟨some t, .call { callee := .value x, args := xs, argTypes := tys }, ty, pos, af, gd⟩ :: rest) ⟨tm, st, nb⟩ Q := vl_lent hc hx hv hf ha hd hfl hw ht (fun _ e => by cases e) (fun _ _ _ e => by cases e) (fun _ e => by cases e; exact k)

theorem vw_cid {c : Operand} {x y : Code} (h : VW P cx (.cond c x y) s Q) : VW P cx (.cond c x y) s Q := h
theorem vw_condt {c : Operand} {x y : Code} (ht : VW P cx x s Q) (hc : evalV s c = some (.d (.lit (.bool true))) := by exact ev_of rfl (by with_reducible rfl)) : VW P cx (.cond c x y) s Q := vw_cond hc (fun _ => ht) (fun h => by cases h)
theorem vw_condf {c : Operand} {x y : Code} (ht : VW P cx y s Q) (hc : evalV s c = some (.d (.lit (.bool false))) := by exact ev_of rfl (by with_reducible rfl)) : VW P cx (.cond c x y) s Q := vw_cond hc (fun h => by cases h) (fun _ => ht)
theorem vw_cp {c : Operand} {x y : Code} {p : Prop} [Decidable p] (ht : p → VW P cx x s Q) (hf : ¬ p → VW P cx y s Q) (hc : evalV s c = some (.d (.lit (.bool (decide p)))) := by rfl) : VW P cx (.cond c x y) s Q := vw_condp hc ht hf
theorem vw_cb {c : Operand} {x y : Code} {b : Bool} (ht : b = true → VW P cx x s Q) (hf : b = false → VW P cx y s Q) (hc : evalV s c = some (.d (.lit (.bool b))) := by rfl) : VW P cx (.cond c x y) s Q := vw_cond hc ht hf

/-! ### what comes next -/
theorem nx_then {c : Code} (h : VW P cx c s Q) : thenV P cx c Q .normal s := h
theorem nx_thenx {c : Code} {i : Nat} (h : Q (.exit i) s) : thenV P cx c Q (.exit i) s := h
theorem nx_thenr {c : Code} (h : Q .ret s) : thenV P cx c Q .ret s := h
theorem nx_thenp {c : Code} {v : V} (h : Q (.panic v) s) : thenV P cx c Q (.panic v) s := h
theorem nx_theng {c : Code} {i : Nat} (h : Q (.goto i) s) : thenV P cx c Q (.goto i) s := h
theorem nx_blk {i : Nat} (h : Q .normal s) : blockV i Q .normal s := h
theorem nx_blkr {i : Nat} (h : Q .ret s) : blockV i Q .ret s := h
theorem nx_blkp {i : Nat} {v : V} (h : Q (.panic v) s) : blockV i Q (.panic v) s := h
theorem nx_blkx {i j : Nat} (hj : Nat.beq j i = true) (h : Q .normal s) : blockV i Q (.exit j) s := by simp only [blockV, hj]; exact h
theorem nx_blky {i j : Nat} (hj : Nat.beq j i = false) (h : Q (.exit j) s) : blockV i Q (.exit j) s := by simp only [blockV, hj]; exact h
theorem rt_id {rs : List ResultVar} {post : R → Prop} (h : retQ P rs post .ret s) : retQ P rs post .ret s := h
theorem rt_idp {rs : List ResultVar} {post : R → Prop} {v : V} (h : retQ P rs post (.panic v) s) : retQ P rs post (.panic v) s := h
theorem rt_ok {rs : List ResultVar} {post : R → Prop} {vs : List V} {d : D} (h : ResV P s rs vs) (hd : retD s.st (packV vs) = some d) (k : post (.ret d)) : retQ P rs post .ret s := ⟨vs, h, .inl ⟨d, hd, k⟩⟩
theorem rt_okn {rs : List ResultVar} {post : R → Prop} {vs : List V} {d : D} (h : ResV P s rs vs) (hd : retD s.st (packV vs) = some d) (k : post (.ret d)) : retQ P rs post .normal s := ⟨vs, h, .inl ⟨d, hd, k⟩⟩
theorem rt_a {rs : List ResultVar} {post : R → Prop} {vs : List V} {d : D} (k : post (.ret d))
    (h : ResV P s rs vs := by repeat' (first | exact ResV.nil | (apply ResV.tmp; rfl) | (apply ResV.cell; infer_instance; rfl; rfl) | (apply ResV.cells; infer_instance; rfl; rfl))) (hd : retD s.st (packV vs) = some d := by rfl) : retQ P rs post .ret s := ⟨vs, h, .inl ⟨d, hd, k⟩⟩
theorem rt_o {rs : List ResultVar} {post : R → Prop} {vs : List V} {k ver : Nat} {nw : Bool} {e : TypeId} {sz : Nat} {l : List (List D)} (q : post (.own e sz l))
    (h : ResV P s rs vs := by repeat' (first | exact ResV.nil | (apply ResV.tmp; rfl) | (apply ResV.cell; infer_instance; rfl; rfl) | (apply ResV.cells; infer_instance; rfl; rfl))) (hd : packV vs = .row k ver := by rfl) (hr : rowAt k s.st = some (true, nw, ver, e, sz, l) := by rfl) : retQ P rs post .ret s := ⟨vs, h, .inr ⟨k, nw, ver, e, sz, l, hd, hr, q⟩⟩
theorem rt_n {post : R → Prop} (k : post (.ret (.tup []))) : retQ P [] post .normal s := ⟨[], .nil, .inl ⟨_, rfl, k⟩⟩
theorem rt_nr {post : R → Prop} (k : post (.ret (.tup []))) : retQ P [] post .ret s := ⟨[], .nil, .inl ⟨_, rfl, k⟩⟩
theorem rt_idn {rs : List ResultVar} {post : R → Prop} (h : retQ P rs post .normal s) : retQ P rs post .normal s := h
theorem rt_own {rs : List ResultVar} {post : R → Prop} {vs : List V} {k ver : Nat} {nw : Bool} {e : TypeId} {sz : Nat} {l : List (List D)} (h : ResV P s rs vs) (hd : packV vs = .row k ver) (hr : rowAt k s.st = some (true, nw, ver, e, sz, l)) (q : post (.own e sz l)) : retQ P rs post .ret s := ⟨vs, h, .inr ⟨k, nw, ver, e, sz, l, hd, hr, q⟩⟩
theorem rt_pan {rs : List ResultVar} {post : R → Prop} {v : V} {d : D} (hd : retD s.st v = some d) (k : post (.panic d)) : retQ P rs post (.panic v) s := ⟨d, hd, k⟩

/-- a slice is no longer than slices are -/
theorem vw_len {c : Code} {cc f : Bool} {l : List (List D)} (t : Tmp) (ht : lookT t s.tm = some (.d (.sl cc f l))) (k : l.length ≤ 9223372036854775807 → VW P cx c s Q) : VW P cx c s Q := fun n g0 w0 g a w hE hS => by
  have h := hS.tm ht
  simp only [vrep, drep] at h
  obtain ⟨_, cap, _, _, h1, h2, _⟩ := h
  exact k (by simp only [maxLen] at h2; omega) n g0 w0 g a w hE hS
/-- a slice's elements say what they say to others too -/
theorem dlss_of {l : List (List D)} (h : ∀ x ∈ l, DLs x x) : DLss l l := ⟨fun B B' U w u k => by
  induction l generalizing u with
  | nil => simpa only [drepss] using k
  | cons x xs ih =>
    simp only [drepss] at k ⊢
    obtain ⟨c1, c2, e, k1, k2⟩ := k
    exact ⟨c1, c2, e, (h x (by simp)).le _ _ _ _ _ k1, ih (fun y hy => h y (by simp [hy])) _ k2⟩, rfl, fun _ h => h⟩
instance dlss_nil : DLss [] [] := dlss_of fun _ h => by simp at h
instance dlss_cons {x : List D} {l : List (List D)} [h : DLs x x] [hs : DLss l l] : DLss (x :: l) (x :: l) := ⟨fun B B' U w u k => by
  simp only [drepss] at k ⊢
  obtain ⟨c1, c2, e, k1, k2⟩ := k
  exact ⟨c1, c2, e, h.le _ _ _ _ _ k1, hs.le _ _ _ _ _ k2⟩, rfl, fun _ h => h⟩
end

end Go.Proofs.Ytjfaihpiohccbaa

namespace Go.Proofs.Ytjfaihpiohccbaa
open Go.RowKit

section
variable {P : Program} {ops : Array Oper} {Q : Exit → Act → World → Prop} {S : World → Prop} {L : Array Bool → Act → World → Prop} {n : Nat}

/-- the head of a region: so many operations with numbers below n are still to come; S after each; then L -/
def wpHL (P : Program) (ops : Array Oper) (Q : Exit → Act → World → Prop) (S : World → Prop) (n : Nat) (L : Array Bool → Act → World → Prop) : Nat → Array Bool → Act → World → Prop
  | 0, listed, a, w => (∀ j ∈ Region.ready .any ops listed, n ≤ j) ∧ L listed a w
  | f + 1, listed, a, w => (∃ j, j ∈ Region.ready .any ops listed) ∧ ∀ i ∈ Region.ready .any ops listed, i < n → wpOp P ops Q i (fun a' w' => S w' ∧ wpHL P ops Q S n L f (listed.setIfInBounds i true) a' w') a w

theorem wpHL_first {i : Nat} {oi : Oper} {v : Value} (hi : ops[i]? = some oi) (hin : i < n) (hsel : ∀ (j : Nat) (o : Oper) cs b, ops[j]? = some o → o.op ≠ .select cs b)
    (hQ : ∀ c a d v w, Q (.panic c) (a.put d v) w → Q (.panic c) a w) :
    ∀ (f : Nat) (listed : Array Bool) (a : Act) (w : World),
      (∀ j oj, ops[j]? = some oj → j ≠ i → listed.getD j true = false → (∀ e ∈ oj.after, Region.binds .any e = true → e.on ≠ i) → oi.apart ops oj = true) →
      i ∈ Region.ready .any ops listed → YieldsIf P ops S oi v a → S w →
      wpHL P ops Q S n L f (listed.setIfInBounds i true) (a.put oi.dst v) w → wpHL P ops Q S n L (f + 1) listed a w := by
  intro f
  induction f with
  | zero =>
    intro listed a w _ hr hy hS H
    refine ⟨⟨i, hr⟩, fun j hj hjn => ?_⟩
    by_cases e : j = i
    · subst e; exact hy.wpOp hi hS ⟨hS, H⟩
    · have := H.1 j (ready_mono hj e)
      omega
  | succ f ih =>
    intro listed a w hfree hr hy hS H
    refine ⟨⟨i, hr⟩, fun j hj hjn => ?_⟩
    by_cases e : j = i
    · subst e; exact hy.wpOp hi hS ⟨hS, H⟩
    · obtain ⟨hjun, oj, hoj, hall⟩ := mem_ready.1 hj
      have hun := (mem_ready.1 hr).1
      have hnot : ∀ x ∈ oj.after, Region.binds .any x = true → x.on ≠ i := fun x hx hb heq => by
        have h1 := hall x hx hb
        rw [heq, getD_both hun] at h1
        cases h1
      have hput := wpOp_putIf hoj (hfree j oj hoj e hjun hnot) (fun cs b => hsel i oi cs b hi) (fun cs b => hsel j oj cs b hoj) (fun c a w => hQ c a _ _ w) hy (H.2 j (ready_mono hj e) hjn)
      refine wpOp_mono (fun a' w' h3 => ⟨h3.2.1, ?_⟩) hput
      refine ih (listed.setIfInBounds j true) a' w' (fun k ok hk hki hku hno => hfree k ok hk hki ?_ hno) (ready_mono hr (fun h => e h.symm)) h3.1 h3.2.1 ?_
      · by_cases hjk : j = k
        · subst hjk; exact hjun
        · rwa [getD_set_ne true hjk] at hku
      · rw [Array.setIfInBounds_comm _ _ e]
        exact h3.2.2

/-- how many of the first k are still to come -/
def un (listed : Array Bool) : Nat → Nat
  | 0 => 0
  | k + 1 => (if listed.getD k true = true then 0 else 1) + un listed k
theorem un_congr {l l' : Array Bool} : ∀ k, (∀ i, i < k → l.getD i true = l'.getD i true) → un l k = un l' k
  | 0, _ => rfl
  | k + 1, h => by rw [un, un, h k (by omega), un_congr k (fun i hi => h i (by omega))]
theorem un_set {l : Array Bool} {i : Nat} (hi : l.getD i true = false) : ∀ k, i < k → un (l.setIfInBounds i true) k + 1 = un l k
  | 0, h => by omega
  | k + 1, h => by
    have hlt : i < l.size := by
      rcases Nat.lt_or_ge i l.size with h' | h'
      · exact h'
      · simp [Array.getElem?_eq_none h'] at hi
    by_cases e : i = k
    · subst e
      have h1 : (l.setIfInBounds i true).getD i true = true := by simp [hlt]
      rw [un, un, h1, hi, un_congr (l := l.setIfInBounds i true) (l' := l) i (fun j hj => getD_set_ne true (by omega))]
      simp; omega
    · rw [un, un, getD_set_ne true e]
      have := un_set hi k (by omega)
      omega
theorem un_pos {l : Array Bool} : ∀ {k}, 0 < un l k → ∃ i, i < k ∧ l.getD i true = false
  | 0, h => by simp [un] at h
  | k + 1, h => by
    cases e : l.getD k true with
    | false => exact ⟨k, by omega, e⟩
    | true =>
      rw [un, e] at h
      obtain ⟨i, hi, he⟩ := un_pos (k := k) (by simpa using h)
      exact ⟨i, by omega, he⟩
theorem un_none (m : Nat) : ∀ k, k ≤ m → un (Array.replicate m false) k = k
  | 0, _ => rfl
  | k + 1, h => by
    rw [un, un_none m k (by omega)]
    simp [show k < m from by omega]; omega

/-- the head, and then the tail, come to the region -/
theorem wpAny_of_HL {g : Nat} (hs : n = ops.size ∨ (Region.sinkB .any ops n = true ∧ Region.chainB .any ops n = true ∧ n < ops.size)) (hL : ∀ listed a w, HeadInv .any ops n listed → un listed n = 0 → (∀ j ∈ Region.ready .any ops listed, n ≤ j) → L listed a w → wpAny P .any ops Q g listed a w) :
    ∀ (f : Nat) (listed : Array Bool) (a : Act) (w : World), HeadInv .any ops n listed → un listed n = f → wpHL P ops Q S n L f listed a w → wpAny P .any ops Q (f + g) listed a w := by
  intro f
  induction f with
  | zero => intro listed a w inv hu h; rw [Nat.zero_add]; exact hL _ _ _ inv hu h.1 h.2
  | succ f ih =>
    intro listed a w inv hu h
    obtain ⟨⟨j, hj⟩, h⟩ := h
    obtain ⟨i0, hi0, hun⟩ := un_pos (l := listed) (k := n) (by omega)
    rw [show f + 1 + g = (f + g) + 1 from by omega]
    refine ⟨fun h0 => (by rw [h0] at hj; cases hj), fun i hi => ?_⟩
    have hin : i < n := by
      rcases hs with rfl | ⟨hs, hc, hn⟩
      · obtain ⟨_, o, ho, _⟩ := mem_ready.1 hi
        exact (Array.getElem?_eq_some_iff.1 ho).1
      · rcases Nat.lt_or_ge i n with h' | h'
        · exact h'
        · exact absurd hi (tail_waits hs hc hn inv _ i0 rfl hi0 hun i h')
    refine wpOp_mono (fun a' w' h3 => ?_) (h i hi hin)
    refine ih _ a' w' (inv.set hi hin) ?_ h3.2
    have := un_set (mem_ready.1 hi).1 n hin
    omega

/-! ### the order that is named -/
inductive Seg where
  | q (l : List Nat)
  | e (i : Nat)

/-- the walk in segments: quiet ones by 'wpQuiet' at the class S, the others one by one -/
def wpSegs (P : Program) (ops : Array Oper) (Q : Exit → Act → World → Prop) (S : World → Prop) (L : Act → World → Prop) : List Seg → Act → World → Prop
  | [], a, w => L a w
  | .q l :: r, a, w => S w ∧ wpQuiet P ops S (fun a' => wpSegs P ops Q S L r a' w) (l.filterMap (ops[·]?)) a
  | .e i :: r, a, w => wpList P ops (Exit.then (fun a' w' => S w' ∧ wpSegs P ops Q S L r a' w') Q) ([i].filterMap (ops[·]?)) a w

/-- operations that yield a value, and never a call of Go code -/
def heldOp (o : Oper) : Bool :=
  match o.op with
  | .move _ | .assign _ | .pick .. | .load .. | .binOp .. | .unOp .. | .convert .. | .fieldAddr .. | .field .. | .indexAddr .. | .index .. | .extract .. | .slice .. | .build .. | .makeInterface .. | .makeFunc .. => true
  | .nilCheck _ => true
  | .call { callee := .builtin .len, .. } | .call { callee := .builtin .min, .. } | .call { callee := .builtin .max, .. } | .call { callee := .builtin .cap, .. } => true
  | _ => false

theorem andThen_val {s : Sem Value} {x : Next} {w w' : World} (h : ((do pure (Next.value (← s))) : Sem Next).run P w = .ok x w') : ∃ v, x = .value v := by
  rw [Sem.run_bind] at h
  cases hs : s.run P w with
  | ok v w1 => rw [hs] at h; simp [Result.andThen] at h; exact ⟨v, h.1.symm⟩
  | halt y w1 => rw [hs] at h; simp [Result.andThen] at h

theorem bind_val {α : Type} {s : Sem α} {k : α → Sem Next} {x : Next} {w w' : World} (hk : ∀ a w1, (k a).run P w1 = .ok x w' → ∃ v, x = .value v) (h : (s >>= k).run P w = .ok x w') : ∃ v, x = .value v := by
  rw [Sem.run_bind] at h
  cases hs : s.run P w with
  | ok v w1 => rw [hs] at h; exact hk v w1 h
  | halt y w1 => rw [hs] at h; simp [Result.andThen] at h
theorem pure_val {u : Value} {x : Next} {w w' : World} (h : (pure (Next.value u) : Sem Next).run P w = .ok x w') : ∃ v, x = .value v := by
  simp at h; exact ⟨u, h.1.symm⟩
theorem panic_val {x : Next} {w w' : World} (h : (runtimePanic .nilDeref : Sem Next).run P w = .ok x w') : ∃ v, x = .value v := by
  simp [runtimePanic, goPanic, Sem.run] at h

theorem held_value {o : Oper} (hh : heldOp o = true) {ev : Operand → Value} {x : Next} {w w' : World} (h : (execOp ev o).run P w = .ok x w') : ∃ v, x = .value v := by
  unfold heldOp at hh
  unfold execOp at h
  split at hh <;> rename_i ho <;> simp only [ho] at h
  all_goals first
    | exact andThen_val h
    | (simp at h; exact ⟨_, h.1.symm⟩)
    | cases hh
    | exact bind_val (fun _ _ h => pure_val h) h
    | skip
  · refine bind_val (fun b w1 hb => ?_) h
    exact pure_val hb
  · split at h
    · exact panic_val h
    · exact panic_val h
    · exact panic_val h
    · split at h
      · exact panic_val h
      · refine bind_val (fun _ _ h => ?_) h
        refine bind_val (fun _ _ h => ?_) h
        split at h
        · refine bind_val (fun _ _ h => pure_val h) h
        · exact pure_val h
      · exact pure_val h
    · exact pure_val h

theorem yieldsIf_of_quiet {o : Oper} {a : Act} {K : Act → Prop} (hc : heldOp o = true) (hw : Region.wanted o (yielded ops a.tmps) = true) (h : o.quiet P a S K) : ∃ v, YieldsIf P ops S o v a ∧ K (a.put o.dst v) := by
  obtain ⟨v, hv, hk⟩ := h
  refine ⟨v, .inl ⟨hw, fun w hw' => ?_⟩, hk⟩
  have h1 := hv w hw'
  unfold Oper.quietAt at h1
  cases hr : (execOp a.eval o).run P w with
  | halt y w1 => rw [hr] at h1; cases h1
  | ok x w1 =>
    obtain ⟨u, rfl⟩ := held_value hc hr
    rw [hr] at h1
    obtain ⟨rfl, rfl⟩ := h1
    rfl

def flat : List Seg → List (Nat × Bool)
  | [] => []
  | .q l :: r => l.map (fun i => (i, true)) ++ flat r
  | .e i :: r => (i, false) :: flat r

/-- is this an order that serves all? (n: the head's length) -/
def flatB (ops : Array Oper) (n : Nat) : List (Nat × Bool) → Array Bool → Bool
  | [], listed => (Region.ready .any ops listed).all (fun j => decide (n ≤ j))
  | (i, true) :: r, listed => decide (i < n) && (Region.ready .any ops listed).contains i && Region.free .any ops listed i && ((ops[i]?).map heldOp).getD false && flatB ops n r (listed.setIfInBounds i true)
  | (i, false) :: r, listed => decide (i < n) && decide ((Region.ready .any ops listed) = [i]) && flatB ops n r (listed.setIfInBounds i true)

theorem oper_wp_then {o : Oper} {a : Act} {w : World} {next : Act → World → Prop} {K : Act → World → Prop} (h : o.wp P a w next (Exit.then K Q)) : o.wp P a w next Q := by
  unfold Oper.wp Oper.upon at *
  split at h <;> first
    | exact h
    | (refine Calls.mono h fun e w' he => ?_
       cases e <;> exact he)

theorem oper_then_wp {o : Oper} {a : Act} {w : World} {next : Act → World → Prop} {K : Act → World → Prop} (h : o.wp P a w next Q) : o.wp P a w next (Exit.then K Q) := by
  unfold Oper.wp Oper.upon at *
  split at h <;> first
    | exact h
    | (refine Calls.mono h fun e w' he => ?_
       cases e <;> exact he)

theorem wpOp_of_list {i : Nat} {o : Oper} {a : Act} {w : World} {K : Act → World → Prop} (hi : ops[i]? = some o) (h : wpList P ops (Exit.then K Q) [o] a w) : wpOp P ops Q i K a w := by
  unfold wpOp
  simp only [hi]
  unfold wpList at h
  split
  · rename_i hw
    rw [if_pos hw] at h
    rcases h with h | h
    · exact .inl (oper_wp_then (K := K) h)
    · exact .inr h
  · rename_i hw
    rw [if_neg hw] at h
    exact h

theorem wpHL_quiet {i : Nat} {o : Oper} {rest : List Oper} {f : Nat} {listed : Array Bool} {a : Act} {w : World} {Q' : Act → Prop} (hi : ops[i]? = some o) (hin : i < n) (hsel : ∀ (j : Nat) (o : Oper) cs b, ops[j]? = some o → o.op ≠ .select cs b)
    (hQ : ∀ c a d v w, Q (.panic c) (a.put d v) w → Q (.panic c) a w) (hr : i ∈ Region.ready .any ops listed) (hf : Region.free .any ops listed i = true) (hh : heldOp o = true) (hS : S w)
    (h : wpQuiet P ops S Q' (o :: rest) a) (hk : ∀ a', wpQuiet P ops S Q' rest a' → wpHL P ops Q S n L f (listed.setIfInBounds i true) a' w) : wpHL P ops Q S n L (f + 1) listed a w := by
  unfold wpQuiet at h
  by_cases hw : Region.wanted o (yielded ops a.tmps) = true
  · rw [if_pos hw] at h
    obtain ⟨v, hy, hv⟩ := yieldsIf_of_quiet hh hw h
    exact wpHL_first hi hin hsel hQ f listed a w (Region.free_spec hi hf) hr hy hS (hk _ hv)
  · rw [if_neg hw] at h
    exact wpHL_first hi hin hsel hQ f listed a w (Region.free_spec hi hf) hr (.inr ⟨by simpa using hw, rfl⟩) hS (hk _ h)

theorem wpHL_of_segs {L' : Act → World → Prop} (hsel : ∀ (j : Nat) (o : Oper) cs b, ops[j]? = some o → o.op ≠ .select cs b) (hQ : ∀ c a d v w, Q (.panic c) (a.put d v) w → Q (.panic c) a w) :
    ∀ (l : List Seg) (listed : Array Bool) (a : Act) (w : World), flatB ops n (flat l) listed = true → wpSegs P ops Q S L' l a w → wpHL P ops Q S n (fun _ => L') (flat l).length listed a w
  | [], listed, a, w, hB, h => ⟨fun j hj => by
      have := List.all_eq_true.1 hB j hj
      simpa using this, h⟩
  | .e i :: r, listed, a, w, hB, h => by
    simp only [flat, flatB, Bool.and_eq_true, decide_eq_true_eq] at hB
    obtain ⟨⟨hin, hr⟩, hB'⟩ := hB
    have hmem : i ∈ Region.ready .any ops listed := by rw [hr]; simp
    obtain ⟨_, o, ho, _⟩ := mem_ready.1 hmem
    refine ⟨⟨i, hmem⟩, fun j hj _ => ?_⟩
    rw [hr] at hj
    obtain rfl : j = i := by simpa using hj
    have h' : wpList P ops (Exit.then (fun a' w' => S w' ∧ wpSegs P ops Q S L' r a' w') Q) [o] a w := by
      have : [j].filterMap (ops[·]?) = [o] := by simp [ho]
      rw [← this]; exact h
    refine wpOp_mono (fun a' w' h3 => ⟨h3.1, ?_⟩) (wpOp_of_list ho h')
    exact wpHL_of_segs hsel hQ r _ a' w' hB' h3.2
  | .q [] :: r, listed, a, w, hB, h => wpHL_of_segs hsel hQ r listed a w hB h.2
  | .q (i :: l) :: r, listed, a, w, hB, h => by
    simp only [flat, List.map_cons, List.cons_append, flatB, Bool.and_eq_true, decide_eq_true_eq] at hB
    obtain ⟨⟨⟨⟨hin, hr⟩, hf⟩, hh⟩, hB'⟩ := hB
    have hmem : i ∈ Region.ready .any ops listed := by simpa using hr
    obtain ⟨_, o, ho, _⟩ := mem_ready.1 hmem
    have hh' : heldOp o = true := by simpa [ho] using hh
    have h2 : wpQuiet P ops S (fun a' => wpSegs P ops Q S L' r a' w) (o :: l.filterMap (ops[·]?)) a := by
      have := h.2
      rw [List.filterMap_cons, ho] at this
      exact this
    exact wpHL_quiet ho hin hsel hQ hmem hf hh' h.1 h2 fun a' h3 => wpHL_of_segs hsel hQ (.q l :: r) _ a' w hB' ⟨h.1, h3⟩

def headDone (m n : Nat) : Array Bool := ((List.range m).map fun i => decide (i < n)).toArray

theorem un_zero {l : Array Bool} : ∀ {k}, un l k = 0 → ∀ i, i < k → l.getD i true = true
  | 0, _, i, hi => by omega
  | k + 1, h, i, hi => by
    rw [un] at h
    by_cases e : i = k
    · subst e
      cases e2 : l.getD i true with
      | true => rfl
      | false => rw [e2] at h; simp at h
    · exact un_zero (k := k) (by omega) i (by omega)

theorem listed_eq {listed : Array Bool} (inv : HeadInv .any ops n listed) (hu : un listed n = 0) : listed = headDone ops.size n := by
  apply Array.ext
  · simp [headDone, inv.size]
  · intro i h1 h2
    have hs := inv.size
    rw [show (headDone ops.size n)[i] = decide (i < n) from by simp [headDone]]
    by_cases e : i < n
    · have := un_zero hu i e
      simp [h1] at this
      simp [this, e]
    · have := inv.tail i (by omega) (by omega)
      simp [h1] at this
      simp [this, e]

/-- the checks of an order that is named: the head has n operations, the tail (if there is one) waits for all of them -/
def segsOk (ops : Array Oper) (n : Nat) (l : List Seg) : Bool :=
  Region.noSelect ops && (decide (n = ops.size) || (Region.sinkB .any ops n && Region.chainB .any ops n && decide (n < ops.size))) && decide ((flat l).length = n) && flatB ops n (flat l) (Array.replicate ops.size false) &&
    Region.seqB .any ops (ops.size - n) n (headDone ops.size n)

/-- ONE WALK FOR EVERY ORDER of a region: the segments that are named, and then the tail -/
theorem wp_region_segs {id : Nat} {a : Act} {w : World} {l : List Oper} (n : Nat) (segs : List Seg) (S : World → Prop) (hm : P.follows .mixedOrders = true) (hB : segsOk l.toArray n segs = true) (hQ : ∀ c a d v w, Q (.panic c) (a.put d v) w → Q (.panic c) a w)
    (h : wpSegs P l.toArray Q S (fun a' w' => wpList P l.toArray Q (l.drop n) a' w') segs a w.drew) : (Code.region id l.toArray true).wp P Q a w := by
  simp only [segsOk, Bool.and_eq_true, Bool.or_eq_true, decide_eq_true_eq] at hB
  obtain ⟨⟨⟨⟨hsel, hn⟩, hlen⟩, hfl⟩, hseq⟩ := hB
  have hle : n ≤ l.toArray.size := by rcases hn with h | h <;> omega
  have inv0 : HeadInv .any l.toArray n (Array.replicate l.toArray.size false) :=
    ⟨by simp, fun j oj _ hl => (by rw [getD_replicate_false] at hl; cases hl), fun t _ ht => getD_in (by simpa using ht) (getD_replicate_false _ _)⟩
  refine wp_region_any hm ?_
  have H := wpHL_of_segs (n := n) (Region.noSelect_spec hsel) hQ segs (Array.replicate l.toArray.size false) a w.drew hfl h
  rw [hlen] at H
  have := wpAny_of_HL (g := l.toArray.size - n) (by rcases hn with h | ⟨⟨h1, h2⟩, h3⟩; exact .inl h; exact .inr ⟨h1, h2, h3⟩) (fun listed a' w' inv hu _ hL => by
    rw [listed_eq inv hu]
    have hl : (l.drop n).length = l.toArray.size - n := by simp
    have := wpAny_of_seq (md := .any) (Q' := Q) (l.drop n) n (headDone l.toArray.size n) a' w' (fun j => by simp [List.getElem?_drop]) (by rw [hl]; exact hseq) hL
    rwa [hl] at this) n _ a w.drew inv0 (un_none _ _ hle) H
  rw [show n + (l.toArray.size - n) = l.toArray.size from by omega] at this
  exact this
end

/-! ### loads of one cell -/
theorem below_cell {W w' : World} {p : Addr} {v : Value} (hS : Below W.heap.size W w') (h : W.cell? p = some v) : w'.cell? p = some v := (hS.cell (World.block_lt_of_cell? W _ h)).trans h

/-- a type whose values have one cell -/
def scalarTy (P : Program) (ty : TypeId) : Bool :=
  match P.underlying ty with
  | some (.struct _) | some (.array _ _) => false
  | some _ => true
  | none => false

theorem run_load1 {P : Program} {w : World} {ty : TypeId} {a : Addr} {v : Value} (hty : scalarTy P ty = true) (h : w.cell? a = some v) : (loadVar ty a).run P w = .ok v w := by
  unfold scalarTy at hty
  cases hu : P.underlying ty with
  | none => rw [hu] at hty; cases hty
  | some d =>
    have hagg : (isAgg ty).run P w = .ok false w := by
      unfold isAgg
      rw [Sem.run_bind, run_underlying hu w]
      cases d <;> first | rfl | (rw [hu] at hty; cases hty)
    simp only [loadVar, Sem.run_bind, hagg, Result.andThen_ok]
    simp [load, Sem.run, h]

section
variable {P : Program} {ops : Array Oper} {C : World → Prop} {Q : Act → Prop} {rest : List Oper} {a : Act} {dst : Option Tmp} {p : Operand} {lt ty : TypeId} {pos : String} {af : Array Edge} {g : Option (Nat × Bool)} {b o : Nat} {v : Value}

theorem op_load1 (ev : Operand → Value) {w : World} (hp : ev p = .pointer (some ⟨b, o, none⟩)) (hty : scalarTy P lt = true) (h : w.cell? ⟨b, o, none⟩ = some v) :
    (execOp ev ⟨dst, .load lt p, ty, pos, af, g⟩).run P w = .ok (.value v) w := by
  simp only [execOp, hp, Instr.loadAt, Instr.sureAddr, Sem.run_bind, Sem.run_pure, Result.andThen_ok, run_load1 hty h]

theorem wq_load1 (hw : Region.wanted ⟨dst, .load lt p, ty, pos, af, g⟩ (yielded ops a.tmps) = true) (hp : a.eval p = .pointer (some ⟨b, o, none⟩)) (hty : scalarTy P lt = true)
    (h : ∀ w, C w → w.cell? ⟨b, o, none⟩ = some v) (hk : wpQuiet P ops C Q rest (a.put dst v)) : wpQuiet P ops C Q (⟨dst, .load lt p, ty, pos, af, g⟩ :: rest) a :=
  wq_of hw (fun w hC => op_load1 _ hp hty (h w hC)) hk
theorem wq_loadB {W : World} (hw : Region.wanted ⟨dst, .load lt p, ty, pos, af, g⟩ (yielded ops a.tmps) = true) (hp : a.eval p = .pointer (some ⟨b, o, none⟩)) (hty : scalarTy P lt = true)
    (h : W.cell? ⟨b, o, none⟩ = some v) (hk : wpQuiet P ops (fun w' => Below W.heap.size W w') Q rest (a.put dst v)) : wpQuiet P ops (fun w' => Below W.heap.size W w') Q (⟨dst, .load lt p, ty, pos, af, g⟩ :: rest) a :=
  wq_load1 hw hp hty (fun _ hC => below_cell hC h) hk
end

/-! ### the same order, its operations written out -/
inductive SegO where
  | q (l : List Oper)
  | e (o : Oper)
def cat : List SegO → List Oper
  | [] => []
  | .q l :: r => l ++ cat r
  | .e o :: r => o :: cat r
def idx : Nat → List SegO → List Seg
  | _, [] => []
  | k, .q l :: r => .q (List.range' k l.length) :: idx (k + l.length) r
  | k, .e _ :: r => .e k :: idx (k + 1) r
section
variable {P : Program} {Q : Exit → Act → World → Prop} {S : World → Prop}
def wpCuts (P : Program) (ops : Array Oper) (Q : Exit → Act → World → Prop) (S : World → Prop) (L : Act → World → Prop) : List SegO → Act → World → Prop
  | [], a, w => L a w
  | .q l :: r, a, w => S w ∧ wpQuiet P ops S (fun a' => wpCuts P ops Q S L r a' w) l a
  | .e o :: r, a, w => wpList P ops (Exit.then (fun a' w' => S w' ∧ wpCuts P ops Q S L r a' w') Q) [o] a w

theorem fm_range (pre mid post : List Oper) : (List.range' pre.length mid.length).filterMap ((pre ++ (mid ++ post)).toArray[·]?) = mid := by
  induction mid generalizing pre with
  | nil => rfl
  | cons o mid ih =>
    have h := ih (pre ++ [o])
    rw [List.length_append, List.length_singleton, List.append_assoc, List.singleton_append] at h
    rw [List.length_cons, List.range'_succ, List.filterMap_cons]
    have e : ((pre ++ (o :: mid ++ post)).toArray[pre.length]?) = some o := by simp
    rw [e]
    exact congrArg (o :: ·) h

theorem wpQuiet_mono {ops : Array Oper} {C : World → Prop} {Q Q' : Act → Prop} (hQ : ∀ a, Q a → Q' a) : ∀ (l : List Oper) (a : Act), wpQuiet P ops C Q l a → wpQuiet P ops C Q' l a
  | [], a, h => hQ a h
  | o :: r, a, h => by
    unfold wpQuiet at h ⊢
    split
    · rename_i hw
      rw [if_pos hw] at h
      obtain ⟨v, hv, hk⟩ := h
      exact ⟨v, hv, wpQuiet_mono hQ r _ hk⟩
    · rename_i hw
      rw [if_neg hw] at h
      exact wpQuiet_mono hQ r _ h

theorem wpList_one {ops : Array Oper} {K K' : Act → World → Prop} (hK : ∀ a w, K a w → K' a w) {o : Oper} {a : Act} {w : World} (h : wpList P ops (Exit.then K Q) [o] a w) : wpList P ops (Exit.then K' Q) [o] a w := by
  unfold wpList at h ⊢
  split
  · rename_i hw
    rw [if_pos hw] at h
    rcases h with h | h
    · refine .inl ?_
      have h1 : o.wp P a w K' (Exit.then K Q) := Oper.wp_mono (K := K) hK h
      have h2 : o.wp P a w K' Q := oper_wp_then (K := K) h1
      exact oper_then_wp h2
    · exact .inr h
  · rename_i hw
    rw [if_neg hw] at h
    exact hK _ _ h

theorem wpSegs_of_cuts {L : Act → World → Prop} (l tail : List Oper) : ∀ (segs : List SegO) (pre : List Oper) (a : Act) (w : World), pre ++ (cat segs ++ tail) = l → wpCuts P l.toArray Q S L segs a w → wpSegs P l.toArray Q S L (idx pre.length segs) a w
  | [], _, _, _, _, h => h
  | .e o :: r, pre, a, w, hl, h => by
    have e : [pre.length].filterMap (l.toArray[·]?) = [o] := by rw [← hl]; simp [cat]
    unfold wpSegs idx
    simp only [e]
    unfold wpCuts at h
    refine wpList_one (fun a' w' h' => ⟨h'.1, ?_⟩) h
    have := wpSegs_of_cuts l tail r (pre ++ [o]) a' w' (by rw [← hl]; simp [cat]) h'.2
    simpa using this
  | .q m :: r, pre, a, w, hl, h => by
    have e : (List.range' pre.length m.length).filterMap (l.toArray[·]?) = m := by
      have := fm_range pre m (cat r ++ tail)
      rw [← hl]
      simpa [cat] using this
    unfold wpSegs idx
    simp only [e]
    unfold wpCuts at h
    refine ⟨h.1, wpQuiet_mono (fun a' h' => ?_) _ _ h.2⟩
    have := wpSegs_of_cuts l tail r (pre ++ m) a' w (by rw [← hl]; simp [cat]) h'
    simpa using this

/-- ONE WALK FOR EVERY ORDER of a region: the segments' operations, and then the tail's -/
theorem wp_region_cuts {id : Nat} {a : Act} {w : World} {l : List Oper} (segs : List SegO) (tail : List Oper) (hl : cat segs ++ tail = l) (S : World → Prop) (hm : P.follows .mixedOrders = true) (hB : segsOk l.toArray (cat segs).length (idx 0 segs) = true)
    (hQ : ∀ c a d v w, Q (.panic c) (a.put d v) w → Q (.panic c) a w) (h : wpCuts P l.toArray Q S (fun a' w' => wpList P l.toArray Q tail a' w') segs a w.drew) : (Code.region id l.toArray true).wp P Q a w := by
  refine wp_region_segs (cat segs).length (idx 0 segs) S hm hB hQ ?_
  have e : l.drop (cat segs).length = tail := by rw [← hl]; simp
  rw [e]
  exact wpSegs_of_cuts l tail segs [] a w.drew (by simpa using hl) h
theorem cut_q {ops : Array Oper} {L : Act → World → Prop} {l : List Oper} {r : List SegO} {a : Act} {w : World} (hS : S w) (h : wpQuiet P ops S (fun a' => wpCuts P ops Q S L r a' w) l a) : wpCuts P ops Q S L (.q l :: r) a w := ⟨hS, h⟩
theorem cut_e {ops : Array Oper} {L : Act → World → Prop} {o : Oper} {r : List SegO} {a : Act} {w : World} (h : wpList P ops (Exit.then (fun a' w' => S w' ∧ wpCuts P ops Q S L r a' w') Q) [o] a w) : wpCuts P ops Q S L (.e o :: r) a w := h
theorem cut_end {ops : Array Oper} {L : Act → World → Prop} {a : Act} {w : World} (h : L a w) : wpCuts P ops Q S L [] a w := h
end

end Go.Proofs.Ytjfaihpiohccbaa
