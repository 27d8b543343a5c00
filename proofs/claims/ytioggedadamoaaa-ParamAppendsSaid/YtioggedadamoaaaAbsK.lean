/- Laws for steps on rows of bytes, and for what grows. -/
import Derived.Test.YtioggedadamoaaaAbsJ
set_option autoImplicit false
set_option linter.unusedVariables false
set_option linter.unusedSimpArgs false
namespace Go.Abs
open Go.RowKit
structure AExt (A A' : AW) : Prop where
  size : A.size ≤ A'.size
  get : ∀ b, b < A.size → A'.get b = A.get b
  nx : A.nx = none → A'.nx = none
theorem AExt.refl (A : AW) : AExt A A := ⟨Nat.le_refl _, fun _ _ => rfl, id⟩
theorem AExt.trans {A B C : AW} (h : AExt A B) (k : AExt B C) : AExt A C :=
  ⟨Nat.le_trans h.size k.size, fun b hb => by rw [k.get b (Nat.lt_of_lt_of_le hb h.size), h.get b hb], fun hn => k.nx (h.nx hn)⟩
theorem AExt.push {A : AW} (h : A.nx = none) (x : AObj) : AExt A (A.push x) :=
  ⟨A.size_push_le x, fun b hb => by
    rw [AW.get_push, if_neg]
    unfold AW.nid
    rw [h]
    exact Nat.ne_of_lt hb, fun _ => AW.push_nx h x⟩
theorem nid_none {A : AW} (h : A.nx = none) : A.nid = A.size := by unfold AW.nid; rw [h]
theorem push_get_new {A : AW} (x : AObj) : (A.push x).get A.nid = x := by rw [AW.get_push, if_pos rfl]
abbrev bOr (k : IntKind) (x y : Int) : Int := k.wrap ((BitVec.ofInt k.bits x ||| BitVec.ofInt k.bits y).toNat)
abbrev sShr (k : IntKind) (x y : Int) : Int := x.fdiv (2 ^ (min y.toNat k.bits))
theorem wrap_u64 {x : Int} (h0 : 0 ≤ x) (h1 : x < 18446744073709551616) : IntKind.wrap .u64 x = x := by
  have : x % (18446744073709551616 : Int) = x := Int.emod_eq_of_lt h0 h1
  simp [IntKind.wrap, IntKind.bits, IntKind.signed, this]
theorem wrap_u8 {x : Int} (h0 : 0 ≤ x) (h1 : x < 256) : IntKind.wrap .u8 x = x := by
  have : x % (256 : Int) = x := Int.emod_eq_of_lt h0 h1
  simp [IntKind.wrap, IntKind.bits, IntKind.signed, this]
theorem wrap_i64 {x : Int} (h0 : -9223372036854775808 ≤ x) (h1 : x < 9223372036854775808) : IntKind.wrap .i64 x = x := by
  by_cases hx : 0 ≤ x
  · have : x % (18446744073709551616 : Int) = x := Int.emod_eq_of_lt hx (by omega)
    have h2 : ¬ (x ≥ 9223372036854775808) := by omega
    simp [IntKind.wrap, IntKind.bits, IntKind.signed, this]
    omega
  · have : x % (18446744073709551616 : Int) = x + 18446744073709551616 := by omega
    simp [IntKind.wrap, IntKind.bits, IntKind.signed, this]
    omega
section
variable {P : Program} {call : CallF} {n : Nat} {ops : Array Oper} {i : Nat} {S : Slots} {A : AW} {Q : Slots → AW → Prop}
theorem EO.by1 {o : Oper} {v : Value} {A1 : AW} (ho : ops[i]? = some o) (hw : ewant ops S o = some true) (hin : opndsIn S o.op.operands.toList = true) (e : aop P call (arrOf n S) o A = some (v, A1))
    (h : EO P call n ops (i + 1) (eput n S o.dst v) A1 Q) : EO P call n ops i S A Q :=
  EO.op ho hw (by unfold eop; rw [hin]; exact e) h
theorem EO.index {o : Oper} {t : TypeId} {x ix : Operand} {v u w : Value} (ho : ops[i]? = some o) (hop : o.op = .indexAddr t x ix) (hw : ewant ops S o = some true) (hin : opndsIn S [x, ix] = true)
    (hv : aeval (arrOf n S) x = some v) (hu : aeval (arrOf n S) ix = some u) (e : aindexAddr P t v u = some w) (h : EO P call n ops (i + 1) (eput n S o.dst w) A Q) : EO P call n ops i S A Q := by
  refine EO.by1 ho hw ?_ ?_ h
  · rw [hop]; exact hin
  · unfold aop
    rw [hop]
    simp only [aev1, hv, hu, e, onV]
theorem EO.load {o : Oper} {t : TypeId} {x : Operand} {ad : Addr} {w : Value} (ho : ops[i]? = some o) (hop : o.op = .load t x) (hw : ewant ops S o = some true) (hin : opndsIn S [x] = true)
    (hv : aeval (arrOf n S) x = some (.pointer (some ad))) (e : aload P A t ad = some w) (h : EO P call n ops (i + 1) (eput n S o.dst w) A Q) : EO P call n ops i S A Q := by
  refine EO.by1 ho hw ?_ ?_ h
  · rw [hop]; exact hin
  · unfold aop
    rw [hop]
    simp only [aev1, hv, e, onV]
theorem EO.store {o : Oper} {t : TypeId} {a x : Operand} {ad : Addr} {u : Value} {A1 : AW} (ho : ops[i]? = some o) (hop : o.op = .store t a x) (hw : ewant ops S o = some true) (hin : opndsIn S [a, x] = true)
    (hv : aeval (arrOf n S) a = some (.pointer (some ad))) (hu : aeval (arrOf n S) x = some u) (e : astore P A t ad u = some A1) (h : EO P call n ops (i + 1) (eput n S o.dst undef) A1 Q) : EO P call n ops i S A Q := by
  refine EO.by1 ho hw ?_ ?_ h
  · rw [hop]; exact hin
  · unfold aop
    rw [hop]
    simp only [aev1, hv, hu, e, onW]
theorem EO.append {o : Oper} {c : Call} {x y : Operand} {v u w : Value} {A1 : AW} (ho : ops[i]? = some o) (hop : o.op = .call c) (hc : c.callee = .builtin .append) (ha : c.args.toList = [x, y]) (hw : ewant ops S o = some true)
    (hin : opndsIn S [x, y] = true) (hv : aeval (arrOf n S) x = some v) (hu : aeval (arrOf n S) y = some u) (e : aappend P A c.argTypes v u = some (w, A1)) (h : EO P call n ops (i + 1) (eput n S o.dst w) A1 Q) : EO P call n ops i S A Q := by
  refine EO.by1 ho hw ?_ ?_ h
  · rw [hop]
    simp only [Op.operands]
    have : c.operands.toList = [x, y] := by
      unfold Call.operands
      rw [hc]
      simpa using ha
    rw [this]; exact hin
  · unfold aop
    rw [hop]
    simp only
    unfold acallOp
    rw [ha, hc]
    simp only [aevals, hv, hu, abuiltin, e]
theorem aindexAddr_slice {t elem : TypeId} {size b o len cap j : Nat} {k : IntKind} (hu : prun P (underlying t) = some (.slice elem)) (hs : prun P (sizeOf elem) = some size) (hj : j < len) :
    aindexAddr P t (.slice (some ⟨b, o, none⟩) len cap) (.int k (.ofNat j)) = some (.pointer (some ⟨b, o + j * size, none⟩)) := by
  unfold aindexAddr
  simp only [hu, hs]
  have : Nat.blt j len = true := Nat.ble_eq_true_of_le hj
  simp [this, addr_add]
theorem loadN_one {b o : Nat} {cs : List Value} {ro opn : Bool} {esz : Nat} {v : Value} (hg : A.get b = .cells cs ro opn esz) (hv : cs[o]? = some v) : A.loadN ⟨b, o, none⟩ 1 = some [v] := by
  unfold AW.loadN
  simp only [hg]
  have hl := (List.getElem?_eq_some_iff.1 hv).1
  have : Nat.ble (o + 1) cs.length = true := Nat.ble_eq_true_of_le hl
  rw [this]
  simp only [cond_true, Option.some.injEq]
  rw [List.drop_eq_getElem_cons hl]
  simp only [List.take_succ_cons, List.take_zero]
  rw [(List.getElem?_eq_some_iff.1 hv).2]
theorem aload_one {t : TypeId} {b o : Nat} {cs : List Value} {ro opn : Bool} {esz : Nat} {v : Value} (ht : prun P (isAgg t) = some false) (hg : A.get b = .cells cs ro opn esz) (hv : cs[o]? = some v) : aload P A t ⟨b, o, none⟩ = some v := by
  unfold aload
  rw [ht]
  simp only [loadN_one hg hv]
end
end Go.Abs
