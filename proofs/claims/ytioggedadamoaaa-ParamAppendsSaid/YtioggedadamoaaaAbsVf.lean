/- Arrays of whole numbers compared. -/
import Derived.Test.YtioggedadamoaaaAbsVe
set_option autoImplicit false
set_option linter.unusedVariables false
set_option linter.unusedSimpArgs false
namespace Go.Abs
open Go.RowKit
section
variable {P : Program}
theorem prun_bind {α β : Type} (c : Sem α) (f : α → Sem β) {a : α} (h : prun P c = some a) : prun P (c >>= f) = prun P (f a) := by
  show prun P (Sem.bind c f) = _
  induction c with
  | pure b => simp only [prun, Option.some.injEq] at h; subst h; rfl
  | program k ih => simp only [prun] at h; simp only [Sem.bind, prun]; exact ih P h
  | mark m k ih => simp only [prun] at h; simp only [Sem.bind, prun]; exact ih h
  | load | store | new | shape | freeze | frozen | getObj | setObj | choose | sys | halt => simp [prun] at h
def intsV (k : IntKind) (l : List Int) : Array Value := ⟨l.map fun z => .int k z⟩
theorem prun_part {e : TypeId} (hag : prun P (isAgg e) = some false) (k : IntKind) (l : List Int) (j : Nat) (z : Int) (h : l[j]? = some z) : prun P (part e (intsV k l) j) = some (.int k z) := by
  unfold part
  rw [prun_bind _ _ hag]
  have : (intsV k l)[j]? = some (.int k z) := by
    simp [intsV, h]
  simp only [Bool.false_eq_true, if_false, this]
  rfl
theorem prun_eqInt {e : TypeId} {k : IntKind} (hu : prun P (underlying e) = some (.int k)) (d : Nat) (a b : Int) : prun P (Op.equalIn (d + 1) e (.int k a) (.int k b)) = some (a == b) := by
  unfold Op.equalIn
  rw [prun_bind _ _ hu]
  simp only [if_true]
  rfl
theorem prun_eqArr {t e : TypeId} {n : Nat} {k : IntKind} (ht : prun P (underlying t) = some (.array n e)) (hs : prun P (sizeOf e) = some 1) (hag : prun P (isAgg e) = some false) (hu : prun P (underlying e) = some (.int k)) (d : Nat) (as bs : List Int) (ha : as.length = n) (hb : bs.length = n) :
    prun P (Op.equalIn (d + 2) t (.agg (intsV k as)) (.agg (intsV k bs))) = some (as == bs) := by
  unfold Op.equalIn
  rw [prun_bind _ _ ht]
  simp only
  rw [prun_bind _ _ hs]
  simp only [Std.Legacy.Range.forIn_eq_forIn_range', Std.Legacy.Range.size, Nat.sub_zero, Nat.add_one_sub_one, Nat.div_one, Nat.mul_one]
  have hall : ∀ (as bs : List Int) (m : Nat), as.length = m → bs.length = m → (as == bs) = (List.range' 0 m).all fun j => as.getD j 0 == bs.getD j 0 := by
    intro as bs m ha hb
    cases hq : (as == bs) with
    | true =>
      obtain rfl := eq_of_beq hq
      simp
    | false =>
      symm
      rw [Bool.eq_false_iff]
      intro hc
      rw [List.all_eq_true] at hc
      have : as = bs := by
        apply List.ext_getElem (by omega)
        intro j h1 h2
        have := eq_of_beq (hc j (by simp; omega))
        rw [List.getD_eq_getElem?_getD, List.getD_eq_getElem?_getD, List.getElem?_eq_getElem h1, List.getElem?_eq_getElem h2] at this
        simpa using this
      rw [this] at hq
      simp at hq
  rw [hall as bs n ha hb]
  have hmem : ∀ j ∈ List.range' 0 n, j < n := by
    intro j hj
    simp at hj; omega
  generalize List.range' 0 n = is at hmem ⊢
  induction is with
  | nil => rfl
  | cons j is ih =>
    have hj := hmem j (by simp)
    have hja : as[j]? = some (as.getD j 0) := by
      rw [List.getD_eq_getElem?_getD, List.getElem?_eq_getElem (by omega)]; rfl
    have hjb : bs[j]? = some (bs.getD j 0) := by
      rw [List.getD_eq_getElem?_getD, List.getElem?_eq_getElem (by omega)]; rfl
    rw [List.forIn_cons, List.all_cons]
    simp only [bind_assoc]
    rw [prun_bind _ _ (prun_part hag k as j _ hja), prun_bind _ _ (prun_part hag k bs j _ hjb), prun_bind _ _ (prun_eqInt hu d _ _)]
    cases hab : (as.getD j 0 == bs.getD j 0) with
    | false =>
      simp only [Bool.not_false, if_true, pure_bind, Bool.false_and]
      rfl
    | true =>
      simp only [Bool.not_true, Bool.false_eq_true, if_false, pure_bind, Bool.true_and]
      exact ih fun q hq => hmem q (by simp [hq])
section
variable {call : CallF} {n : Nat} {S : Slots} {A : AW}
theorem groundA_ints (k : IntKind) (l : List Int) : groundA (intsV k l) = true := groundL_k k l
theorem eop_eqArr {o : Oper} {t ty e : TypeId} {x y : Operand} {len : Nat} {k : IntKind} {xs ys : List Int} (hop : o.op = .binOp .eql t x y ty) (hin : opndsIn S [x, y] = true)
    (hx : aeval (arrOf n S) x = some (.agg (intsV k xs))) (hy : aeval (arrOf n S) y = some (.agg (intsV k ys))) 
    (ht : prun P (underlying t) = some (.array len e)) (hs : prun P (sizeOf e) = some 1) (hag : prun P (isAgg e) = some false) (hu : prun P (underlying e) = some (.int k)) (ha : xs.length = len) (hb : ys.length = len) (hge : P.eqGuardType P.depth t = false) :
    eop P call n S o A = some (.bool (xs == ys), A) := by
  refine eop_by (by rw [hop]; exact hin) ?_
  unfold aop
  rw [hop]
  simp only [aev1, hx, hy]
  have hg : (ground (.agg (intsV k xs)) && ground (.agg (intsV k ys))) = true := by
    show (groundA (intsV k xs) && groundA (intsV k ys)) = true
    rw [groundA_ints, groundA_ints]; rfl
  rw [hg]
  simp only [cond_true]
  have h1 : prun P (eqGuard .eql t x y (.agg (intsV k xs)) (.agg (intsV k ys))) = some () := by
    unfold eqGuard
    simp only [Bool.not_true, Bool.false_eq_true, if_false]
    rw [prun_bind _ _ (show prun P program = some P from rfl), prun_bind _ _ (show prun P program = some P from rfl)]
    simp only [hge, Bool.not_false, if_true]
    rfl
  have h2 : prun P (binOp .eql t (.agg (intsV k xs)) (.agg (intsV k ys))) = some (.bool (xs == ys)) := by
    show prun P (Op.equal t (.agg (intsV k xs)) (.agg (intsV k ys)) >>= fun b => (pure (Value.bool b) : Sem Value)) = _
    rw [prun_bind _ _ (show prun P (Op.equal t (.agg (intsV k xs)) (.agg (intsV k ys))) = some (xs == ys) from prun_eqArr (d := 9998) ht hs hag hu xs ys ha hb)]
    rfl
  rw [prun_bind _ _ h1, h2]
  rfl
end
end
end Go.Abs
