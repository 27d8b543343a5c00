/- Steps over the abstract machine where the slots are known in part: what of them is told is enough. -/
import Derived.Test.YtioggedadamoaaaAbsEnd
set_option autoImplicit false
set_option linter.unusedVariables false
set_option linter.unusedSimpArgs false
namespace Go.Abs
open Go.RowKit
abbrev Slots := List (Nat × Value)
def look : Slots → Nat → Option Value
  | [], _ => none
  | (i, v) :: l, j => bif Nat.beq i j then some v else look l j
def Has (n : Nat) (S : Slots) (t : Array Value) : Prop := t.size = n ∧ ∀ i v, look S i = some v → i < n ∧ getS t i = v
def mkL (S : Slots) (i : Nat) : Nat → List Value
  | 0 => []
  | k + 1 => (match look S i with | some v => v | none => undef) :: mkL S (i + 1) k
def arrOf (n : Nat) (S : Slots) : Array Value := ⟨mkL S 0 n⟩
theorem getL_mkL (S : Slots) : ∀ (k i j : Nat), j < k → getL (mkL S i k) j = (match look S (i + j) with | some v => v | none => undef)
  | 0, i, j, h => by omega
  | k + 1, i, 0, h => rfl
  | k + 1, i, j + 1, h => by
    have := getL_mkL S k (i + 1) j (by omega)
    show getL (mkL S (i + 1) k) j = _
    rw [this, show i + 1 + j = i + (j + 1) from by omega]
theorem getS_arrOf {n : Nat} {S : Slots} {i : Nat} {v : Value} (hi : i < n) (h : look S i = some v) : getS (arrOf n S) i = v := by
  have := getL_mkL S n 0 i hi
  rw [Nat.zero_add, h] at this
  exact this
def opndIn (S : Slots) : Operand → Bool
  | .tmp i => (look S i).isSome
  | _ => true
def opndsIn (S : Slots) : List Operand → Bool
  | [] => true
  | x :: l => opndIn S x && opndsIn S l
theorem opndsIn_mem {S : Slots} : ∀ {l : List Operand}, opndsIn S l = true → ∀ x ∈ l, opndIn S x = true
  | [], _, x, hx => by simp at hx
  | y :: l, h, x, hx => by
    simp only [opndsIn, Bool.and_eq_true] at h
    rcases List.mem_cons.1 hx with rfl | hx
    · exact h.1
    · exact opndsIn_mem h.2 x hx
section
variable {P : Program} {call : CallF}
theorem aevals_congr {t t' : Array Value} : ∀ {xs : List Operand}, (∀ x ∈ xs, aeval t x = aeval t' x) → aevals t xs = aevals t' xs
  | [], _ => rfl
  | x :: xs, h => by
    unfold aevals
    rw [h x (by simp), aevals_congr fun y hy => h y (by simp [hy])]
theorem aparts_congr {t t' : Array Value} : ∀ {xs : List (Nat × Operand)}, (∀ x ∈ xs.map (·.2), aeval t x = aeval t' x) → aparts t xs = aparts t' xs
  | [], _ => rfl
  | (i, x) :: xs, h => by
    unfold aparts
    rw [h x (by simp), aparts_congr fun y hy => h y (by simp only [List.map_cons, List.mem_cons]; exact .inr hy)]
theorem aevO_congr {t t' : Array Value} {x : Option Operand} (h : ∀ y ∈ x.toList, aeval t y = aeval t' y) : aevO t x = aevO t' x := by
  cases x with
  | none => rfl
  | some y =>
    have hy : aeval t y = aeval t' y := h y (by simp)
    simp only [aevO, hy]
theorem aev1_congr {t t' : Array Value} {x : Operand} {k k' : Value → Option (Value × AW)} (h : aeval t x = aeval t' x) (hk : ∀ v, k v = k' v) : aev1 t x k = aev1 t' x k' := by
  unfold aev1
  rw [h]
  cases aeval t' x with
  | none => rfl
  | some v => exact hk v
theorem aop_congr {t t' : Array Value} {o : Oper} {A : AW} (h : ∀ x ∈ o.op.operands.toList, aeval t x = aeval t' x) : aop P call t o A = aop P call t' o A := by
  obtain ⟨dst, op, type, pos, after, guard⟩ := o
  simp only at h
  unfold aop
  cases op <;> simp only [Op.operands] at h ⊢ <;> try rfl
  case move x => exact aev1_congr (h _ (by simp)) fun _ => rfl
  case assign x => exact aev1_congr (h _ (by simp)) fun _ => rfl
  case pick c a b =>
    refine aev1_congr (h _ (by simp)) fun cv => ?_
    cases cv <;> try rfl
    rename_i b1
    cases b1
    · refine aev1_congr (h _ (by simp)) fun _ => ?_
      simp only [cond_false]
      rw [h a (by simp)]
    · refine aev1_congr (h _ (by simp)) fun _ => ?_
      simp only [cond_true]
      rw [h b (by simp)]
  case box _ x => exact aev1_congr (h _ (by simp)) fun _ => rfl
  case build _ ps => rw [aparts_congr fun x hx => h x (by simpa using hx)]
  case buildSlice _ _ ps => rw [aparts_congr fun x hx => h x (by simpa using hx)]
  case load _ x => exact aev1_congr (h _ (by simp)) fun _ => rfl
  case store _ a x =>
    refine aev1_congr (h _ (by simp)) fun v => ?_
    cases v <;> try rfl
    rename_i oa
    cases oa with
    | none => rfl
    | some ad => exact aev1_congr (h _ (by simp)) fun _ => rfl
  case nilCheck x => exact aev1_congr (h _ (by simp)) fun _ => rfl
  case binOp _ _ x y _ => exact aev1_congr (h _ (by simp)) fun _ => aev1_congr (h _ (by simp)) fun _ => rfl
  case unOp _ _ x => exact aev1_congr (h _ (by simp)) fun _ => rfl
  case convert _ _ x => exact aev1_congr (h _ (by simp)) fun _ => rfl
  case makeInterface _ x => exact aev1_congr (h _ (by simp)) fun _ => rfl
  case makeMap _ r => cases r <;> rfl
  case makeFunc fn first captured =>
    rw [aevals_congr fun x hx => h x (by simp at hx ⊢; exact .inl hx), aevals_congr (xs := captured.toList) fun x hx => h x (by simp at hx ⊢; exact .inr hx)]
  case makeSlice _ l c => exact aev1_congr (h _ (by simp)) fun _ => aev1_congr (h _ (by simp)) fun _ => rfl
  case slice _ x lo hi mx =>
    refine aev1_congr (h _ (by simp)) fun v => ?_
    rw [aevO_congr (x := lo) fun y hy => h y (by simp at hy ⊢; simp [hy]), aevO_congr (x := hi) fun y hy => h y (by simp at hy ⊢; simp [hy]), aevO_congr (x := mx) fun y hy => h y (by simp at hy ⊢; simp [hy])]
  case fieldAddr _ x _ => exact aev1_congr (h _ (by simp)) fun _ => rfl
  case field _ x _ => exact aev1_congr (h _ (by simp)) fun _ => rfl
  case indexAddr _ x i => exact aev1_congr (h _ (by simp)) fun _ => aev1_congr (h _ (by simp)) fun _ => rfl
  case index _ x i => exact aev1_congr (h _ (by simp)) fun _ => aev1_congr (h _ (by simp)) fun _ => rfl
  case lookup _ x k _ => exact aev1_congr (h _ (by simp)) fun _ => aev1_congr (h _ (by simp)) fun _ => rfl
  case mapUpdate _ m k x => exact aev1_congr (h _ (by simp)) fun _ => aev1_congr (h _ (by simp)) fun _ => aev1_congr (h _ (by simp)) fun _ => rfl
  case extract x _ => exact aev1_congr (h _ (by simp)) fun _ => rfl
  case call c =>
    have hargs : aevals t c.args.toList = aevals t' c.args.toList := aevals_congr fun x hx => h x (by unfold Call.operands; cases c.callee <;> simp_all)
    unfold acallOp
    rw [hargs]
    cases aevals t' c.args.toList with
    | none => rfl
    | some args =>
      simp only
      cases hc : c.callee with
      | builtin b => rfl
      | invoke _ _ => rfl
      | value f =>
        simp only
        rw [h f (by unfold Call.operands; rw [hc]; simp)]
def eop (P : Program) (call : CallF) (n : Nat) (S : Slots) (o : Oper) (A : AW) : Option (Value × AW) :=
  bif opndsIn S o.op.operands.toList then aop P call (arrOf n S) o A else none
theorem Has.aeval {n : Nat} {S : Slots} {t : Array Value} (h : Has n S t) {x : Operand} (hx : opndIn S x = true) : aeval t x = aeval (arrOf n S) x := by
  cases x with
  | tmp i =>
    simp only [opndIn, Option.isSome_iff_exists] at hx
    obtain ⟨v, hv⟩ := hx
    obtain ⟨h1, h2⟩ := h.2 i v hv
    simp only [Abs.aeval]
    rw [h2, getS_arrOf h1 hv]
  | const v => rfl
  | func f => rfl
  | global g => rfl
theorem eop_sound {n : Nat} {S : Slots} {t : Array Value} (h : Has n S t) {o : Oper} {A : AW} {r : Value × AW} (e : eop P call n S o A = some r) : aop P call t o A = some r := by
  unfold eop at e
  cases hb : opndsIn S o.op.operands.toList with
  | false => rw [hb] at e; cases e
  | true =>
    rw [hb] at e
    rw [← e]
    exact aop_congr fun x hx => h.aeval (opndsIn_mem hb x hx)
def eput (n : Nat) (S : Slots) (dst : Option Tmp) (v : Value) : Slots :=
  match dst with
  | none => S
  | some d => bif Nat.blt d n then (d, v) :: S else S
theorem Has.put {n : Nat} {S : Slots} {t : Array Value} (h : Has n S t) (dst : Option Tmp) (v : Value) : Has n (eput n S dst v) (aput t dst v) := by
  cases dst with
  | none => exact h
  | some d =>
    have hs : (aput t (some d) v).size = n := by
      show (setS t d v).size = n
      rw [setS_eq]
      simp [h.1]
    have hg : ∀ i, getS (aput t (some d) v) i = if d = i ∧ i < n then v else getS t i := by
      intro i
      show getS (setS t d v) i = _
      rw [getS_eq, getS_eq, setS_eq, Array.getD_eq_getD_getElem?, Array.getD_eq_getD_getElem?]
      by_cases hd : d = i
      · subst hd
        by_cases hl : d < n
        · have : d < t.size := by rw [h.1]; exact hl
          simp [this, hl]
        · have : ¬ d < t.size := by rw [h.1]; exact hl
          simp [this, hl]
      · rw [Array.getElem?_setIfInBounds_ne hd]
        simp [hd]
    refine ⟨hs, ?_⟩
    intro i u hu
    unfold eput at hu
    simp only at hu
    cases hb : Nat.blt d n with
    | false =>
      rw [hb] at hu
      obtain ⟨h1, h2⟩ := h.2 i u hu
      refine ⟨h1, ?_⟩
      rw [hg, if_neg]
      · exact h2
      · rintro ⟨rfl, hl⟩
        have : Nat.blt d n = true := Nat.ble_eq_true_of_le hl
        rw [hb] at this; cases this
    | true =>
      have hl : d < n := Nat.le_of_ble_eq_true hb
      rw [hb] at hu
      simp only [cond_true, look] at hu
      cases hd : Nat.beq d i with
      | true =>
        rw [hd] at hu
        simp only [cond_true, Option.some.injEq] at hu
        have := Nat.eq_of_beq_eq_true hd
        subst this
        exact ⟨hl, by rw [hg, if_pos ⟨rfl, hl⟩]; exact hu⟩
      | false =>
        rw [hd] at hu
        obtain ⟨h1, h2⟩ := h.2 i u hu
        refine ⟨h1, ?_⟩
        rw [hg, if_neg (fun k => Nat.ne_of_beq_eq_false hd k.1)]
        exact h2
def ewant (ops : Array Oper) (S : Slots) (o : Oper) : Option Bool :=
  match o.guard with
  | none => some true
  | some (j, b) => match (ops[j]?).bind (·.dst) with
    | none => none
    | some d => match look S d with
      | some (.bool c) => some (c == b)
      | some (.tuple ⟨[]⟩) => some false
      | _ => none
theorem ewant_sound {n : Nat} {ops : Array Oper} {S : Slots} {t : Array Value} (h : Has n S t) {o : Oper} {b : Bool} (e : ewant ops S o = some b) : Region.wanted o (yielded ops t) = b := by
  unfold ewant at e
  unfold Region.wanted
  cases hg : o.guard with
  | none => rw [hg] at e; simpa using e
  | some g =>
    obtain ⟨j, c⟩ := g
    rw [hg] at e
    simp only at e
    simp only [yielded_eq]
    cases hd : (ops[j]?).bind (·.dst) with
    | none => rw [hd] at e; cases e
    | some d =>
      rw [hd] at e
      simp only [Option.bind_some] at e ⊢
      have key : ∀ v, look S d = some v → t[d]? = some v := by
        intro v hv
        obtain ⟨h1, h2⟩ := h.2 d v hv
        have hl : d < t.size := by rw [h.1]; exact h1
        rw [getS_eq, Array.getD_eq_getD_getElem?, Array.getElem?_eq_getElem hl] at h2
        rw [Array.getElem?_eq_getElem hl]
        simpa using h2
      split at e
      · rename_i c2 hv
        rw [key _ hv]
        simp only [boolOf, Option.some.injEq] at e ⊢
        rw [← e]
        cases c <;> cases c2 <;> rfl
      · rename_i hv
        rw [key _ hv]
        simp only [boolOf, Option.some.injEq] at e ⊢
        rw [← e]
        cases c <;> rfl
      · cases e
def eops (P : Program) (call : CallF) (n : Nat) (ops : Array Oper) : List Oper → Slots → AW → Option (Slots × AW)
  | [], S, A => some (S, A)
  | o :: l, S, A => match ewant ops S o with
    | some true => match eop P call n S o A with
      | some (v, A') => eops P call n ops l (eput n S o.dst v) A'
      | none => none
    | some false => eops P call n ops l (eput n S o.dst undef) A
    | none => none
def restr (keep : List Nat) (S : Slots) : Slots :=
  match keep with
  | [] => []
  | i :: l => match look S i with
    | some v => (i, v) :: restr l S
    | none => restr l S
theorem look_restr {keep : List Nat} {S : Slots} {i : Nat} {v : Value} (h : look (restr keep S) i = some v) : look S i = some v := by
  induction keep with
  | nil => simp [restr, look] at h
  | cons k l ih =>
    unfold restr at h
    split at h
    · rename_i u hu
      simp only [look] at h
      cases hk : Nat.beq k i with
      | true =>
        rw [hk] at h
        have := Nat.eq_of_beq_eq_true hk
        subst this
        rw [hu]
        simpa using h
      | false => rw [hk] at h; exact ih h
    · exact ih h
theorem Has.restr {n : Nat} {S : Slots} {t : Array Value} (h : Has n S t) (keep : List Nat) : Has n (restr keep S) t := ⟨h.1, fun i v hv => h.2 i v (look_restr hv)⟩
theorem aops_cons (ops : Array Oper) (o : Oper) (rest : List Oper) (t : Array Value) (A : AW) : aops P call ops (o :: rest) t A = (bif Region.wanted o (yielded ops t) then
      match aop P call t o A with
      | some (v, A') => aops P call ops rest (aput t o.dst v) A'
      | none => none
    else aops P call ops rest (aput t o.dst undef) A) := rfl
def EO (P : Program) (call : CallF) (n : Nat) (ops : Array Oper) (i : Nat) (S : Slots) (A : AW) (Q : Slots → AW → Prop) : Prop :=
  ∀ t, Has n S t → ∃ t' A' S', aops P call ops (ops.toList.drop i) t A = some (t', A') ∧ Has n S' t' ∧ Q S' A'
theorem eops_sound {n : Nat} {ops : Array Oper} : ∀ {l : List Oper} {S : Slots} {A : AW} {S1 : Slots} {A1 : AW} {t : Array Value} (rest : List Oper), Has n S t → eops P call n ops l S A = some (S1, A1) →
    ∃ t1, Has n S1 t1 ∧ aops P call ops (l ++ rest) t A = aops P call ops rest t1 A1
  | [], S, A, S1, A1, t, rest, h, e => by
    simp only [eops, Option.some.injEq, Prod.mk.injEq] at e
    obtain ⟨rfl, rfl⟩ := e
    exact ⟨t, h, rfl⟩
  | o :: l, S, A, S1, A1, t, rest, h, e => by
    unfold eops at e
    rw [List.cons_append, aops_cons]
    split at e
    · rename_i hw
      rw [ewant_sound h hw]
      simp only [cond_true]
      cases ho : eop P call n S o A with
      | none => rw [ho] at e; cases e
      | some r =>
        obtain ⟨v, A2⟩ := r
        rw [ho] at e
        rw [eop_sound h ho]
        exact eops_sound rest (h.put o.dst v) e
    · rename_i hw
      rw [ewant_sound h hw]
      simp only [cond_false]
      exact eops_sound rest (h.put o.dst undef) e
    · cases e
def eopsR (P : Program) (call : CallF) (n : Nat) (ops : Array Oper) (i j : Nat) (keep : List Nat) (S : Slots) (A : AW) : Option (Slots × AW) :=
  match eops P call n ops ((ops.toList.drop i).take (j - i)) S A with
  | some (S1, A1) => some (restr keep S1, A1)
  | none => none
variable {n : Nat} {ops : Array Oper} {i : Nat} {S : Slots} {A : AW} {Q : Slots → AW → Prop}
theorem EO.run (j : Nat) (keep : List Nat) {S2 : Slots} {A2 : AW} (hij : Nat.ble i j = true) (e : eopsR P call n ops i j keep S A = some (S2, A2)) (h : EO P call n ops j S2 A2 Q) : EO P call n ops i S A Q := by
  intro t ht
  unfold eopsR at e
  cases he : eops P call n ops ((ops.toList.drop i).take (j - i)) S A with
  | none => rw [he] at e; cases e
  | some r =>
    obtain ⟨S1, A1⟩ := r
    rw [he] at e
    simp only [Option.some.injEq, Prod.mk.injEq] at e
    obtain ⟨rfl, rfl⟩ := e
    obtain ⟨t1, h1, h2⟩ := eops_sound (ops.toList.drop j) ht he
    have hj : i ≤ j := Nat.le_of_ble_eq_true hij
    have : (ops.toList.drop i).take (j - i) ++ ops.toList.drop j = ops.toList.drop i := by
      have h3 := List.take_append_drop (j - i) (ops.toList.drop i)
      rw [List.drop_drop, show i + (j - i) = j from by omega] at h3
      exact h3
    rw [this] at h2
    rw [h2]
    exact h t1 (h1.restr keep)
theorem EO.op {o : Oper} {v : Value} {A1 : AW} (ho : ops[i]? = some o) (hw : ewant ops S o = some true) (e : eop P call n S o A = some (v, A1)) (h : EO P call n ops (i + 1) (eput n S o.dst v) A1 Q) : EO P call n ops i S A Q := by
  intro t ht
  have hlt := (Array.getElem?_eq_some_iff.1 ho).1
  have hdrop : ops.toList.drop i = o :: ops.toList.drop (i + 1) := by
    rw [List.drop_eq_getElem_cons (by simpa using hlt)]
    congr 1
    simpa using (Array.getElem?_eq_some_iff.1 ho).2
  rw [hdrop, aops_cons]
  rw [ewant_sound ht hw, eop_sound ht e]
  exact h _ (ht.put o.dst v)
theorem EO.fcall {o : Oper} {c : Call} {f : FuncId} {vs : List Value} {v : Value} {A1 : AW} (ho : ops[i]? = some o) (hc : o.op = .call c) (hf : c.callee = .value (.func f)) (hw : ewant ops S o = some true)
    (hin : opndsIn S c.args.toList = true) (ha : aevals (arrOf n S) c.args.toList = some vs) (e : call f vs A = some (v, A1)) (h : EO P call n ops (i + 1) (eput n S o.dst v) A1 Q) : EO P call n ops i S A Q := by
  refine EO.op ho hw ?_ h
  unfold eop
  have hops : opndsIn S o.op.operands.toList = true := by
    rw [hc]
    simp only [Op.operands]
    have : c.operands.toList = .func f :: c.args.toList := by
      unfold Call.operands
      rw [hf]
      simp
    rw [this]
    simp [opndsIn, opndIn, hin]
  rw [hops]
  simp only [cond_true]
  unfold aop
  rw [hc]
  simp only
  unfold acallOp
  rw [ha, hf]
  simp only [Abs.aeval]
  simpa using e
theorem EO.done (hn : Nat.ble ops.size i = true) (h : Q S A) : EO P call n ops i S A Q := by
  intro t ht
  rw [List.drop_of_length_le (by simpa using Nat.le_of_ble_eq_true hn)]
  exact ⟨t, A, S, rfl, ht, h⟩
variable {draws : Array Oper → Array Value → AW → Option (Array Value × AW)} {R : Nat}
def J (P : Program) (call : CallF) (draws : Array Oper → Array Value → AW → Option (Array Value × AW)) (R n : Nat) (c : Code) (S : Slots) (A : AW) (Q : X → Slots → AW → Prop) : Prop :=
  ∀ t, Has n S t → ∃ x t' A' S', acode P call draws R c t A = some (x, t', A') ∧ Has n S' t' ∧ Q x S' A'
theorem J.mono {c : Code} {Q Q' : X → Slots → AW → Prop} (h : J P call draws R n c S A Q) (k : ∀ x S A, Q x S A → Q' x S A) : J P call draws R n c S A Q' := by
  intro t ht
  obtain ⟨x, t', A', S', h1, h2, h3⟩ := h t ht
  exact ⟨x, t', A', S', h1, h2, k _ _ _ h3⟩
theorem J.skip {Q : X → Slots → AW → Prop} (h : Q .n S A) : J P call draws R n .skip S A Q := fun t ht => ⟨.n, t, A, S, rfl, ht, h⟩
theorem J.ret {Q : X → Slots → AW → Prop} (h : Q .r S A) : J P call draws R n .ret S A Q := fun t ht => ⟨.r, t, A, S, rfl, ht, h⟩
theorem J.exit {id : Nat} {Q : X → Slots → AW → Prop} (h : Q (.e id) S A) : J P call draws R n (.exit id) S A Q := fun t ht => ⟨.e id, t, A, S, rfl, ht, h⟩
theorem J.region {id : Nat} {Q : X → Slots → AW → Prop} (h : EO P call n ops 0 S A fun S' A' => Q .n S' A') : J P call draws R n (.region id ops false) S A Q := by
  intro t ht
  obtain ⟨t', A', S', h1, h2, h3⟩ := h t ht
  refine ⟨.n, t', A', S', ?_, h2, h3⟩
  simp only [List.drop_zero] at h1
  simp only [acode]
  rw [h1]
def thenJ (P : Program) (call : CallF) (draws : Array Oper → Array Value → AW → Option (Array Value × AW)) (R n : Nat) (b : Code) (Q : X → Slots → AW → Prop) : X → Slots → AW → Prop
  | .n, S, A => J P call draws R n b S A Q
  | .e id, S, A => Q (.e id) S A
  | .r, S, A => Q .r S A
theorem J.seq {a b : Code} {Q : X → Slots → AW → Prop} (h : J P call draws R n a S A (thenJ P call draws R n b Q)) : J P call draws R n (.seq a b) S A Q := by
  intro t ht
  obtain ⟨x, t', A', S', h1, h2, h3⟩ := h t ht
  simp only [acode, h1]
  cases x with
  | n => exact h3 t' h2
  | e id => exact ⟨_, _, _, _, rfl, h2, h3⟩
  | r => exact ⟨_, _, _, _, rfl, h2, h3⟩
theorem J.sr {id : Nat} {b : Code} {Q : X → Slots → AW → Prop} (h : EO P call n ops 0 S A fun S' A' => J P call draws R n b S' A' Q) : J P call draws R n (.seq (.region id ops false) b) S A Q := J.seq (J.region h)
theorem J.cond {c : Nat} {x y : Code} {Q : X → Slots → AW → Prop} (b : Bool) (e : look S c = some (.bool b)) (h1 : b = true → J P call draws R n x S A Q) (h2 : b = false → J P call draws R n y S A Q) :
    J P call draws R n (.cond (.tmp c) x y) S A Q := by
  intro t ht
  have hv := (ht.2 c _ e).2
  cases b with
  | true =>
    obtain ⟨z, t', A', S', k1, k2, k3⟩ := h1 rfl t ht
    refine ⟨z, t', A', S', ?_, k2, k3⟩
    simp only [acode, Abs.aeval, hv]
    exact k1
  | false =>
    obtain ⟨z, t', A', S', k1, k2, k3⟩ := h2 rfl t ht
    refine ⟨z, t', A', S', ?_, k2, k3⟩
    simp only [acode, Abs.aeval, hv]
    exact k1
def blockQ (id : Nat) (Q : X → Slots → AW → Prop) : X → Slots → AW → Prop
  | .e i, S, A => if i = id then Q .n S A else Q (.e i) S A
  | .n, S, A => Q .n S A
  | .r, S, A => Q .r S A
theorem J.block {id : Nat} {body : Code} {Q : X → Slots → AW → Prop} (h : J P call draws R n body S A (blockQ id Q)) : J P call draws R n (.block id body) S A Q := by
  intro t ht
  obtain ⟨x, t', A', S', h1, h2, h3⟩ := h t ht
  simp only [acode, h1]
  cases x with
  | n => exact ⟨_, _, _, _, rfl, h2, h3⟩
  | r => exact ⟨_, _, _, _, rfl, h2, h3⟩
  | e i =>
    simp only [bif_beq]
    simp only [blockQ] at h3
    by_cases hi : i = id
    · rw [if_pos hi] at h3 ⊢
      exact ⟨_, _, _, _, rfl, h2, h3⟩
    · rw [if_neg hi] at h3 ⊢
      exact ⟨_, _, _, _, rfl, h2, h3⟩
theorem J.loop {body : Code} {Q : X → Slots → AW → Prop} (I : Nat → Slots → AW → Prop) (k : Nat) (hk : k ≤ R) (h0 : I k S A)
    (hstep : ∀ k S A, I k S A → ∃ k', k = k' + 1 ∧ J P call draws R n body S A fun x S' A' => match x with | .n => I k' S' A' | x => Q x S' A') : J P call draws R n (.loop body) S A Q := by
  have main : ∀ (m k : Nat), k ≤ m → ∀ S A, I k S A → ∀ t, Has n S t → ∃ x t' A' S', iter (acode P call draws R body) m t A = some (x, t', A') ∧ Has n S' t' ∧ Q x S' A' := by
    intro m
    induction m with
    | zero =>
      intro k hk S A hI t ht
      obtain ⟨k', e, _⟩ := hstep k S A hI
      omega
    | succ m ih =>
      intro k hk S A hI t ht
      obtain ⟨k', e, hJ⟩ := hstep k S A hI
      obtain ⟨x, t', A', S', h1, h2, h3⟩ := hJ t ht
      unfold iter
      rw [h1]
      cases x with
      | n => exact ih k' (by omega) S' A' h3 t' h2
      | e id => exact ⟨_, _, _, _, rfl, h2, h3⟩
      | r => exact ⟨_, _, _, _, rfl, h2, h3⟩
  intro t ht
  exact main R k hk S A h0 t ht
def eresult (P : Program) (S : Slots) (A : AW) : ResultVar → Option Value
  | .tmp t => look S t
  | .cell a t => match look S a with
    | some (.pointer (some ad)) => aload P A t ad
    | _ => none
def eresults (P : Program) (S : Slots) (A : AW) : List ResultVar → Option (List Value)
  | [] => some []
  | r :: l => match eresult P S A r, eresults P S A l with
    | some v, some vs => some (v :: vs)
    | _, _ => none
theorem eresults_sound {t : Array Value} (h : Has n S t) : ∀ {l : List ResultVar} {vs : List Value}, eresults P S A l = some vs → aresults P t A l = some vs
  | [], vs, e => e
  | r :: l, vs, e => by
    unfold eresults at e
    cases h1 : eresult P S A r with
    | none => rw [h1] at e; simp at e
    | some v =>
      cases h2 : eresults P S A l with
      | none => rw [h1, h2] at e; simp at e
      | some vs' =>
        rw [h1, h2] at e
        have hr : aresult P t A r = some v := by
          cases r with
          | tmp i =>
            simp only [eresult] at h1
            simp only [aresult]
            rw [(h.2 i v h1).2]
          | cell a ty =>
            simp only [eresult] at h1
            split at h1
            · rename_i ad ha
              simp only [aresult]
              rw [(h.2 a _ ha).2]
              exact h1
            · cases h1
        unfold aresults
        rw [hr, eresults_sound h h2]
        exact e
def argsS : Nat → List Value → Slots
  | _, [] => []
  | i, v :: l => (i, v) :: argsS (i + 1) l
theorem look_argsS : ∀ {l : List Value} {i j : Nat} {v : Value}, look (argsS i l) j = some v → i ≤ j ∧ l[j - i]? = some v
  | [], i, j, v, h => by simp [argsS, look] at h
  | x :: l, i, j, v, h => by
    simp only [argsS, look] at h
    cases hb : Nat.beq i j with
    | true =>
      rw [hb] at h
      have := Nat.eq_of_beq_eq_true hb
      subst this
      simpa using h
    | false =>
      rw [hb] at h
      obtain ⟨h1, h2⟩ := look_argsS h
      refine ⟨by omega, ?_⟩
      rw [show j - i = (j - (i + 1)) + 1 from by omega]
      simpa using h2
theorem has_init {args : List Value} {m : Nat} (h : args.length ≤ m) : Has m (argsS 0 args) (initT args m) := by
  refine ⟨by simp [initT]; omega, ?_⟩
  intro i v hv
  obtain ⟨_, h2⟩ := look_argsS hv
  rw [Nat.sub_zero] at h2
  have hi := (List.getElem?_eq_some_iff.1 h2).1
  refine ⟨by omega, ?_⟩
  rw [getS_eq, initT_eq, Array.getD_eq_getD_getElem?]
  have : (args.toArray ++ Array.replicate (m - args.length) undef)[i]? = some v := by
    rw [Array.getElem?_append_left (by simpa using hi)]
    simpa using h2
  rw [this]; rfl
def Ends (P : Program) (rs : List ResultVar) (K : Value → AW → Prop) : X → Slots → AW → Prop
  | .e _, _, _ => False
  | .n, S, A => ∃ vs, eresults P S A rs = some vs ∧ K (atuple vs) A
  | .r, S, A => ∃ vs, eresults P S A rs = some vs ∧ K (atuple vs) A
theorem J.fn {pre : FuncId → Option (List Value → AW → Option (Value × AW))} {dr : CallF → Array Oper → Array Value → AW → Option (Array Value × AW)} {m : Nat} {f : FuncId} {fn : Func} {body : Code} {args : List Value} {K : Value → AW → Prop}
    (hp : pre f = none) (hf : P.funcs[f]? = some fn) (hb : fn.body = some body) (hl : args.length ≤ fn.ntmps)
    (h : J P (acall P pre dr R m) (dr (acall P pre dr R m)) R fn.ntmps body (argsS 0 args) A (Ends P fn.results.toList K)) :
    ∃ v A', acall P pre dr R (m + 1) f args A = some (v, A') ∧ K v A' := by
  obtain ⟨x, t', A', S', h1, h2, h3⟩ := h _ (has_init hl)
  unfold acall
  rw [hp]
  simp only [hf, hb, h1]
  cases x with
  | e id => exact h3.elim
  | n =>
    obtain ⟨vs, e1, e2⟩ := h3
    simp only [eresults_sound h2 e1]
    exact ⟨_, _, rfl, e2⟩
  | r =>
    obtain ⟨vs, e1, e2⟩ := h3
    simp only [eresults_sound h2 e1]
    exact ⟨_, _, rfl, e2⟩
theorem thenJ_n {b : Code} {Q : X → Slots → AW → Prop} (h : J P call draws R n b S A Q) : thenJ P call draws R n b Q .n S A := h
theorem thenJ_r {b : Code} {Q : X → Slots → AW → Prop} (h : Q .r S A) : thenJ P call draws R n b Q .r S A := h
theorem thenJ_e {b : Code} {Q : X → Slots → AW → Prop} {k : Nat} (h : Q (.e k) S A) : thenJ P call draws R n b Q (.e k) S A := h
theorem blockQ_n {id : Nat} {Q : X → Slots → AW → Prop} (h : Q .n S A) : blockQ id Q .n S A := h
theorem blockQ_r {id : Nat} {Q : X → Slots → AW → Prop} (h : Q .r S A) : blockQ id Q .r S A := h
theorem blockQ_hit {id : Nat} {Q : X → Slots → AW → Prop} (h : Q .n S A) : blockQ id Q (.e id) S A := by
  show (if id = id then _ else _)
  rw [if_pos rfl]; exact h
def JL (P : Program) (call : CallF) (draws : Array Oper → Array Value → AW → Option (Array Value × AW)) (R n k : Nat) (body : Code) (S : Slots) (A : AW) (Q : X → Slots → AW → Prop) : Prop :=
  ∀ t, Has n S t → ∃ x t' A' S', iter (acode P call draws R body) k t A = some (x, t', A') ∧ Has n S' t' ∧ Q x S' A'
def loopQ (P : Program) (call : CallF) (draws : Array Oper → Array Value → AW → Option (Array Value × AW)) (R n k : Nat) (body : Code) (Q : X → Slots → AW → Prop) : X → Slots → AW → Prop
  | .n, S, A => JL P call draws R n k body S A Q
  | .e i, S, A => Q (.e i) S A
  | .r, S, A => Q .r S A
theorem J.unroll {body : Code} {Q : X → Slots → AW → Prop} (h : JL P call draws R n R body S A Q) : J P call draws R n (.loop body) S A Q := h
theorem JL.step {body : Code} {k : Nat} {Q : X → Slots → AW → Prop} (h : J P call draws R n body S A (loopQ P call draws R n k body Q)) : JL P call draws R n (k + 1) body S A Q := by
  intro t ht
  obtain ⟨x, t', A', S', h1, h2, h3⟩ := h t ht
  unfold iter
  rw [h1]
  cases x with
  | n => exact h3 t' h2
  | e id => exact ⟨_, _, _, _, rfl, h2, h3⟩
  | r => exact ⟨_, _, _, _, rfl, h2, h3⟩
theorem loopQ_n {body : Code} {k : Nat} {Q : X → Slots → AW → Prop} (h : JL P call draws R n k body S A Q) : loopQ P call draws R n k body Q .n S A := h
theorem loopQ_e {body : Code} {k id : Nat} {Q : X → Slots → AW → Prop} (h : Q (.e id) S A) : loopQ P call draws R n k body Q (.e id) S A := h
def loopI (I : Nat → Slots → AW → Prop) (k : Nat) (Q : X → Slots → AW → Prop) : X → Slots → AW → Prop
  | .n, S, A => I k S A
  | .e i, S, A => Q (.e i) S A
  | .r, S, A => Q .r S A
theorem J.loopI {body : Code} {Q : X → Slots → AW → Prop} (I : Nat → Slots → AW → Prop) (k : Nat) (hk : k ≤ R) (h0 : I k S A)
    (hstep : ∀ k S A, I (k + 1) S A → J P call draws R n body S A (Abs.loopI I k Q)) (hpos : ∀ S A, I 0 S A → False) : J P call draws R n (.loop body) S A Q := by
  refine J.loop I k hk h0 fun k S A hI => ?_
  cases k with
  | zero => exact (hpos S A hI).elim
  | succ k =>
    refine ⟨k, rfl, J.mono (hstep k S A hI) ?_⟩
    intro x S' A' hx
    cases x <;> exact hx
theorem loopI_n {I : Nat → Slots → AW → Prop} {k : Nat} {Q : X → Slots → AW → Prop} (h : I k S A) : Abs.loopI I k Q .n S A := h
theorem loopI_e {I : Nat → Slots → AW → Prop} {k id : Nat} {Q : X → Slots → AW → Prop} (h : Q (.e id) S A) : Abs.loopI I k Q (.e id) S A := h
theorem loopI_r {I : Nat → Slots → AW → Prop} {k : Nat} {Q : X → Slots → AW → Prop} (h : Q .r S A) : Abs.loopI I k Q .r S A := h
theorem Ends_r {rs : List ResultVar} {K : Value → AW → Prop} {vs : List Value} (e : eresults P S A rs = some vs) (h : K (atuple vs) A) : Ends P rs K .r S A := ⟨vs, e, h⟩
end
end Go.Abs
