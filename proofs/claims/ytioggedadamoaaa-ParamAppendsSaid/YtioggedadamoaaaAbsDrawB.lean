/- Regions that draw their order: soundness. -/
import Derived.Test.YtioggedadamoaaaAbsDraw
set_option autoImplicit false
set_option linter.unusedVariables false
set_option linter.unusedSimpArgs false
namespace Go.Abs
open Go.RowKit
def stT (sts : List St) (t1 : Array Value) (i : Nat) : Array Value := match sts[i]? with | some s => s.t | none => t1
def stA (sts : List St) (A1 : AW) (i : Nat) : AW := match sts[i]? with | some s => s.A | none => A1
def stR (sts : List St) (i : Nat) : Option Value := (sts[i]?).bind (·.r)
section
variable {P : Program} {call : CallF}
theorem stT_zero (s : St) (l : List St) (t1 : Array Value) : stT (s :: l) t1 0 = s.t := rfl
theorem stT_succ (s : St) (l : List St) (t1 : Array Value) (i : Nat) : stT (s :: l) t1 (i + 1) = stT l t1 i := by simp [stT]
theorem stA_zero (s : St) (l : List St) (A1 : AW) : stA (s :: l) A1 0 = s.A := rfl
theorem stA_succ (s : St) (l : List St) (A1 : AW) (i : Nat) : stA (s :: l) A1 (i + 1) = stA l A1 i := by simp [stA]
theorem stR_zero (s : St) (l : List St) : stR (s :: l) 0 = s.r := rfl
theorem stR_succ (s : St) (l : List St) (i : Nat) : stR (s :: l) (i + 1) = stR l i := by simp [stR]
def StepOk (P : Program) (call : CallF) (ops : Array Oper) (o : Oper) (t : Array Value) (A : AW) (r : Option Value) (t' : Array Value) (A' : AW) : Prop :=
  Region.wanted o (yielded ops t) = r.isSome ∧ t' = aput t o.dst (r.getD undef) ∧ (∀ v, r = some v → aop P call t o A = some (v, A') ∧ (isE P o = true ∨ quiet A' A = true)) ∧ (r = none → A' = A)
theorem trace_spec (ops : Array Oper) : ∀ (l : List Oper) (t : Array Value) (A : AW) (sts : List St) (t1 : Array Value) (A1 : AW), trace P call ops l t A = some (sts, t1, A1) →
    sts.length = l.length ∧ stT sts t1 0 = t ∧ stA sts A1 0 = A ∧
    ∀ i o, l[i]? = some o → StepOk P call ops o (stT sts t1 i) (stA sts A1 i) (stR sts i) (stT sts t1 (i + 1)) (stA sts A1 (i + 1))
  | [], t, A, sts, t1, A1, e => by
    simp only [trace, Option.some.injEq, Prod.mk.injEq] at e
    obtain ⟨rfl, rfl, rfl⟩ := e
    exact ⟨rfl, rfl, rfl, fun i o h => by simp at h⟩
  | o :: l, t, A, sts, t1, A1, e => by
    unfold trace at e
    have go : ∀ (r : Option Value) (A' : AW), StepOk P call ops o t A r (aput t o.dst (r.getD undef)) A' → (match trace P call ops l (aput t o.dst (r.getD undef)) A' with
        | some (l, q) => some (⟨t, A, r⟩ :: l, q)
        | none => none) = some (sts, t1, A1) → sts.length = (o :: l).length ∧ stT sts t1 0 = t ∧ stA sts A1 0 = A ∧
        ∀ i o', (o :: l)[i]? = some o' → StepOk P call ops o' (stT sts t1 i) (stA sts A1 i) (stR sts i) (stT sts t1 (i + 1)) (stA sts A1 (i + 1)) := by
      intro r A' hstep e
      cases ht : trace P call ops l (aput t o.dst (r.getD undef)) A' with
      | none => rw [ht] at e; simp at e
      | some q =>
        obtain ⟨l2, t2, A2⟩ := q
        rw [ht] at e
        simp only [Option.some.injEq, Prod.mk.injEq] at e
        obtain ⟨rfl, rfl, rfl⟩ := e
        obtain ⟨h1, h2, h3, h4⟩ := trace_spec ops l _ A' l2 t2 A2 ht
        refine ⟨by simp [h1], rfl, rfl, ?_⟩
        intro i o' hi
        cases i with
        | zero =>
          simp only [List.getElem?_cons_zero, Option.some.injEq] at hi
          subst hi
          rw [stT_zero, stA_zero, stR_zero, stT_succ, stA_succ, h2, h3]
          exact hstep
        | succ i =>
          rw [stT_succ, stA_succ, stR_succ, stT_succ, stA_succ]
          exact h4 i o' (by simpa using hi)
    cases hw : Region.wanted o (yielded ops t) with
    | false =>
      rw [hw] at e
      simp only [cond_false] at e
      exact go none A ⟨by simp [hw], rfl, by simp, fun _ => rfl⟩ e
    | true =>
      rw [hw] at e
      simp only [cond_true] at e
      cases ho : aop P call t o A with
      | none => rw [ho] at e; simp at e
      | some va =>
        obtain ⟨v, A'⟩ := va
        rw [ho] at e
        simp only at e
        cases hb : (isE P o || quiet A' A) with
        | false => rw [hb] at e; simp at e
        | true =>
          rw [hb] at e
          simp only [cond_true] at e
          refine go (some v) A' ⟨by simp [hw], rfl, ?_, by simp⟩ e
          intro u hu
          obtain rfl := Option.some.inj hu
          refine ⟨ho, ?_⟩
          simp only [Bool.or_eq_true] at hb
          exact hb
theorem aput_size (t : Array Value) (d : Option Tmp) (v : Value) : (aput t d v).size = t.size := by cases d <;> simp [aput, setS_eq]
theorem aput_getD (t : Array Value) (d : Option Tmp) (v : Value) (s : Tmp) : (aput t d v).getD s undef = if d = some s ∧ s < t.size then v else t.getD s undef := by
  cases d with
  | none => simp [aput]
  | some d =>
    simp only [aput, setS_eq, Array.getD_eq_getD_getElem?]
    by_cases h : d = s
    · subst h
      by_cases hl : d < t.size
      · simp [hl]
      · simp [hl]
    · rw [Array.getElem?_setIfInBounds_ne h]
      simp [h]
def lw (ops : Array Oper) (D : Nat → Bool) (s : Tmp) : Nat → Nat
  | 0 => 0
  | j + 1 => if D j = true ∧ ((ops[j]?).bind (·.dst)) = some s then j + 1 else lw ops D s j
theorem lw_le (ops : Array Oper) (D : Nat → Bool) (s : Tmp) : ∀ n, lw ops D s n ≤ n
  | 0 => Nat.le_refl _
  | n + 1 => by
    unfold lw
    split
    · exact Nat.le_refl _
    · exact Nat.le_succ_of_le (lw_le ops D s n)
theorem lw_pos (ops : Array Oper) (D : Nat → Bool) (s : Tmp) : ∀ n, 0 < lw ops D s n → D (lw ops D s n - 1) = true ∧ ((ops[lw ops D s n - 1]?).bind (·.dst)) = some s
  | 0, h => by simp [lw] at h
  | n + 1, h => by
    unfold lw at h ⊢
    split
    · rename_i hc; simpa using hc
    · rename_i hc; rw [if_neg hc] at h; exact lw_pos ops D s n h
theorem lw_above (ops : Array Oper) (D : Nat → Bool) (s : Tmp) : ∀ n i, lw ops D s n ≤ i → i < n → ¬ (D i = true ∧ ((ops[i]?).bind (·.dst)) = some s)
  | 0, i, _, h => by omega
  | n + 1, i, h1, h2 => by
    unfold lw at h1
    split at h1
    · omega
    · rename_i hc
      by_cases hi : i = n
      · subst hi; exact hc
      · exact lw_above ops D s n i h1 (by omega)
theorem lw_eq (ops : Array Oper) (D : Nat → Bool) (s : Tmp) {n p : Nat} (h : p < n) (hp : D p = true ∧ ((ops[p]?).bind (·.dst)) = some s) (ha : ∀ i, p < i → i < n → ¬ (D i = true ∧ ((ops[i]?).bind (·.dst)) = some s)) : lw ops D s n = p + 1 := by
  have h1 : ¬ lw ops D s n ≤ p := fun hle => lw_above ops D s n p hle h hp
  have h2 : lw ops D s n ≤ p + 1 := by
    rcases Nat.lt_or_ge (p + 1) (lw ops D s n) with hlt | hge
    · exfalso
      have hpos := lw_pos ops D s n (by omega)
      have hle := lw_le ops D s n
      exact ha _ (by omega) (by omega) hpos
    · exact hge
  omega
theorem lw_congr (ops : Array Oper) (D E : Nat → Bool) (s : Tmp) : ∀ n, (∀ i, i < n → ((D i = true ∧ ((ops[i]?).bind (·.dst)) = some s) ↔ (E i = true ∧ ((ops[i]?).bind (·.dst)) = some s))) → lw ops D s n = lw ops E s n
  | 0, _ => rfl
  | n + 1, h => by
    unfold lw
    have hn := h n (by omega)
    have ih := lw_congr ops D E s n fun i hi => h i (by omega)
    by_cases hc : D n = true ∧ ((ops[n]?).bind (·.dst)) = some s
    · rw [if_pos hc, if_pos (hn.1 hc)]
    · rw [if_neg hc, if_neg (fun k => hc (hn.2 k)), ih]
theorem hasN_mem {n : Nat} : ∀ {l : List Nat}, hasN n l = true ↔ n ∈ l
  | [] => by simp [hasN]
  | m :: l => by
    simp only [hasN, Bool.or_eq_true, List.mem_cons, hasN_mem]
    constructor
    · rintro (h | h)
      · exact .inl (Nat.eq_of_beq_eq_true h)
      · exact .inr h
    · rintro (rfl | h)
      · exact .inl (Nat.beq_refl _)
      · exact .inr h
theorem dstIn_spec {o : Oper} {l : List Tmp} {d : Tmp} (h : o.dst = some d) (hm : d ∈ l) : dstIn o l = true := by
  unfold dstIn; rw [h]; exact hasN_mem.2 hm
theorem slotsRow_spec {ops : Array Oper} {m : Nat} {o : Oper} : ∀ {l : List Oper} {i : Nat}, slotsRow ops m o i l = true → ∀ k x, l[k]? = some x → clash ops x o = true → m.testBit (i + k) = true
  | [], i, _, k, x, hx, _ => by simp at hx
  | y :: l, i, h, k, x, hx, hc => by
    simp only [slotsRow, Bool.and_eq_true, Bool.or_eq_true, Bool.not_eq_true'] at h
    cases k with
    | zero =>
      simp only [List.getElem?_cons_zero, Option.some.injEq] at hx
      subst hx
      rcases h.1 with h1 | h1
      · rw [h1] at hc; cases hc
      · exact h1
    | succ k =>
      have := slotsRow_spec h.2 k x (by simpa using hx) hc
      rwa [show i + 1 + k = i + (k + 1) from by omega] at this
theorem slotsOk_spec {ops : Array Oper} {ms : List Nat} : ∀ {l : List Oper} {j : Nat}, slotsOk ops ms j l = true → ∀ k o, l[k]? = some o → slotsRow ops (ms.getD (j + k) 0) o 0 (ops.toList.take (j + k)) = true
  | [], j, _, k, o, ho => by simp at ho
  | y :: l, j, h, k, o, ho => by
    simp only [slotsOk, Bool.and_eq_true] at h
    cases k with
    | zero =>
      simp only [List.getElem?_cons_zero, Option.some.injEq] at ho
      subst ho
      exact h.1
    | succ k =>
      have := slotsOk_spec h.2 k o (by simpa using ho)
      rwa [show j + 1 + k = j + (k + 1) from by omega] at this
theorem clash_bef {ops : Array Oper} (h : slotsOk ops (masks ops) 0 ops.toList = true) {i j : Nat} {x o : Oper} (hij : i < j) (hx : ops[i]? = some x) (ho : ops[j]? = some o) (hc : clash ops x o = true) : Bef ops i j := by
  have h1 := slotsOk_spec h j o (by simpa using ho)
  rw [Nat.zero_add] at h1
  have h2 := slotsRow_spec h1 i x (by rw [List.getElem?_take_of_lt hij]; simpa using hx) hc
  rw [Nat.zero_add] at h2
  exact masks_bef ops h2
theorem edgesOk_spec : ∀ {l : List Oper} {i : Nat}, edgesOk i l = true → ∀ k o, l[k]? = some o → ∀ e ∈ o.after, Region.binds .any e = true → e.on < i + k
  | [], i, _, k, o, ho => by simp at ho
  | y :: l, i, h, k, o, ho => by
    simp only [edgesOk, Bool.and_eq_true, List.all_eq_true] at h
    cases k with
    | zero =>
      simp only [List.getElem?_cons_zero, Option.some.injEq] at ho
      subst ho
      intro e he hb
      have := h.1 e (by simpa using he)
      rw [hb] at this
      simp only [Bool.not_true, Bool.false_or] at this
      simp [Nat.blt] at this
      omega
    | succ k =>
      intro e he hb
      have := edgesOk_spec h.2 k o (by simpa using ho) e he hb
      omega
theorem chainOk_spec {ms : List Nat} : ∀ {l : List Nat}, chainOk ms l = true → ∀ k i j, l[k]? = some i → l[k + 1]? = some j → (ms.getD j 0).testBit i = true
  | [], _, k, i, j, h1, _ => by simp at h1
  | [a], _, k, i, j, _, h2 => by simp at h2
  | a :: b :: l, h, k, i, j, h1, h2 => by
    simp only [chainOk, Bool.and_eq_true] at h
    cases k with
    | zero =>
      simp only [List.getElem?_cons_zero, Option.some.injEq, Nat.zero_add, List.getElem?_cons_succ] at h1 h2
      subst h1
      subst h2
      exact h.1
    | succ k => exact chainOk_spec h.2 k i j (by simpa using h1) (by simpa using h2)
theorem rowsOk_spec {ms es : List Nat} {sn : Nat → AW} : ∀ {l : List Oper} {sts : List St} {j : Nat}, rowsOk P call ms es sn j l sts = true → ∀ k o s, l[k]? = some o → sts[k]? = some s → rowOk P call ms es sn (j + k) o s = true
  | [], sts, j, _, k, o, s, ho, _ => by simp at ho
  | y :: l, [], j, _, k, o, s, _, hs => by simp at hs
  | y :: l, z :: r, j, h, k, o, s, ho, hs => by
    simp only [rowsOk, Bool.and_eq_true] at h
    cases k with
    | zero =>
      simp only [List.getElem?_cons_zero, Option.some.injEq] at ho hs
      subst ho
      subst hs
      exact h.1
    | succ k =>
      have := rowsOk_spec h.2 k o s (by simpa using ho) (by simpa using hs)
      rwa [show j + 1 + k = j + (k + 1) from by omega] at this
theorem effs_succ (ops : Array Oper) (j : Nat) : effs P ops (j + 1) = effs P ops j ++ (if isEat P ops j then [j] else []) := by
  unfold effs
  rw [List.range_succ, List.filter_append]
  congr 1
  cases h : isEat P ops j <;> simp [h]
theorem effs_prefix (ops : Array Oper) {j n : Nat} (h : j ≤ n) : ∃ r, effs P ops n = effs P ops j ++ r := by
  induction n with
  | zero => exact ⟨[], by rw [show j = 0 from by omega]; simp⟩
  | succ n ih =>
    by_cases hj : j = n + 1
    · subst hj; exact ⟨[], by simp⟩
    · obtain ⟨r, hr⟩ := ih (by omega)
      exact ⟨r ++ (if isEat P ops n then [n] else []), by rw [effs_succ, hr, List.append_assoc]⟩
theorem effs_lt (ops : Array Oper) {j e : Nat} (h : e ∈ effs P ops j) : e < j ∧ isEat P ops e = true := by
  unfold effs at h
  rw [List.mem_filter, List.mem_range] at h
  exact h
theorem canonK_eq (ops : Array Oper) (j : Nat) : ∀ {n : Nat}, j ≤ n → canonK (effs P ops n) j = (effs P ops j).length := by
  intro n hn
  induction n with
  | zero =>
    have : j = 0 := by omega
    subst this; rfl
  | succ n ih =>
    by_cases hj : j = n + 1
    · subst hj
      unfold canonK
      rw [List.countP_eq_length]
      intro e he
      exact Nat.ble_eq_true_of_le (effs_lt ops he).1
    · have hjn : j ≤ n := by omega
      have hblt : Nat.blt n j = false := by
        cases hb : Nat.blt n j with
        | false => rfl
        | true => have := Nat.le_of_ble_eq_true hb; omega
      rw [effs_succ]
      unfold canonK
      rw [List.countP_append]
      have h1 := ih hjn
      unfold canonK at h1
      rw [h1]
      cases isEat P ops n <;> simp [hblt]
theorem effs_at (ops : Array Oper) {j n : Nat} (h : j < n) (hE : isEat P ops j = true) : (effs P ops n)[(effs P ops j).length]? = some j := by
  obtain ⟨r, hr⟩ := effs_prefix (P := P) ops (show j + 1 ≤ n from h)
  rw [hr, effs_succ, hE]
  simp
theorem snap_spec (ops : Array Oper) {sts : List St} {t1 : Array Value} {A1 : AW} {A0 : AW} (h0 : stA sts A1 0 = A0) (hstep : ∀ i o, ops[i]? = some o → isE P o = false → stA sts A1 (i + 1) = stA sts A1 i) :
    ∀ j, j ≤ ops.size → snap sts A1 A0 (effs P ops ops.size) (effs P ops j).length = stA sts A1 j
  | 0, _ => by
    have : effs P ops 0 = [] := rfl
    rw [this]
    exact h0.symm
  | j + 1, hj => by
    have ih := snap_spec ops (t1 := t1) h0 hstep j (by omega)
    have hlt : j < ops.size := by omega
    have hget : ops[j]? = some ops[j] := Array.getElem?_eq_getElem hlt
    rw [effs_succ]
    cases hE : isEat P ops j with
    | false =>
      simp only [Bool.false_eq_true, if_false, List.append_nil]
      rw [ih]
      refine (hstep j _ hget ?_).symm
      unfold isEat at hE
      rw [hget] at hE
      exact hE
    | true =>
      simp only [if_true, List.length_append, List.length_cons, List.length_nil, Nat.zero_add]
      show (match (effs P ops ops.size)[(effs P ops j).length]? with | none => A1 | some e => (match sts[e+1]? with | some s => s.A | none => A1)) = _
      rw [effs_at ops hlt hE]
      rfl
end
end Go.Abs
