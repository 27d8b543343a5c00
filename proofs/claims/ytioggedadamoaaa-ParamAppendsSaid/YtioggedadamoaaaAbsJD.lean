/- Regions that draw their order, the slots known in part. -/
import Derived.Test.YtioggedadamoaaaAbsO
set_option autoImplicit false
set_option linter.unusedVariables false
set_option linter.unusedSimpArgs false
namespace Go.Abs
open Go.RowKit
section
variable {P : Program} {call : CallF} {n : Nat} {ops : Array Oper}
inductive DR (P : Program) (call : CallF) (n : Nat) (ops : Array Oper) (Hs : List AW) : Nat → Nat → Slots → Slots → Prop
  | done {i k : Nat} {S : Slots} (h : Nat.ble ops.size i = true) : DR P call n ops Hs i k S S
  | weak {i k : Nat} {S S' : Slots} (keep : List Nat) {S2 : Slots} (e : restr keep S = S2) (h : DR P call n ops Hs i k S2 S') : DR P call n ops Hs i k S S'
  | cast {i k : Nat} {S S' : Slots} {S2 : Slots} (e : S = S2) (h : DR P call n ops Hs i k S2 S') : DR P call n ops Hs i k S S'
  | skip {i k : Nat} {S S' : Slots} {o : Oper} (ho : ops[i]? = some o) (hw : ewant ops S o = some false) (hE : isE P o = false) (h : DR P call n ops Hs (i + 1) k (eput n S o.dst undef) S') : DR P call n ops Hs i k S S'
  | skipE {i k : Nat} {S S' : Slots} {o : Oper} {A : AW} (ho : ops[i]? = some o) (hw : ewant ops S o = some false) (hE : isE P o = true) (hA : Hs[k]? = some A) (hA1 : Hs[k + 1]? = some A) (h : DR P call n ops Hs (i + 1) (k + 1) (eput n S o.dst undef) S') : DR P call n ops Hs i k S S'
  | pure {i k : Nat} {S S' : Slots} {o : Oper} {v : Value} {A : AW} (ho : ops[i]? = some o) (hw : ewant ops S o = some true) (hE : isE P o = false) (hp : isPure P o = true) (hA : Hs[k]? = some A) (e : eop P call n S o A = some (v, A))
      (h : DR P call n ops Hs (i + 1) k (eput n S o.dst v) S') : DR P call n ops Hs i k S S'
  | eff {i k : Nat} {S S' : Slots} {o : Oper} {v : Value} {A A1 : AW} (ho : ops[i]? = some o) (hw : ewant ops S o = some true) (hE : isE P o = true) (hA : Hs[k]? = some A) (hA1 : Hs[k + 1]? = some A1) (e : eop P call n S o A = some (v, A1))
      (h : DR P call n ops Hs (i + 1) (k + 1) (eput n S o.dst v) S') : DR P call n ops Hs i k S S'
  | read {i k : Nat} {S S' : Slots} {o : Oper} {v : Value} {A : AW} (ho : ops[i]? = some o) (hw : ewant ops S o = some true) (hE : isE P o = false) (hA : Hs[k]? = some A) (e : eop P call n S o A = some (v, A)) (hb : beqV v v = true)
      (hoth : ∀ k' A', k' ≠ k → k' ≤ (effs P ops ops.size).length → mayK (masks ops) (effs P ops ops.size) i k' = true → Hs[k']? = some A' → eop P call n S o A' = some (v, A'))
      (h : DR P call n ops Hs (i + 1) k (eput n S o.dst v) S') : DR P call n ops Hs i k S S'
theorem quiet_refl (A : AW) : quiet A A = true := by
  unfold quiet
  rw [Nat.beq_refl]
  cases A.nx with
  | none => rfl
  | some r => simp
def StsOk (P : Program) (call : CallF) (ops : Array Oper) (Hs : List AW) (i : Nat) (sts : List St) : Prop :=
  sts.length + i = ops.size ∧ ∀ idx s, sts[idx]? = some s → ∃ o, ops[i + idx]? = some o ∧ Hs[(effs P ops (i + idx)).length]? = some s.A ∧
    ∀ v, s.r = some v → isE P o = true ∨ isPure P o = true ∨ ∀ k A', k ≠ (effs P ops (i + idx)).length → k ≤ (effs P ops ops.size).length → mayK (masks ops) (effs P ops ops.size) (i + idx) k = true → Hs[k]? = some A' → sameAt P call s.t o v A' = true
theorem sts_cons {Hs : List AW} {i : Nat} {s : St} {l : List St} {o : Oper} (h : StsOk P call ops Hs (i + 1) l) (ho : ops[i]? = some o) (hA : Hs[(effs P ops i).length]? = some s.A)
    (hr : ∀ v, s.r = some v → isE P o = true ∨ isPure P o = true ∨ ∀ k A', k ≠ (effs P ops i).length → k ≤ (effs P ops ops.size).length → mayK (masks ops) (effs P ops ops.size) i k = true → Hs[k]? = some A' → sameAt P call s.t o v A' = true) :
    StsOk P call ops Hs i (s :: l) := by
  refine ⟨by have := h.1; simp only [List.length_cons]; omega, ?_⟩
  intro idx s' hs
  cases idx with
  | zero =>
    simp only [List.getElem?_cons_zero, Option.some.injEq] at hs
    subst hs
    exact ⟨o, ho, hA, hr⟩
  | succ idx =>
    simp only [List.getElem?_cons_succ] at hs
    have := h.2 idx s' hs
    rwa [show i + 1 + idx = i + (idx + 1) from by omega] at this
theorem effs_len_succ {i : Nat} {o : Oper} (ho : ops[i]? = some o) : (effs P ops (i + 1)).length = (effs P ops i).length + if isE P o = true then 1 else 0 := by
  rw [effs_succ]
  have : isEat P ops i = isE P o := by unfold isEat; rw [ho]
  rw [this]
  cases isE P o <;> simp
theorem DR.sound {Hs : List AW} {i k : Nat} {S S' : Slots} (h : DR P call n ops Hs i k S S') : k = (effs P ops i).length → (∃ A, Hs[(effs P ops ops.size).length]? = some A) → i ≤ ops.size → ∀ t A, Hs[k]? = some A → Has n S t →
    ∃ sts t1 A1, trace P call ops (ops.toList.drop i) t A = some (sts, t1, A1) ∧ Has n S' t1 ∧ Hs[(effs P ops ops.size).length]? = some A1 ∧ StsOk P call ops Hs i sts := by
  have hdrop : ∀ {i : Nat} {o : Oper}, ops[i]? = some o → ops.toList.drop i = o :: ops.toList.drop (i + 1) := by
    intro i o ho
    have hlt := (Array.getElem?_eq_some_iff.1 ho).1
    rw [List.drop_eq_getElem_cons (by simpa using hlt)]
    congr 1
    simpa using (Array.getElem?_eq_some_iff.1 ho).2
  induction h with
  | done hn =>
    intro hk _ hi t A hA ht
    have hs : ops.size ≤ _ := Nat.le_of_ble_eq_true hn
    have hie := Nat.le_antisymm hi hs
    subst hie
    rw [List.drop_of_length_le (by simp)]
    exact ⟨[], t, A, rfl, ht, by rw [← hk]; exact hA, by simp, fun idx s h => by simp at h⟩
  | weak keep e h ih =>
    intro hk hl hi t A hA ht
    exact ih hk hl hi t A hA (by rw [← e]; exact ht.restr keep)
  | cast e h ih =>
    intro hk hl hi t A hA ht
    exact ih hk hl hi t A hA (by rw [← e]; exact ht)
  | skip ho hw hE h ih =>
    intro hk hl hi t A hA ht
    have hlt := (Array.getElem?_eq_some_iff.1 ho).1
    obtain ⟨sts, t1, A1, h1, h2, h3, h4⟩ := ih (by rw [effs_len_succ ho, hE, hk]; rfl) hl (by omega) _ A hA (ht.put _ undef)
    refine ⟨⟨t, A, none⟩ :: sts, t1, A1, ?_, h2, h3, sts_cons h4 ho (by rw [← hk]; exact hA) (fun v hv => by cases hv)⟩
    rw [hdrop ho]
    unfold trace
    rw [ewant_sound ht hw]
    simp only [cond_false, h1]
  | skipE ho hw hE hA0 hA1 h ih =>
    intro hk hl hi t A hA ht
    have hlt := (Array.getElem?_eq_some_iff.1 ho).1
    have hAA : A = _ := Option.some.inj (hA.symm.trans hA0)
    subst hAA
    obtain ⟨sts, t1, A1, h1, h2, h3, h4⟩ := ih (by rw [effs_len_succ ho, hE, hk]; rfl) hl (by omega) _ A hA1 (ht.put _ undef)
    refine ⟨⟨t, A, none⟩ :: sts, t1, A1, ?_, h2, h3, sts_cons h4 ho (by rw [← hk]; exact hA) (fun v hv => by cases hv)⟩
    rw [hdrop ho]
    unfold trace
    rw [ewant_sound ht hw]
    simp only [cond_false, h1]
  | @pure i k S S' o v A0 ho hw hE hp hA0 e h ih =>
    intro hk hl hi t A hA ht
    have hlt := (Array.getElem?_eq_some_iff.1 ho).1
    have hAA : A = _ := Option.some.inj (hA.symm.trans hA0)
    subst hAA
    obtain ⟨sts, t1, A1, h1, h2, h3, h4⟩ := ih (by rw [effs_len_succ ho, hE, hk]; rfl) hl (by omega) _ A hA (ht.put _ _)
    refine ⟨⟨t, A, some v⟩ :: sts, t1, A1, ?_, h2, h3, sts_cons h4 ho (by rw [← hk]; exact hA) (fun v hv => .inr (.inl hp))⟩
    rw [hdrop ho]
    unfold trace
    rw [ewant_sound ht hw, eop_sound ht e]
    simp only [cond_true, quiet_refl, Bool.or_true, h1]
  | @eff i k S S' o v A0 A1' ho hw hE hA0 hA1 e h ih =>
    intro hk hl hi t A hA ht
    have hlt := (Array.getElem?_eq_some_iff.1 ho).1
    have hAA : A = _ := Option.some.inj (hA.symm.trans hA0)
    subst hAA
    obtain ⟨sts, t1, A2, h1, h2, h3, h4⟩ := ih (by rw [effs_len_succ ho, hE, hk]; rfl) hl (by omega) _ _ hA1 (ht.put _ _)
    refine ⟨⟨t, A, some v⟩ :: sts, t1, A2, ?_, h2, h3, sts_cons h4 ho (by rw [← hk]; exact hA) (fun v hv => .inl hE)⟩
    rw [hdrop ho]
    unfold trace
    rw [ewant_sound ht hw, eop_sound ht e]
    simp only [cond_true, hE, Bool.true_or, h1]
  | @read i k S S' o v A0 ho hw hE hA0 e hb hoth h ih =>
    intro hk hl hi t A hA ht
    have hlt := (Array.getElem?_eq_some_iff.1 ho).1
    have hAA : A = _ := Option.some.inj (hA.symm.trans hA0)
    subst hAA
    obtain ⟨sts, t1, A1, h1, h2, h3, h4⟩ := ih (by rw [effs_len_succ ho, hE, hk]; rfl) hl (by omega) _ A hA (ht.put _ _)
    refine ⟨⟨t, A, some v⟩ :: sts, t1, A1, ?_, h2, h3, sts_cons h4 ho (by rw [← hk]; exact hA) (fun u hu => .inr (.inr ?_))⟩
    · rw [hdrop ho]
      unfold trace
      rw [ewant_sound ht hw, eop_sound ht e]
      simp only [cond_true, quiet_refl, Bool.or_true, h1]
    · obtain rfl := Option.some.inj hu
      intro k' A' hk1 hk2 hk3 hk4
      have := eop_sound ht (hoth k' A' (by rw [hk]; exact hk1) hk2 hk3 hk4)
      unfold sameAt
      rw [this]
      simp only [hb, quiet_refl, Bool.and_self]
theorem adraw_of {Hs : List AW} {S S' : Slots} {A A1 : AW} (hs : sOk P ops = true) (h0 : Hs[0]? = some A) (h1 : Hs[(effs P ops ops.size).length]? = some A1) (h : DR P call n ops Hs 0 0 S S') {t : Array Value} (ht : Has n S t) :
    ∃ t', adraw P call ops t A = some (t', A1) ∧ Has n S' t' := by
  obtain ⟨sts, t1, A2, e1, e2, e3, e4⟩ := h.sound rfl ⟨A1, h1⟩ (Nat.zero_le _) t A h0 ht
  have hA : A2 = A1 := Option.some.inj (e3.symm.trans h1)
  subst hA
  refine ⟨t1, ?_, e2⟩
  rw [List.drop_zero] at e1
  unfold adraw
  rw [hs]
  simp only [cond_true, e1]
  have hlen : sts.length = ops.size := by have := e4.1; omega
  have hsnap : ∀ k, k ≤ (effs P ops ops.size).length → Hs[k]? = some (snap sts A2 A (effs P ops ops.size) k) := by
    intro k hk
    cases k with
    | zero => exact h0
    | succ k =>
      have hkl : k < (effs P ops ops.size).length := by omega
      unfold snap
      simp only [List.getElem?_eq_getElem hkl]
      have hel := effs_lt (P := P) ops (List.getElem_mem hkl)
      have hidx : (effs P ops ((effs P ops ops.size)[k] + 1)).length = k + 1 := by
        have hE : isEat P ops (effs P ops ops.size)[k] = true := hel.2
        have hat := effs_at (P := P) ops hel.1 hE
        have hk2 : (effs P ops ops.size)[k]? = some (effs P ops ops.size)[k] := List.getElem?_eq_getElem hkl
        have hnd : (effs P ops ops.size).Nodup := by unfold effs; exact (List.nodup_range).filter _
        have hkk : (effs P ops (effs P ops ops.size)[k]).length = k := by
          have hl2 := (List.getElem?_eq_some_iff.1 hat).1
          exact (List.getElem?_inj hl2 hnd).1 (by rw [hat, hk2])
        rw [effs_succ, hE]
        simp [hkk]
      cases hst : sts[(effs P ops ops.size)[k] + 1]? with
      | some s =>
        obtain ⟨o, _, hA, _⟩ := e4.2 _ s hst
        rw [Nat.zero_add, hidx] at hA
        exact hA
      | none =>
        have hge : sts.length ≤ (effs P ops ops.size)[k] + 1 := by
          rcases Nat.lt_or_ge ((effs P ops ops.size)[k] + 1) sts.length with h | h
          · rw [List.getElem?_eq_getElem h] at hst; cases hst
          · exact h
        have heq : (effs P ops ops.size)[k] + 1 = ops.size := by omega
        rw [heq] at hidx
        rw [← hidx]
        exact h1
  have hrows : rowsOk P call (masks ops) (effs P ops ops.size) (snap sts A2 A (effs P ops ops.size)) 0 ops.toList sts = true := by
    have key : ∀ (l : List Oper) (r : List St) (j : Nat), (∀ idx o s, l[idx]? = some o → r[idx]? = some s → rowOk P call (masks ops) (effs P ops ops.size) (snap sts A2 A (effs P ops ops.size)) (j + idx) o s = true) →
        rowsOk P call (masks ops) (effs P ops ops.size) (snap sts A2 A (effs P ops ops.size)) j l r = true := by
      intro l
      induction l with
      | nil => intro r j _; rfl
      | cons o l ih =>
        intro r j h
        cases r with
        | nil => rfl
        | cons s r =>
          simp only [rowsOk, Bool.and_eq_true]
          refine ⟨by have := h 0 o s rfl rfl; rwa [Nat.add_zero] at this, ih r (j + 1) fun idx o' s' h1 h2 => ?_⟩
          have := h (idx + 1) o' s' (by simpa using h1) (by simpa using h2)
          rwa [show j + (idx + 1) = j + 1 + idx from by omega] at this
    refine key _ _ 0 fun idx o s ho hs2 => ?_
    obtain ⟨o', ho', hA', hr⟩ := e4.2 idx s hs2
    rw [Nat.zero_add] at ho' hA' hr ⊢
    have hoo : o' = o := by
      have : ops[idx]? = some o := by simpa using ho
      exact Option.some.inj (ho'.symm.trans this)
    subst hoo
    unfold rowOk
    cases hsr : s.r with
    | none => rfl
    | some v =>
      simp only [Bool.or_eq_true]
      rcases hr v hsr with h | h | h
      · exact .inl (.inl h)
      · exact .inl (.inr h)
      · refine .inr ?_
        simp only [List.all_eq_true, List.mem_range, Bool.or_eq_true, Bool.not_eq_true']
        intro k hk
        by_cases hc : k = canonK (effs P ops ops.size) idx
        · exact .inl (.inl (by rw [hc]; exact Nat.beq_refl _))
        · cases hm : mayK (masks ops) (effs P ops ops.size) idx k with
          | false => exact .inl (.inr rfl)
          | true =>
            refine .inr (h k _ ?_ (by omega) hm (hsnap k (by omega)))
            have hidx : idx < ops.size := (Array.getElem?_eq_some_iff.1 ho').1
            rw [← canonK_eq (P := P) ops idx (n := ops.size) (by omega)]
            exact hc
  rw [hrows]
  rfl
variable {draws : Array Oper → Array Value → AW → Option (Array Value × AW)} {R : Nat} {S : Slots} {A : AW}
theorem J.draw {id : Nat} {Q : X → Slots → AW → Prop} (Hs : List AW) {A1 : AW} {S' : Slots} (hd : ∀ t r, adraw P call ops t A = some r → draws ops t A = some r) (hs : sOk P ops = true) (h0 : Hs[0]? = some A) (h1 : Hs[(effs P ops ops.size).length]? = some A1)
    (h : DR P call n ops Hs 0 0 S S') (hq : Q .n S' A1) : J P call draws R n (.region id ops true) S A Q := by
  intro t ht
  obtain ⟨t', e, h2⟩ := adraw_of hs h0 h1 h ht
  refine ⟨.n, t', A1, S', ?_, h2, hq⟩
  simp only [acode]
  rw [hd t _ e]
end
end Go.Abs
namespace Go.Abs
section
variable {P : Program} {call : CallF} {n : Nat} {ops : Array Oper}
def drunP (P : Program) (call : CallF) (n : Nat) (ops : Array Oper) : List Oper → Slots → AW → Option Slots
  | [], S, _ => some S
  | o :: l, S, A => bif isE P o then none else
    match ewant ops S o with
    | some true => bif isPure P o then
        match eop P call n S o A with
        | some (v, _) => drunP P call n ops l (eput n S o.dst v) A
        | none => none
      else none
    | some false => drunP P call n ops l (eput n S o.dst undef) A
    | none => none
def drunR (P : Program) (call : CallF) (n : Nat) (ops : Array Oper) (i j : Nat) (keep : List Nat) (S : Slots) (A : AW) : Option Slots :=
  match drunP P call n ops ((ops.toList.drop i).take (j - i)) S A with
  | some S1 => some (restr keep S1)
  | none => none
theorem eop_pure {S : Slots} {o : Oper} (hp : isPure P o = true) {A A1 : AW} {v : Value} (e : eop P call n S o A = some (v, A1)) (A' : AW) : eop P call n S o A' = some (v, A') := by
  unfold eop at e ⊢
  cases hb : opndsIn S o.op.operands.toList with
  | false => rw [hb] at e; cases e
  | true => rw [hb] at e; exact pure_aop hp e A'
theorem DR.runP {Hs : List AW} {k : Nat} {S' : Slots} {A : AW} (hA : Hs[k]? = some A) : ∀ (m i : Nat), i + m ≤ ops.size → ∀ {S S1 : Slots}, drunP P call n ops ((ops.toList.drop i).take m) S A = some S1 → DR P call n ops Hs (i + m) k S1 S' → DR P call n ops Hs i k S S'
  | 0, i, hi, S, S1, e, h => by
    simp only [List.take_zero, drunP, Option.some.injEq] at e
    subst e
    exact h
  | m + 1, i, hi, S, S1, e, h => by
    have hlt : i < ops.size := by omega
    have ho : ops[i]? = some ops[i] := Array.getElem?_eq_getElem hlt
    have hdrop : ops.toList.drop i = ops[i] :: ops.toList.drop (i + 1) := by
      rw [List.drop_eq_getElem_cons (by simpa using hlt)]
      simp
    rw [hdrop, List.take_succ_cons] at e
    unfold drunP at e
    have h' : DR P call n ops Hs (i + 1 + m) k S1 S' := by rwa [show i + 1 + m = i + (m + 1) from by omega]
    cases hE : isE P ops[i] with
    | true => rw [hE] at e; cases e
    | false =>
      rw [hE] at e
      simp only [cond_false] at e
      split at e
      · rename_i hw
        cases hp : isPure P ops[i] with
        | false => rw [hp] at e; cases e
        | true =>
          rw [hp] at e
          simp only [cond_true] at e
          split at e
          · rename_i v A1 he
            exact DR.pure ho hw hE hp hA (eop_pure hp he A) (DR.runP hA m (i + 1) (by omega) e h')
          · cases e
      · rename_i hw
        exact DR.skip ho hw hE (DR.runP hA m (i + 1) (by omega) e h')
      · cases e
theorem DR.run {Hs : List AW} {i k : Nat} {S S' : Slots} {A : AW} (j : Nat) (keep : List Nat) {S2 : Slots} (hA : Hs[k]? = some A) (hij : (Nat.ble i j && Nat.ble j ops.size) = true) (e : drunR P call n ops i j keep S A = some S2) (h : DR P call n ops Hs j k S2 S') : DR P call n ops Hs i k S S' := by
  simp only [Bool.and_eq_true] at hij
  have h1 : i ≤ j := Nat.le_of_ble_eq_true hij.1
  have h2 : j ≤ ops.size := Nat.le_of_ble_eq_true hij.2
  unfold drunR at e
  split at e
  · rename_i S1 he
    simp only [Option.some.injEq] at e
    subst e
    refine DR.runP hA (j - i) i (by omega) he ?_
    rw [show i + (j - i) = j from by omega]
    exact DR.weak keep rfl h
  · cases e
theorem DR.load {Hs : List AW} {i k : Nat} {S S' : Slots} {o : Oper} {t : TypeId} {x : Operand} {ad : Addr} {v : Value} {A : AW} (ho : ops[i]? = some o) (hop : o.op = .load t x) (hw : ewant ops S o = some true) (hA : Hs[k]? = some A) (hin : opndsIn S [x] = true)
    (hv : aeval (arrOf n S) x = some (.pointer (some ad))) (hb : beqV v v = true) (e : ∀ k' A', k' ≤ (effs P ops ops.size).length → (k' = k ∨ mayK (masks ops) (effs P ops ops.size) i k' = true) → Hs[k']? = some A' → aload P A' t ad = some v) (hk : k ≤ (effs P ops ops.size).length)
    (h : DR P call n ops Hs (i + 1) k (eput n S o.dst v) S') : DR P call n ops Hs i k S S' := by
  have key : ∀ A', aload P A' t ad = some v → eop P call n S o A' = some (v, A') := by
    intro A' he
    unfold eop
    have : opndsIn S o.op.operands.toList = true := by rw [hop]; exact hin
    rw [this]
    simp only [cond_true]
    unfold aop
    rw [hop]
    simp only [aev1, hv, he, onV]
  refine DR.read ho hw ?_ hA (key A (e k A hk (.inl rfl) hA)) hb (fun k' A' _ h2 h3 h4 => key A' (e k' A' h2 (.inr h3) h4)) h
  unfold isE
  rw [hop]
theorem adraw2_of {ops : Array Oper} {t : Array Value} {A : AW} {r : Array Value × AW} (h : adraw P call ops t A = some r) : adraw2 P call ops t A = some r := by
  unfold adraw2
  rw [h]
end
theorem beqI_self (x : Int) : beqI x x = true := by cases x <;> simp [beqI]
end Go.Abs
namespace Go.Abs
section
variable {P : Program} {call : CallF} {n : Nat} {S : Slots} {A A1 : AW}
theorem eop_call {o : Oper} {c : Call} {f : FuncId} {vs : List Value} {v : Value} (hc : o.op = .call c) (hf : c.callee = .value (.func f)) (hin : opndsIn S c.args.toList = true) (ha : aevals (arrOf n S) c.args.toList = some vs) (e : call f vs A = some (v, A1)) :
    eop P call n S o A = some (v, A1) := by
  unfold eop
  have hops : opndsIn S o.op.operands.toList = true := by
    rw [hc]
    simp only [Op.operands]
    have : c.operands.toList = .func f :: c.args.toList := by
      unfold Call.operands
      rw [hf]
      simp
    rw [this]
    simp [opndsIn, opndIn, hin]
  rw [hops]
  simp only [cond_true]
  unfold aop
  rw [hc]
  simp only
  unfold acallOp
  rw [ha, hf]
  simp only [Abs.aeval]
  simpa using e
end
end Go.Abs
namespace Go.Abs
section
variable {P : Program} {call : CallF} {n : Nat} {ops : Array Oper} {i : Nat} {S : Slots} {A : AW} {Q : Slots → AW → Prop}
end
section
variable {k : IntKind}
end
end Go.Abs
