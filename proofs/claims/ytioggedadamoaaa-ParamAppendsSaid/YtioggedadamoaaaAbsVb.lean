/- Steps over the model's own code, of a heap of one's own numbers; contracts of functions. -/
import Derived.Test.YtioggedadamoaaaAbsVa
set_option autoImplicit false
set_option linter.unusedVariables false
set_option linter.unusedSimpArgs false
namespace Go.Abs
open Go.RowKit
def ExtP (pin : Nat → Prop) (ρ ρ1 : Rho) : Prop := ∀ b, pin b → ∀ e, ρ b = some e → ρ1 b = some e
theorem ExtP.refl (pin : Nat → Prop) (ρ : Rho) : ExtP pin ρ ρ := fun _ _ _ h => h
theorem ExtP.trans {pin : Nat → Prop} {ρ σ τ : Rho} (h : ExtP pin ρ σ) (k : ExtP pin σ τ) : ExtP pin ρ τ := fun b hb e he => k b hb e (h b hb e he)
theorem Ext.toP {ρ σ : Rho} (h : Ext ρ σ) (pin : Nat → Prop) : ExtP pin ρ σ := fun b _ e he => h b e he
def VTo (K : Nat → Prop) (w0 : World) (pin : Nat → Prop) (n : Nat) (Q : X → Slots → AW → Prop) (ρ : Rho) (a : Act) : Exit → Act → World → Prop :=
  fun e a1 w1 => ∃ x t1 A1 S1 ρ1, e = exitOf x ∧ ExtP pin ρ ρ1 ∧ Inv K w0 ρ1 A1 w1 ∧ VRA ρ1 t1 a1.tmps ∧ a1.defers = a.defers ∧ Has n S1 t1 ∧ Q x S1 A1
def V (P : Program) (K : Nat → Prop) (w0 : World) (pin : Nat → Prop) (n : Nat) (c : Code) (S : Slots) (A : AW) (Q : X → Slots → AW → Prop) : Prop :=
  ∀ t, Has n S t → ∀ (ρ : Rho) (w : World) (a : Act), Inv K w0 ρ A w → VRA ρ t a.tmps → c.wp P (VTo K w0 pin n Q ρ a) a w
def EV (P : Program) (K : Nat → Prop) (w0 : World) (pin : Nat → Prop) (n : Nat) (ops : Array Oper) (i : Nat) (S : Slots) (A : AW) (Q : Slots → AW → Prop) : Prop :=
  ∀ t, Has n S t → ∀ (ρ : Rho) (w : World) (a : Act) (Q' : Exit → Act → World → Prop), Inv K w0 ρ A w → VRA ρ t a.tmps →
    (∀ ρ1 w1 a1 t1 S1 A1, ExtP pin ρ ρ1 → Inv K w0 ρ1 A1 w1 → VRA ρ1 t1 a1.tmps → a1.defers = a.defers → Has n S1 t1 → Q S1 A1 → Q' .normal a1 w1) → wpOps P ops Q' (List.range' i (ops.size - i)) a w
def FC (P : Program) (f : FuncId) (H : AW) (args : List Value) (Q : Value → AW → Prop) : Prop :=
  (∃ fn, P.funcs[f]? = some fn ∧ (fn.name == "runtime.NumGoroutine") = false ∧ fn.body.isNone = false) ∧
  ∀ (K : Nat → Prop) (w0 : World) (ρ : Rho) (w : World) (args' : List Value), Inv K w0 ρ H w → VRL ρ args args' →
    Calls P f args'.toArray w fun e w1 => ∃ v H1 ρ1 v', Q v H1 ∧ e = .returned v' ∧ Ext ρ ρ1 ∧ Inv K w0 ρ1 H1 w1 ∧ VR ρ1 v v'
section
variable {P : Program} {K : Nat → Prop} {w0 : World} {pin : Nat → Prop} {n : Nat} {S : Slots} {A : AW} {call : CallF} {draws : Array Oper → Array Value → AW → Option (Array Value × AW)} {R : Nat}
theorem VTo.mono {Q Q' : X → Slots → AW → Prop} {ρ : Rho} {a : Act} {e : Exit} {a1 : Act} {w1 : World} (h : VTo K w0 pin n Q ρ a e a1 w1) (k : ∀ x S A, Q x S A → Q' x S A) : VTo K w0 pin n Q' ρ a e a1 w1 := by
  obtain ⟨x, t1, A1, S1, ρ1, h1, h2, h3, h4, h5, h6, h7⟩ := h
  exact ⟨x, t1, A1, S1, ρ1, h1, h2, h3, h4, h5, h6, k _ _ _ h7⟩
theorem VTo.later {Q : X → Slots → AW → Prop} {ρ ρ1 : Rho} {a b : Act} {e : Exit} {a1 : Act} {w1 : World} (h : VTo K w0 pin n Q ρ1 b e a1 w1) (k : ExtP pin ρ ρ1) (hd : b.defers = a.defers) : VTo K w0 pin n Q ρ a e a1 w1 := by
  obtain ⟨x, t1, A1, S1, ρ2, h1, h2, h3, h4, h5, h6, h7⟩ := h
  exact ⟨x, t1, A1, S1, ρ2, h1, k.trans h2, h3, h4, by rw [h5, hd], h6, h7⟩
theorem V.ofJ (hcall : CallSound P K w0 call) (hdraw : DrawSound P K w0 draws) {c : Code} {Q : X → Slots → AW → Prop} (h : J P call draws R n c S A Q) : V P K w0 pin n c S A Q := by
  intro t ht ρ w a hI hv
  obtain ⟨x, t', A', S', h1, h2, h3⟩ := h t ht
  refine wp_mono (acode_sound hcall hdraw R c t A x t' A' ρ w a h1 hI hv) ?_
  rintro e a1 w1 ⟨rfl, ρ1, g1, g2, g3, g4⟩
  exact ⟨x, t', A', S', ρ1, rfl, g1.toP pin, g2, g3, g4, h2, h3⟩
theorem V.mono {c : Code} {Q Q' : X → Slots → AW → Prop} (h : V P K w0 pin n c S A Q) (k : ∀ x S A, Q x S A → Q' x S A) : V P K w0 pin n c S A Q' := by
  intro t ht ρ w a hI hv
  exact wp_mono (h t ht ρ w a hI hv) fun e a1 w1 q => q.mono k
theorem V.weak {c : Code} {Q : X → Slots → AW → Prop} (keep : List Nat) {S2 : Slots} (e : restr keep S = S2) (h : V P K w0 pin n c S2 A Q) : V P K w0 pin n c S A Q := by
  intro t ht
  exact h t (by rw [← e]; exact ht.restr keep)
theorem V.cast {c : Code} {Q : X → Slots → AW → Prop} {S2 : Slots} {A2 : AW} (e : S = S2) (e2 : A = A2) (h : V P K w0 pin n c S2 A2 Q) : V P K w0 pin n c S A Q := by rw [e, e2]; exact h
theorem V.skip {Q : X → Slots → AW → Prop} (h : Q .n S A) : V P K w0 pin n .skip S A Q := fun t ht ρ w a hI hv => wp_skip ⟨.n, t, A, S, ρ, rfl, ExtP.refl _ _, hI, hv, rfl, ht, h⟩
theorem V.ret {Q : X → Slots → AW → Prop} (h : Q .r S A) : V P K w0 pin n .ret S A Q := fun t ht ρ w a hI hv => wp_ret ⟨.r, t, A, S, ρ, rfl, ExtP.refl _ _, hI, hv, rfl, ht, h⟩
theorem V.exit {id : Nat} {Q : X → Slots → AW → Prop} (h : Q (.e id) S A) : V P K w0 pin n (.exit id) S A Q := fun t ht ρ w a hI hv => wp_exit ⟨.e id, t, A, S, ρ, rfl, ExtP.refl _ _, hI, hv, rfl, ht, h⟩
def thenV (P : Program) (K : Nat → Prop) (w0 : World) (pin : Nat → Prop) (n : Nat) (b : Code) (Q : X → Slots → AW → Prop) : X → Slots → AW → Prop
  | .n, S, A => V P K w0 pin n b S A Q
  | .e id, S, A => Q (.e id) S A
  | .r, S, A => Q .r S A
theorem V.seq {a b : Code} {Q : X → Slots → AW → Prop} (h : V P K w0 pin n a S A (thenV P K w0 pin n b Q)) : V P K w0 pin n (.seq a b) S A Q := by
  intro t ht ρ w ac hI hv
  refine wp_seq (wp_mono (h t ht ρ w ac hI hv) ?_)
  rintro e a1 w1 ⟨x, t1, A1, S1, ρ1, rfl, g1, g2, g3, g4, g5, g6⟩
  cases x with
  | n => exact wp_mono (g6 t1 g5 ρ1 w1 a1 g2 g3) fun e2 a2 w2 q => q.later g1 g4
  | e id => exact ⟨_, _, _, _, _, rfl, g1, g2, g3, g4, g5, g6⟩
  | r => exact ⟨_, _, _, _, _, rfl, g1, g2, g3, g4, g5, g6⟩
theorem V.cond {c : Nat} {x y : Code} {Q : X → Slots → AW → Prop} (b : Bool) (e : look S c = some (.bool b)) (h1 : b = true → V P K w0 pin n x S A Q) (h2 : b = false → V P K w0 pin n y S A Q) :
    V P K w0 pin n (.cond (.tmp c) x y) S A Q := by
  intro t ht ρ w a hI hv
  have hv' : VR ρ (.bool b) (a.eval (.tmp c)) := by
    have h3 : aeval t (.tmp c) = some (.bool b) := by
      simp only [Abs.aeval]
      rw [(ht.2 c _ e).2]
    exact aeval_rel hv h3
  simp only [VR] at hv'
  cases b with
  | true => exact wp_cond_true hv' (h1 rfl t ht ρ w a hI hv)
  | false => exact wp_cond_false hv' (h2 rfl t ht ρ w a hI hv)
theorem V.block {id : Nat} {body : Code} {Q : X → Slots → AW → Prop} (h : V P K w0 pin n body S A (blockQ id Q)) : V P K w0 pin n (.block id body) S A Q := by
  intro t ht ρ w a hI hv
  refine wp_block (wp_mono (h t ht ρ w a hI hv) ?_)
  rintro e a1 w1 ⟨x, t1, A1, S1, ρ1, rfl, g1, g2, g3, g4, g5, g6⟩
  cases x with
  | n => exact ⟨_, _, _, _, _, rfl, g1, g2, g3, g4, g5, g6⟩
  | r => exact ⟨_, _, _, _, _, rfl, g1, g2, g3, g4, g5, g6⟩
  | e i =>
    simp only [exitOf, Exit.inBlock]
    simp only [blockQ] at g6
    by_cases hi : i = id
    · rw [if_pos hi] at g6 ⊢
      exact ⟨_, _, _, _, _, rfl, g1, g2, g3, g4, g5, g6⟩
    · rw [if_neg hi] at g6 ⊢
      exact ⟨_, _, _, _, _, rfl, g1, g2, g3, g4, g5, g6⟩
def loopV (I : Nat → Slots → AW → Prop) (k : Nat) (Q : X → Slots → AW → Prop) : X → Slots → AW → Prop
  | .n, S, A => ∃ k', k' < k ∧ I k' S A
  | .e i, S, A => Q (.e i) S A
  | .r, S, A => Q .r S A
theorem V.loop {body : Code} {Q : X → Slots → AW → Prop} (I : Nat → Slots → AW → Prop) (k : Nat) (h0 : I k S A) (hstep : ∀ k S A, I k S A → V P K w0 pin n body S A (loopV I k Q)) : V P K w0 pin n (.loop body) S A Q := by
  intro t ht ρ w a hI hv
  refine wp_loop_ghost (fun k' a' w' => ∃ t' A' S' ρ', I k' S' A' ∧ Has n S' t' ∧ ExtP pin ρ ρ' ∧ Inv K w0 ρ' A' w' ∧ VRA ρ' t' a'.tmps ∧ a'.defers = a.defers) k ⟨t, A, S, ρ, h0, ht, ExtP.refl _ _, hI, hv, rfl⟩ ?_
  rintro m a2 w2 ⟨t2, A2, S2, ρ2, h1, h2, h3, h4, h5, h6⟩
  refine wp_mono (hstep m S2 A2 h1 t2 h2 ρ2 w2 a2 h4 h5) ?_
  rintro en a3 w3 ⟨x, t3, A3, S3, ρ3, rfl, g1, g2, g3, g4, g5, g6⟩
  cases x with
  | n =>
    obtain ⟨k', q1, q2⟩ := g6
    exact ⟨k', q1, t3, A3, S3, ρ3, q2, g5, h3.trans g1, g2, g3, by rw [g4, h6]⟩
  | e id => exact ⟨_, _, _, _, _, rfl, h3.trans g1, g2, g3, by rw [g4, h6], g5, g6⟩
  | r => exact ⟨_, _, _, _, _, rfl, h3.trans g1, g2, g3, by rw [g4, h6], g5, g6⟩
theorem loopV_n {I : Nat → Slots → AW → Prop} {k : Nat} {Q : X → Slots → AW → Prop} (k' : Nat) (hk : k' < k) (h : I k' S A) : loopV I k Q .n S A := ⟨k', hk, h⟩
theorem loopV_e {I : Nat → Slots → AW → Prop} {k id : Nat} {Q : X → Slots → AW → Prop} (h : Q (.e id) S A) : loopV I k Q (.e id) S A := h
theorem loopV_r {I : Nat → Slots → AW → Prop} {k : Nat} {Q : X → Slots → AW → Prop} (h : Q .r S A) : loopV I k Q .r S A := h
theorem thenV_n {b : Code} {Q : X → Slots → AW → Prop} (h : V P K w0 pin n b S A Q) : thenV P K w0 pin n b Q .n S A := h
theorem thenV_r {b : Code} {Q : X → Slots → AW → Prop} (h : Q .r S A) : thenV P K w0 pin n b Q .r S A := h
theorem thenV_e {b : Code} {Q : X → Slots → AW → Prop} {k : Nat} (h : Q (.e k) S A) : thenV P K w0 pin n b Q (.e k) S A := h
variable {ops : Array Oper} {i : Nat} {Q : Slots → AW → Prop}
theorem V.region {id : Nat} {Q : X → Slots → AW → Prop} (h : EV P K w0 pin n ops 0 S A fun S' A' => Q .n S' A') : V P K w0 pin n (.region id ops false) S A Q := by
  intro t ht ρ w a hI hv
  refine wp_region ?_
  have := h t ht ρ w a (VTo K w0 pin n Q ρ a) hI hv fun ρ1 w1 a1 t1 S1 A1 h1 h2 h3 h4 h5 h6 => ⟨.n, t1, A1, S1, ρ1, rfl, h1, h2, h3, h4, h5, h6⟩
  rwa [Nat.sub_zero, ← List.range_eq_range'] at this
theorem V.sr {id : Nat} {b : Code} {Q : X → Slots → AW → Prop} (h : EV P K w0 pin n ops 0 S A fun S' A' => V P K w0 pin n b S' A' Q) : V P K w0 pin n (.seq (.region id ops false) b) S A Q := V.seq (V.region h)
theorem EV.done (hn : Nat.ble ops.size i = true) (h : Q S A) : EV P K w0 pin n ops i S A Q := by
  intro t ht ρ w a Q' hI hv hQ
  have : ops.size - i = 0 := by have := Nat.le_of_ble_eq_true hn; omega
  rw [this]
  exact hQ ρ w a t S A (ExtP.refl _ _) hI hv rfl ht h
theorem EV.weak (keep : List Nat) {S2 : Slots} (e : restr keep S = S2) (h : EV P K w0 pin n ops i S2 A Q) : EV P K w0 pin n ops i S A Q := by
  intro t ht
  exact h t (by rw [← e]; exact ht.restr keep)
theorem EV.cast {S2 : Slots} {A2 : AW} (e : S = S2) (e2 : A = A2) (h : EV P K w0 pin n ops i S2 A2 Q) : EV P K w0 pin n ops i S A Q := by rw [e, e2]; exact h
theorem EV.wp1 {o : Oper} {S1 : Slots} {C : AW → Value → Prop} (ho : ops[i]? = some o) (hw : ewant ops S o = some true)
    (hx : ∀ t, Has n S t → ∀ (ρ : Rho) (w : World) (a : Act) (R : Act → World → Prop) (Q' : Exit → Act → World → Prop), Inv K w0 ρ A w → VRA ρ t a.tmps →
      (∀ ρ1 w1 A1 v v', Ext ρ ρ1 → Inv K w0 ρ1 A1 w1 → VR ρ1 v v' → C A1 v → R (a.put o.dst v') w1) → o.wp P a w R Q')
    (h : ∀ A1 v, C A1 v → EV P K w0 pin n ops (i + 1) (eput n S o.dst v) A1 Q) : EV P K w0 pin n ops i S A Q := by
  intro t ht ρ w a Q' hI hv hQ
  have hlt := (Array.getElem?_eq_some_iff.1 ho).1
  have hm : ops.size - i = (ops.size - (i + 1)) + 1 := by omega
  rw [hm, List.range'_succ]
  unfold wpOps
  simp only [ho]
  rw [← wanted_rel hv, ewant_sound ht hw]
  simp only [if_true]
  refine .inl (hx t ht ρ w a _ Q' hI hv ?_)
  intro ρ1 w1 A1 v v' h1 h2 h3 h4
  exact h A1 v h4 (aput t o.dst v) (ht.put o.dst v) ρ1 w1 _ Q' h2 (aput_rel (VRA.ext h1 _ _ hv) _ h3) fun ρ2 w2 a2 t2 S2 A2 k1 k2 k3 k4 k5 k6 =>
    hQ ρ2 w2 a2 t2 S2 A2 ((h1.toP pin).trans k1) k2 k3 (by rw [k4, put_defers]) k5 k6
theorem EV.step (hcall : CallSound P K w0 call) {o : Oper} {v : Value} {A1 : AW} (ho : ops[i]? = some o) (hw : ewant ops S o = some true) (e : eop P call n S o A = some (v, A1))
    (h : EV P K w0 pin n ops (i + 1) (eput n S o.dst v) A1 Q) : EV P K w0 pin n ops i S A Q := by
  refine EV.wp1 (S1 := S) (C := fun A' u => A' = A1 ∧ u = v) ho hw ?_ ?_
  · intro t ht ρ w a R Q' hI hv hR
    refine aop_sound hcall (eop_sound ht e) hI (fun x _ u hu => aeval_rel hv hu) ?_
    intro ρ1 w1 v' h1 h2 h3
    exact hR ρ1 w1 A1 v v' h1 h2 h3 ⟨rfl, rfl⟩
  · rintro A' u ⟨rfl, rfl⟩
    exact h
theorem EV.skip {o : Oper} (ho : ops[i]? = some o) (hw : ewant ops S o = some false) (h : EV P K w0 pin n ops (i + 1) (eput n S o.dst undef) A Q) : EV P K w0 pin n ops i S A Q := by
  intro t ht ρ w a Q' hI hv hQ
  have hlt := (Array.getElem?_eq_some_iff.1 ho).1
  have hm : ops.size - i = (ops.size - (i + 1)) + 1 := by omega
  rw [hm, List.range'_succ]
  unfold wpOps
  simp only [ho]
  rw [← wanted_rel hv, ewant_sound ht hw]
  simp only [Bool.false_eq_true, if_false]
  exact h (aput t o.dst undef) (ht.put o.dst undef) ρ w _ Q' hI (aput_rel hv _ VR.undef) fun ρ2 w2 a2 t2 S2 A2 k1 k2 k3 k4 k5 k6 => hQ ρ2 w2 a2 t2 S2 A2 k1 k2 k3 (by rw [k4, put_defers]) k5 k6
theorem EV.runP (hcall : CallSound P K w0 call) : ∀ (m i : Nat), i + m ≤ ops.size → ∀ {S S1 : Slots} {A A1 : AW}, eops P call n ops ((ops.toList.drop i).take m) S A = some (S1, A1) → EV P K w0 pin n ops (i + m) S1 A1 Q → EV P K w0 pin n ops i S A Q
  | 0, i, hi, S, S1, A, A1, e, h => by
    simp only [List.take_zero, eops, Option.some.injEq, Prod.mk.injEq] at e
    obtain ⟨rfl, rfl⟩ := e
    exact h
  | m + 1, i, hi, S, S1, A, A1, e, h => by
    have hlt : i < ops.size := by omega
    have ho : ops[i]? = some ops[i] := Array.getElem?_eq_getElem hlt
    have hdrop : ops.toList.drop i = ops[i] :: ops.toList.drop (i + 1) := by
      rw [List.drop_eq_getElem_cons (by simpa using hlt)]
      simp
    rw [hdrop, List.take_succ_cons] at e
    unfold eops at e
    have h' : EV P K w0 pin n ops (i + 1 + m) S1 A1 Q := by rwa [show i + 1 + m = i + (m + 1) from by omega]
    split at e
    · rename_i hw
      split at e
      · rename_i v A2 he
        exact EV.step hcall ho hw he (EV.runP hcall m (i + 1) (by omega) e h')
      · cases e
    · rename_i hw
      exact EV.skip ho hw (EV.runP hcall m (i + 1) (by omega) e h')
    · cases e
theorem EV.run (hcall : CallSound P K w0 call) (j : Nat) (keep : List Nat) {S2 : Slots} {A2 : AW} (hij : (Nat.ble i j && Nat.ble j ops.size) = true) (e : eopsR P call n ops i j keep S A = some (S2, A2)) (h : EV P K w0 pin n ops j S2 A2 Q) : EV P K w0 pin n ops i S A Q := by
  simp only [Bool.and_eq_true] at hij
  have h1 : i ≤ j := Nat.le_of_ble_eq_true hij.1
  have h2 : j ≤ ops.size := Nat.le_of_ble_eq_true hij.2
  unfold eopsR at e
  split at e
  · rename_i S1 A1 he
    simp only [Option.some.injEq, Prod.mk.injEq] at e
    obtain ⟨rfl, rfl⟩ := e
    refine EV.runP hcall (j - i) i (by omega) he ?_
    rw [show i + (j - i) = j from by omega]
    exact EV.weak keep rfl h
  · cases e
theorem aevals_has {t : Array Value} (h : Has n S t) {xs : List Operand} (hin : opndsIn S xs = true) : aevals t xs = aevals (arrOf n S) xs :=
  aevals_congr fun x hx => h.aeval (opndsIn_mem hin x hx)
theorem EV.fcall {o : Oper} {c : Call} {x : Operand} {f : FuncId} {fs cs : Array Value} {vs args : List Value} {H : AW} {σ : Nat → Nat} {Qf : Value → AW → Prop} (ho : ops[i]? = some o) (hop : o.op = .call c) (hc : c.callee = .value x) (hw : ewant ops S o = some true)
    (hin : opndsIn S (x :: c.args.toList) = true) (hx : aeval (arrOf n S) x = some (.func (.func f) fs cs)) (ha : aevals (arrOf n S) c.args.toList = some vs) (hargs : fs.toList ++ vs ++ cs.toList = renL σ args)
    (hfc : FC P f H args Qf) (p : Part A σ H) (nx : NxOk H)
    (hk : ∀ v H1, Qf v H1 → ∃ σ1 A1, Back A σ H H1 σ1 A1 ∧ EV P K w0 pin n ops (i + 1) (eput n S o.dst (ren σ1 v)) A1 Q) : EV P K w0 pin n ops i S A Q := by
  refine EV.wp1 (S1 := S) (C := fun A' u => EV P K w0 pin n ops (i + 1) (eput n S o.dst u) A' Q) ho hw ?_ fun A1 v h => h
  intro t ht ρ w a R Q' hI hv hR
  obtain ⟨⟨fn, f1, f2, f3⟩, hcalls⟩ := hfc
  have hin2 : opndIn S x = true ∧ opndsIn S c.args.toList = true := by simpa [opndsIn] using hin
  have hxt : aeval t x = some (.func (.func f) fs cs) := by rw [ht.aeval hin2.1]; exact hx
  have hat : aevals t c.args.toList = some vs := by rw [aevals_has ht hin2.2]; exact ha
  have hr := aevals_rel (fun y hy u hu => aeval_rel hv hu) hat
  obtain ⟨fs', cs', g1, g2, hfv⟩ := aeval_rel hv hxt
  have hall := (VRL.append (VRL.append (VRA.toList.1 g1) hr) (VRA.toList.1 g2))
  rw [hargs, VRL_ren] at hall
  have he : execOp a.eval o = callFunc f (fs'.toList ++ c.args.toList.map a.eval ++ cs'.toList).toArray := by
    obtain ⟨dst, op, type, pos, after, guard⟩ := o
    simp only at hop
    subst hop
    simp only [execOp, resolve, hc, hfv, Deferred.ofValue, pure_bind, invoke]
    congr 1
    apply Array.ext'
    simp
  have hrun : (execOp a.eval o).run P w = .ok (.enter f (fs'.toList ++ c.args.toList.map a.eval ++ cs'.toList).toArray) w := by
    rw [he]
    unfold callFunc
    rw [Sem.run_bind, run_program]
    simp only [Result.andThen_ok, f1, f2, f3, Bool.false_eq_true, if_false]
    rfl
  unfold Oper.wp
  rw [hrun]
  refine (hcalls (KPlus ρ σ H w) w (fun b => ρ (σ b)) w _ (p.inv hI nx) hall).mono ?_
  rintro en w1 ⟨v, H1, ρ1, v', q1, rfl, q2, q3, q4⟩
  obtain ⟨σ1, A1, kb, hev⟩ := hk v H1 q1
  obtain ⟨ρ2, r1, r2, r3⟩ := p.back hI q3 q2 kb
  exact hR ρ2 w1 A1 (ren σ1 v) v' r1 r3 (VR_ren _ _ |>.2 (VR.ext r2 _ _ q4)) hev
def renS (τ : Nat → Nat) : Slots → Slots
  | [] => []
  | (i, v) :: S => (i, ren τ v) :: renS τ S
theorem look_renS {τ : Nat → Nat} : ∀ {S : Slots} {i : Nat} {v : Value}, look (renS τ S) i = some v → ∃ u, look S i = some u ∧ v = ren τ u
  | [], i, v, h => by simp [renS, look] at h
  | (j, u) :: S, i, v, h => by
    simp only [renS, look] at h ⊢
    cases hb : Nat.beq j i with
    | true =>
      rw [hb] at h
      simp only [cond_true, Option.some.injEq] at h ⊢
      exact ⟨u, rfl, h.symm⟩
    | false =>
      rw [hb] at h
      exact look_renS h
theorem getL_ren (τ : Nat → Nat) : ∀ (l : List Value) (i : Nat), getL (renL τ l) i = ren τ (getL l i)
  | [], i => rfl
  | v :: l, 0 => rfl
  | v :: l, i + 1 => getL_ren τ l i
theorem Has.ren {t : Array Value} (h : Has n S t) (τ : Nat → Nat) : Has n (renS τ S) (renA τ t) := by
  obtain ⟨l⟩ := t
  refine ⟨by have := h.1; show (renL τ l).length = n; rw [renL_length]; exact this, ?_⟩
  intro i v hv
  obtain ⟨u, h1, rfl⟩ := look_renS hv
  obtain ⟨h2, h3⟩ := h.2 i u h1
  refine ⟨h2, ?_⟩
  show getL (renL τ l) i = _
  rw [getL_ren]
  exact congrArg _ h3
structure Ren (A : AW) (τ : Nat → Nat) (H : AW) : Prop where
  inj : ∀ b c, b < A.size → c < A.size → A.get b ≠ .resv → A.get c ≠ .resv → τ b = τ c → b = c
  lt : ∀ b, b < A.size → A.get b ≠ .resv → τ b < H.size
  obj : ∀ b, b < A.size → A.get b ≠ .resv → H.get (τ b) = renO τ (A.get b) ∨ H.get (τ b) = .dead
  full : ∀ c, c < H.size → alive (H.get c) = true → ∃ b, b < A.size ∧ τ b = c ∧ alive (A.get b) = true
  nx : NxOk H
theorem Ren.keep {τ : Nat → Nat} {H : AW} (r : Ren A τ H) (hpin : ∀ b, pin b → τ b = b) {ρ : Rho} {w : World} (hI : Inv K w0 ρ A w) {t t' : Array Value} (hv : VRA ρ t t') :
    ∃ ρ2, ExtP pin ρ ρ2 ∧ Inv K w0 ρ2 H w ∧ VRA ρ2 (renA τ t) t' := by
  obtain ⟨ρ2, h1, h2⟩ := hI.renum τ H r.inj r.lt r.obj r.full r.nx
  refine ⟨ρ2, fun b hb e he => ?_, h2, VRA_ren _ _ |>.2 (VRA.ext h1 _ _ hv)⟩
  have := h1 b e he
  rwa [hpin b hb] at this
theorem EV.renum {τ : Nat → Nat} {H : AW} (r : Ren A τ H) (hpin : ∀ b, pin b → τ b = b) (keep : List Nat) {S2 : Slots} (e : renS τ (restr keep S) = S2) (h : EV P K w0 pin n ops i S2 H Q) : EV P K w0 pin n ops i S A Q := by
  intro t ht ρ w a Q' hI hv hQ
  obtain ⟨ρ2, k1, k2, k3⟩ := r.keep hpin hI hv
  have ht2 := (ht.restr keep).ren τ
  rw [e] at ht2
  exact h _ ht2 ρ2 w a Q' k2 k3 fun ρ3 w3 a3 t3 S3 A3 g1 g2 g3 g4 g5 g6 => hQ ρ3 w3 a3 t3 S3 A3 (k1.trans g1) g2 g3 g4 g5 g6
def pinOf (H : AW) : Nat → Prop := fun b => b < H.size ∧ H.get b ≠ .resv
theorem V.fn {f : FuncId} {fn : Func} {body : Code} {H : AW} {args : List Value} {Q : Value → AW → Prop} (hf : P.funcs[f]? = some fn) (hname : (fn.name == "runtime.NumGoroutine") = false) (hb : fn.body = some body) (hl : args.length ≤ fn.ntmps)
    (h : ∀ K w0, V P K w0 (pinOf H) fn.ntmps body (argsS 0 args) H (Ends P fn.results.toList Q)) : FC P f H args Q := by
  refine ⟨⟨fn, hf, hname, by rw [hb]; rfl⟩, fun K w0 ρ w args' hI ha => ?_⟩
  have hlen : args'.length = args.length := ha.length
  refine calls_of_wp hf hb ?_
  have htm : VRA ρ (initT args fn.ntmps) (args'.toArray ++ Array.replicate (fn.ntmps - args'.toArray.size) undef) := by
    rw [initT_eq, VRA.toList]
    have : fn.ntmps - args'.toArray.size = fn.ntmps - args.length := by simp [hlen]
    rw [this]
    simpa using ha.append (VRL.undefs _)
  refine wp_mono (h K w0 _ (has_init hl) ρ w { tmps := args'.toArray ++ Array.replicate (fn.ntmps - args'.toArray.size) undef, defers := [] } hI htm) ?_
  rintro e a1 w1 ⟨x, t1, A1, S1, ρ1, rfl, g1, g2, g3, g4, g5, g6⟩
  have hext : Ext ρ ρ1 := fun b e he => g1 b ⟨(hI.at_ b e he).1, hI.notKept he⟩ e he
  have main : ∀ vs, eresults P S1 A1 fn.results.toList = some vs → Q (atuple vs) A1 → a1.defers = [] ∧ ∃ v, (results fn a1.tmps).run P w1 = .ok v w1 ∧ ∃ v2 A1 ρ1 v', Q v2 A1 ∧ Ending.returned v = .returned v' ∧ Ext ρ ρ1 ∧ Inv K w0 ρ1 A1 w1 ∧ VR ρ1 v2 v' := by
    intro vs e1 e2
    obtain ⟨v', k1, k2⟩ := results_rel (P := P) g2 g3 (eresults_sound g5 e1)
    exact ⟨g4, v', k1, _, A1, ρ1, v', e2, rfl, hext, g2, k2⟩
  cases x with
  | e id => exact g6.elim
  | n => obtain ⟨vs, e1, e2⟩ := g6; exact main vs e1 e2
  | r => obtain ⟨vs, e1, e2⟩ := g6; exact main vs e1 e2
end
end Go.Abs
