/- Operations, regions, code, calls: the abstract machine's answer is the model's. -/
import Derived.Test.YtioggedadamoaaaAbsOpsG
set_option autoImplicit false
set_option linter.unusedVariables false
set_option linter.unusedSimpArgs false
namespace Go.Abs
open Go.RowKit
def CallSound (P : Program) (B : Nat → Prop) (w0 : World) (call : CallF) : Prop :=
  ∀ (f : FuncId) (args : List Value) (A : AW) (v : Value) (A1 : AW) (ρ : Rho) (w : World) (args' : List Value), call f args A = some (v, A1) → Inv B w0 ρ A w → VRL ρ args args' →
    (∃ fn, P.funcs[f]? = some fn ∧ (fn.name == "runtime.NumGoroutine") = false ∧ fn.body.isNone = false) ∧
    Calls P f args'.toArray w fun e w1 => ∃ ρ1 v', e = .returned v' ∧ Ext ρ ρ1 ∧ Inv B w0 ρ1 A1 w1 ∧ VR ρ1 v v'
section
variable {P : Program} {B : Nat → Prop} {w0 : World} {ρ : Rho} {A : AW} {w : World}
theorem aeval_rel {tmps : Array Value} {a : Act} (h : VRA ρ tmps a.tmps) {x : Operand} {v : Value} (e : aeval tmps x = some v) : VR ρ v (a.eval x) := by
  unfold aeval at e
  cases x with
  | tmp t =>
    simp only [Option.some.injEq] at e
    subst e
    rw [getS_eq]
    exact h.getD t
  | const u =>
    simp only at e
    cases hg : ground u with
    | false => rw [hg] at e; simp at e
    | true =>
      rw [hg] at e
      simp only [cond_true, Option.some.injEq] at e
      subst e
      exact VR.self hg
  | func f =>
    simp only [Option.some.injEq] at e
    subst e
    exact VR.self rfl
  | global g => simp at e
def OR (ρ : Rho) (tmps : Array Value) (a : Act) (xs : List Operand) : Prop := ∀ x ∈ xs, ∀ v, aeval tmps x = some v → VR ρ v (a.eval x)
theorem aevals_rel {tmps : Array Value} {a : Act} : ∀ {xs : List Operand} {vs : List Value}, OR ρ tmps a xs → aevals tmps xs = some vs → VRL ρ vs (xs.map a.eval)
  | [], vs, _, e => by
    simp only [aevals, Option.some.injEq] at e
    subst e
    simp [VRL]
  | x :: xs, vs, h, e => by
    unfold aevals at e
    cases h1 : aeval tmps x with
    | none => rw [h1] at e; simp at e
    | some v =>
      rw [h1] at e
      simp only at e
      cases h2 : aevals tmps xs with
      | none => rw [h2] at e; simp at e
      | some r =>
        rw [h2] at e
        simp only [Option.some.injEq] at e
        subst e
        exact ⟨_, _, rfl, h x (by simp) v h1, aevals_rel (fun y hy => h y (by simp [hy])) h2⟩
theorem aparts_rel {tmps : Array Value} {a : Act} : ∀ {xs : List (Nat × Operand)} {vs : List (Nat × Value)}, OR ρ tmps a (xs.map (·.2)) → aparts tmps xs = some vs → PR ρ vs (xs.map fun p => (p.1, a.eval p.2))
  | [], vs, _, e => by
    simp only [aparts, Option.some.injEq] at e
    subst e
    simp [PR]
  | (i, x) :: xs, vs, h, e => by
    unfold aparts at e
    cases h1 : aeval tmps x with
    | none => rw [h1] at e; simp at e
    | some v =>
      cases h2 : aparts tmps xs with
      | none => rw [h1, h2] at e; simp at e
      | some r =>
        rw [h1, h2] at e
        simp only [Option.some.injEq] at e
        subst e
        exact ⟨_, _, rfl, rfl, h x (by simp) v h1, aparts_rel (fun y hy => h y (by simp only [List.map_cons, List.mem_cons]; exact .inr hy)) h2⟩
theorem aevO_rel {tmps : Array Value} {a : Act} {x : Option Operand} {v : Option Value} (h : OR ρ tmps a x.toList) (e : aevO tmps x = some v) : VRO ρ v (x.map a.eval) := by
  unfold aevO at e
  cases x with
  | none =>
    simp only [Option.some.injEq] at e
    subst e
    rfl
  | some y =>
    simp only at e
    cases h1 : aeval tmps y with
    | none => rw [h1] at e; simp at e
    | some u =>
      rw [h1] at e
      simp only [Option.some.injEq] at e
      subst e
      exact ⟨_, rfl, h y (by simp) u h1⟩
theorem wp_of_sv {o : Oper} {a : Act} {K : Act → World → Prop} {Q : Exit → Act → World → Prop} {s : Sem Value} {v : Value} {A1 : AW} (hs : SV P B w0 ρ w s v A1)
    (he : execOp a.eval o = (do pure (.value (← s)))) (hK : ∀ ρ1 w1 v', Ext ρ ρ1 → Inv B w0 ρ1 A1 w1 → VR ρ1 v v' → K (a.put o.dst v') w1) : o.wp P a w K Q := by
  obtain ⟨ρ1, w1, v', r1, r2, r3, r4⟩ := hs
  unfold Oper.wp
  rw [he, Sem.run_bind, r1]
  exact hK ρ1 w1 v' r2 r3 r4
theorem wp_of_su {o : Oper} {a : Act} {K : Act → World → Prop} {Q : Exit → Act → World → Prop} {s : Sem Unit} {A1 : AW} (hs : ∃ w1, s.run P w = .ok () w1 ∧ Inv B w0 ρ A1 w1)
    (he : execOp a.eval o = (do s; pure .skip)) (hK : ∀ ρ1 w1 v', Ext ρ ρ1 → Inv B w0 ρ1 A1 w1 → VR ρ1 undef v' → K (a.put o.dst v') w1) : o.wp P a w K Q := by
  obtain ⟨w1, r1, r2⟩ := hs
  unfold Oper.wp
  rw [he, Sem.run_bind, r1]
  exact hK ρ w1 undef (Ext.refl _) r2 VR.undef
theorem onV_inv {x : Option Value} {v : Value} {A1 : AW} (e : onV x A = some (v, A1)) : x = some v ∧ A1 = A := by
  cases x with
  | none => simp [onV] at e
  | some u =>
    simp only [onV, Option.some.injEq, Prod.mk.injEq] at e
    exact ⟨by rw [e.1], e.2.symm⟩
theorem onW_inv {x : Option AW} {v : Value} {A1 : AW} (e : onW x = some (v, A1)) : x = some A1 ∧ v = undef := by
  cases x with
  | none => simp [onW] at e
  | some u =>
    simp only [onW, Option.some.injEq, Prod.mk.injEq] at e
    exact ⟨by rw [e.2], e.1.symm⟩
theorem aev1_inv {tmps : Array Value} {x : Operand} {k : Value → Option (Value × AW)} {r : Value × AW} (e : aev1 tmps x k = some r) : ∃ v, aeval tmps x = some v ∧ k v = some r := by
  unfold aev1 at e
  cases h : aeval tmps x with
  | none => rw [h] at e; simp at e
  | some v => rw [h] at e; exact ⟨v, rfl, e⟩
theorem wp_call {o : Oper} {a : Act} {K : Act → World → Prop} {Q : Exit → Act → World → Prop} {call : CallF} (hcall : CallSound P B w0 call) (hI : Inv B w0 ρ A w) {f : FuncId} {args args' : List Value} {v : Value} {A1 : AW}
    (e : call f args A = some (v, A1)) (hargs : VRL ρ args args') (he : execOp a.eval o = callFunc f args'.toArray)
    (hK : ∀ ρ1 w1 v', Ext ρ ρ1 → Inv B w0 ρ1 A1 w1 → VR ρ1 v v' → K (a.put o.dst v') w1) : o.wp P a w K Q := by
  obtain ⟨⟨fn, f1, f2, f3⟩, hc⟩ := hcall f args A v A1 ρ w args' e hI hargs
  have hrun : (execOp a.eval o).run P w = .ok (.enter f args'.toArray) w := by
    rw [he]
    unfold callFunc
    rw [Sem.run_bind, run_program]
    simp only [Result.andThen_ok, f1, f2, f3, Bool.false_eq_true, if_false]
    rfl
  unfold Oper.wp
  rw [hrun]
  refine hc.mono ?_
  rintro en w1 ⟨ρ1, v', rfl, h1, h2, h3⟩
  exact hK ρ1 w1 v' h1 h2 h3
theorem sv_max {b : Builtin} (h : Inv B w0 ρ A w) {l l' : List Value} (hl : VRL ρ l l') {f : Array Value → Sem Value} {u : Value} {A1 : AW} (e : (bif groundL l then onG (prun P (f l.toArray)) A else none) = some (u, A1)) :
    SV P B w0 ρ w (f l'.toArray) u A1 := by
  cases hg : groundL l with
  | false => rw [hg] at e; simp at e
  | true =>
    rw [hg] at e
    simp only [cond_true] at e
    obtain rfl := (VRL.ground l hg l').1 hl
    exact SV.ground h e
theorem sv_builtin (h : Inv B w0 ρ A w) {b : Builtin} {argTypes : Array TypeId} {type : TypeId} {args args' : List Value} (ha : VRL ρ args args') {u : Value} {A1 : AW} (e : abuiltin P A b argTypes type args = some (u, A1)) (cs : Array Bool) :
    ∃ s, builtin b argTypes type cs args'.toArray = (do pure (.value (← s))) ∧ SV P B w0 ρ w s u A1 := by
  unfold abuiltin at e
  split at e
  · rename_i x
    obtain ⟨x', r, rfl, hx, hr⟩ := ha
    simp only [VRL] at hr
    subst hr
    cases hok : lenOk P argTypes[0]? x with
    | false => rw [hok] at e; simp at e
    | true =>
      rw [hok] at e
      simp only [cond_true] at e
      obtain ⟨e1, rfl⟩ := onV_inv e
      exact ⟨_, rfl, sv_len h hx hok e1⟩
  · rename_i s x
    obtain ⟨s', r, rfl, hs, hr⟩ := ha
    obtain ⟨x', r2, rfl, hx, hr2⟩ := hr
    simp only [VRL] at hr2
    subst hr2
    exact ⟨_, rfl, sv_append h hs hx e⟩
  · rename_i s x
    obtain ⟨s', r, rfl, hs, hr⟩ := ha
    obtain ⟨x', r2, rfl, hx, hr2⟩ := hr
    simp only [VRL] at hr2
    subst hr2
    exact ⟨_, rfl, sv_copy h hs hx e⟩
  · rename_i x
    obtain ⟨x', r, rfl, hx, hr⟩ := ha
    simp only [VRL] at hr
    subst hr
    exact ⟨_, rfl, sv_clear h hx e⟩
  · rename_i a n c
    obtain ⟨x', r, rfl, hx, hr⟩ := ha
    simp only [VRL] at hr
    subst hr
    obtain ⟨hs, f, hf, rfl⟩ := hx
    cases ht : argTypes[0]? with
    | none => rw [ht] at e; simp at e
    | some t =>
    rw [ht] at e
    simp only at e
    cases hu : prun P (underlying t) with
    | none => rw [hu] at e; simp at e
    | some d =>
    rw [hu] at e
    cases d <;> try (simp at e; done)
    rename_i el
    simp only at e
    cases hsz : prun P (sizeOf el) with
    | none => rw [hsz] at e; simp at e
    | some size =>
    rw [hsz] at e
    simp only at e
    cases hx : exactCap A a c size with
    | none => rw [hx] at e; simp at e
    | some b =>
    rw [hx] at e
    cases b with
    | false => simp at e
    | true =>
    simp only [Option.some.injEq, Prod.mk.injEq] at e
    obtain ⟨rfl, rfl⟩ := e
    obtain ⟨_, _, ho⟩ := h.at_ _ _ hf
    have hcap : (if a.off + c * f.esz = f.n then c + f.extra else c) = c := by
      unfold exactCap at hx
      cases hg : A.get a.block with
      | dead => rw [hg] at hx; simp at hx
      | resv => rw [hg] at hx; simp at hx
      | map es c => rw [hg] at hx; simp at hx
      | cells cs ro opn esz =>
        rw [hg] at hx ho
        simp only at hx
        obtain ⟨g1, g2, g3, _⟩ := ho
        cases opn with
        | false => rw [g3 rfl]; simp
        | true =>
          simp only [Bool.not_true, cond_false] at hx
          cases hes : esz.beq size with
          | false => rw [hes] at hx; simp at hx
          | true =>
            rw [hes] at hx
            simp only [cond_true, Option.some.injEq, Bool.not_eq_true'] at hx
            rw [g2, Nat.eq_of_beq_eq_true hes, g1, if_neg (Nat.ne_of_beq_eq_false hx)]
    rw [hcap]
    refine ⟨_, rfl, ρ, w, goInt c, ?_, Ext.refl _, h, by simp [goInt, VR]⟩
    unfold Builtin.cap_
    simp only [ht]
    show Sem.run P (underlying t >>= _) w = _
    rw [run_prun_bind hu]
    rfl
  · rename_i n c
    obtain ⟨x', r, rfl, hx, hr⟩ := ha
    simp only [VRL] at hr
    subst hr
    simp only [VR] at hx
    subst hx
    cases ht : argTypes[0]? with
    | none => rw [ht] at e; simp at e
    | some t =>
    rw [ht] at e
    simp only at e
    cases hu : prun P (underlying t) with
    | none => rw [hu] at e; simp at e
    | some d =>
    rw [hu] at e
    cases d <;> try (simp at e; done)
    simp only [Option.some.injEq, Prod.mk.injEq] at e
    obtain ⟨rfl, rfl⟩ := e
    refine ⟨_, rfl, ρ, w, goInt c, ?_, Ext.refl _, h, by simp [goInt, VR]⟩
    unfold Builtin.cap_
    simp only [ht]
    show Sem.run P (underlying t >>= _) w = _
    rw [run_prun_bind hu]
    rfl
  · exact ⟨_, rfl, sv_max (b := .max) (f := Builtin.max_ argTypes type) h ha e⟩
  · exact ⟨_, rfl, sv_max (b := .min) (f := Builtin.min_ argTypes type) h ha e⟩
  · simp at e
theorem aop_sound {call : CallF} (hcall : CallSound P B w0 call) {o : Oper} {tmps : Array Value} {v : Value} {A1 : AW} (e : aop P call tmps o A = some (v, A1)) (hI : Inv B w0 ρ A w) {a : Act}
    (ht : OR ρ tmps a o.op.operands.toList) {K : Act → World → Prop} {Q : Exit → Act → World → Prop} (hK : ∀ ρ1 w1 v', Ext ρ ρ1 → Inv B w0 ρ1 A1 w1 → VR ρ1 v v' → K (a.put o.dst v') w1) : o.wp P a w K Q := by
  obtain ⟨dst, op, type, pos, after, guard⟩ := o
  cases op <;> simp only [aop] at e <;> try (simp at e; done)
  case move x =>
    obtain ⟨u, e1, e2⟩ := aev1_inv e
    simp only [Option.some.injEq, Prod.mk.injEq] at e2
    obtain ⟨rfl, rfl⟩ := e2
    exact hK ρ w _ (Ext.refl _) hI (ht x (by simp [Op.operands]) _ e1)
  case assign x =>
    obtain ⟨u, e1, e2⟩ := aev1_inv e
    simp only [Option.some.injEq, Prod.mk.injEq] at e2
    obtain ⟨rfl, rfl⟩ := e2
    exact hK ρ w _ (Ext.refl _) hI (ht x (by simp [Op.operands]) _ e1)
  case pick c x y =>
    obtain ⟨u, e1, e2⟩ := aev1_inv e
    cases u <;> try (simp at e2; done)
    rename_i b
    simp only at e2
    obtain ⟨z, e3, e4⟩ := aev1_inv e2
    have hc := ht c (by simp [Op.operands]) _ e1
    simp only [VR] at hc
    cases hq : aeval tmps (bif b then y else x) with
    | none => rw [hq] at e4; simp at e4
    | some q =>
      rw [hq] at e4
      simp only [Option.some.injEq, Prod.mk.injEq] at e4
      obtain ⟨rfl, rfl⟩ := e4
      have hz : VR ρ z (if b then a.eval x else a.eval y) := by
        cases b with
        | true => exact ht x (by simp [Op.operands]) _ e3
        | false => exact ht y (by simp [Op.operands]) _ e3
      refine wp_of_sv (SV.pure hI hz) ?_ hK
      simp only [execOp, hc, asBool, pure_bind]
  case alloc t =>
    cases hz : prun P (zeroValue t) with
    | none => rw [hz] at e; simp at e
    | some z =>
      rw [hz] at e
      simp only at e
      cases hg : groundA z.cells with
      | false => rw [hg] at e; simp at e
      | true =>
        rw [hg] at e
        exact wp_of_sv (sv_alloc hI hz hg e) rfl hK
  case box t x =>
    obtain ⟨u, e1, e2⟩ := aev1_inv e
    exact wp_of_sv (sv_box hI (ht x (by simp [Op.operands]) _ e1) e2 t) rfl hK
  case build t parts =>
    cases hp : aparts tmps parts.toList with
    | none => rw [hp] at e; simp at e
    | some ps =>
      rw [hp] at e
      obtain ⟨e3, rfl⟩ := onV_inv e
      have hr := aparts_rel (fun x hx => ht x (by simpa [Op.operands] using hx)) hp
      refine wp_of_sv (sv_build hI hr e3) ?_ hK
      have : (parts.map fun (x : Nat × Operand) => (x.1, a.eval x.2)) = (parts.toList.map fun p => (p.1, a.eval p.2)).toArray := by apply Array.ext'; simp
      simp only [execOp, this]
  case buildSlice t n parts =>
    cases hp : aparts tmps parts.toList with
    | none => rw [hp] at e; simp at e
    | some ps =>
      rw [hp] at e
      have hr := aparts_rel (fun x hx => ht x (by simpa [Op.operands] using hx)) hp
      refine wp_of_sv (sv_buildSlice hI hr e) ?_ hK
      have : (parts.map fun (x : Nat × Operand) => (x.1, a.eval x.2)) = (parts.toList.map fun p => (p.1, a.eval p.2)).toArray := by apply Array.ext'; simp
      simp only [execOp, this]
  case load t x =>
    obtain ⟨u, e1, e2⟩ := aev1_inv e
    cases u <;> try (simp at e2; done)
    rename_i oa
    cases oa with
    | none => simp at e2
    | some ad =>
      obtain ⟨e3, rfl⟩ := onV_inv e2
      obtain ⟨a', ha, hv⟩ := ht x (by simp [Op.operands]) _ e1
      refine wp_of_sv (sv_load hI ha e3) ?_ hK
      simp only [execOp, hv, Instr.loadAt, Instr.sureAddr, pure_bind]
  case store t x y =>
    obtain ⟨u, e1, e2⟩ := aev1_inv e
    cases u <;> try (simp at e2; done)
    rename_i oa
    cases oa with
    | none => simp at e2
    | some ad =>
      simp only at e2
      obtain ⟨z, e3, e4⟩ := aev1_inv e2
      obtain ⟨e5, rfl⟩ := onW_inv e4
      obtain ⟨a', ha, hv⟩ := ht x (by simp [Op.operands]) _ e1
      refine wp_of_su (sv_store hI ha (ht y (by simp [Op.operands]) _ e3) e5) ?_ hK
      simp only [execOp, hv, Instr.storeAt, Instr.sureAddr, pure_bind]
  case nilCheck x =>
    obtain ⟨u, e1, e2⟩ := aev1_inv e
    cases hg : isAddrV u with
    | false => rw [hg] at e2; simp at e2
    | true =>
      rw [hg] at e2
      simp only [cond_true, Option.some.injEq, Prod.mk.injEq] at e2
      obtain ⟨rfl, rfl⟩ := e2
      have hv := ht x (by simp [Op.operands]) _ e1
      unfold isAddrV at hg
      split at hg
      · obtain ⟨a', ha, hv'⟩ := hv
        refine wp_of_sv (SV.pure hI (show VR ρ (.pointer (some _)) (.pointer (some a')) from ⟨a', ha, rfl⟩)) ?_ hK
        simp only [execOp, hv']
        rfl
      · obtain ⟨f1, c1, h1, h2, hv'⟩ := hv
        refine wp_of_sv (SV.pure hI (show VR ρ (.func (.func _) _ _) (.func (.func _) f1 c1) from ⟨f1, c1, h1, h2, rfl⟩)) ?_ hK
        simp only [execOp, hv']
        rfl
      · simp at hg
  case binOp bop t x y yt =>
    obtain ⟨u, e1, e2⟩ := aev1_inv e
    obtain ⟨z, e3, e4⟩ := aev1_inv e2
    have hx := ht x (by simp [Op.operands]) _ e1
    have hy := ht y (by simp [Op.operands]) _ e3
    cases hg : (ground u && ground z) with
    | true =>
      rw [hg] at e4
      simp only [cond_true] at e4
      simp only [Bool.and_eq_true] at hg
      have hv := (VR.ground u hg.1 _).1 hx
      have hz := (VR.ground z hg.2 _).1 hy
      exact wp_of_sv (SV.ground hI e4) (by simp only [execOp, hv, hz]) hK
    | false =>
      rw [hg] at e4
      simp only [cond_false] at e4
      have hgd : ∀ (bo : BinOp), nilCmp P t u z ≠ none → (eqGuard bo t x y (a.eval x) (a.eval y)).run P w = .ok () w := by
        intro bo hne
        unfold eqGuard
        unfold nilCmp at hne
        split at hne <;> first
          | exact absurd rfl hne
          | (first
             | (obtain ⟨_, _, hx'⟩ := hx; simp only [VR] at hy; rw [hx', hy])
             | (obtain ⟨_, _, hy'⟩ := hy; simp only [VR] at hx; rw [hy', hx])
             | (obtain ⟨_, _, _, hx'⟩ := hx; simp only [VR] at hy; rw [hx', hy])
             | (obtain ⟨_, _, _, hy'⟩ := hy; simp only [VR] at hx; rw [hy', hx])
             | (obtain ⟨_, _, _, _, hx'⟩ := hx; simp only [VR] at hy; rw [hx', hy])
             | (obtain ⟨_, _, _, _, hy'⟩ := hy; simp only [VR] at hx; rw [hy', hx]))
            cases bo <;> rfl
      have shape : ∀ (b : Bool), nilCmp P t u z = some b → (binOp .eql t (a.eval x) (a.eval y)).run P w = .ok (.bool b) w ∧ (binOp .neq t (a.eval x) (a.eval y)).run P w = .ok (.bool !b) w := by
        intro b hb
        have hrun := nilCmp_run hx hy hb w
        unfold nilCmp at hb
        split at hb <;> first
          | (simp at hb; done)
          | (first
             | (obtain ⟨_, _, hx'⟩ := hx; simp only [VR] at hy; rw [hx', hy] at hrun ⊢)
             | (obtain ⟨_, _, hy'⟩ := hy; simp only [VR] at hx; rw [hy', hx] at hrun ⊢)
             | (obtain ⟨_, _, _, hx'⟩ := hx; simp only [VR] at hy; rw [hx', hy] at hrun ⊢)
             | (obtain ⟨_, _, _, hy'⟩ := hy; simp only [VR] at hx; rw [hy', hx] at hrun ⊢)
             | (obtain ⟨_, _, _, _, hx'⟩ := hx; simp only [VR] at hy; rw [hx', hy] at hrun ⊢)
             | (obtain ⟨_, _, _, _, hy'⟩ := hy; simp only [VR] at hx; rw [hy', hx] at hrun ⊢))
            (constructor
             · show Sem.run P (Op.equal t _ _ >>= _) w = _
               rw [Sem.run_bind, hrun]; rfl
             · show Sem.run P (Op.equal t _ _ >>= _) w = _
               rw [Sem.run_bind, hrun]; rfl)
      have fin : ∀ (bo : BinOp) (r : Value), bo = bop → ground r = true → nilCmp P t u z ≠ none → (binOp bo t (a.eval x) (a.eval y)).run P w = .ok r w → (v, A1) = (r, A) → Oper.wp P ⟨dst, .binOp bop t x y yt, type, pos, after, guard⟩ a w K Q := by
        intro bo r hbo hgr hne hr hv
        subst hbo
        simp only [Prod.mk.injEq] at hv
        obtain ⟨rfl, rfl⟩ := hv
        refine wp_of_sv (s := do eqGuard bo t x y (a.eval x) (a.eval y); binOp bo t (a.eval x) (a.eval y)) ⟨ρ, w, v, ?_, Ext.refl _, hI, VR.self hgr⟩ rfl hK
        rw [Sem.run_bind, hgd bo hne]
        exact hr
      cases bop <;> try (simp at e4; done)
      · simp only at e4
        cases hb : nilCmp P t u z with
        | none => rw [hb] at e4; simp at e4
        | some b =>
          rw [hb] at e4
          simp only [Option.some.injEq] at e4
          exact fin .eql (.bool b) rfl rfl (by rw [hb]; simp) (shape b hb).1 e4.symm
      · simp only at e4
        cases hb : nilCmp P t u z with
        | none => rw [hb] at e4; simp at e4
        | some b =>
          rw [hb] at e4
          simp only [Option.some.injEq] at e4
          exact fin .neq (.bool !b) rfl rfl (by rw [hb]; simp) (shape b hb).2 e4.symm
  case unOp uop t x =>
    obtain ⟨u, e1, e2⟩ := aev1_inv e
    cases hg : ground u with
    | false => rw [hg] at e2; simp at e2
    | true =>
      rw [hg] at e2
      simp only [cond_true] at e2
      have hv := (VR.ground u hg _).1 (ht x (by simp [Op.operands]) _ e1)
      exact wp_of_sv (SV.ground hI e2) (by simp only [execOp, hv]) hK
  case convert sT dT x =>
    obtain ⟨u, e1, e2⟩ := aev1_inv e
    exact wp_of_sv (sv_convert hI (ht x (by simp [Op.operands]) _ e1) e2) rfl hK
  case makeInterface t x =>
    obtain ⟨u, e1, e2⟩ := aev1_inv e
    cases hg : ground u with
    | false => rw [hg] at e2; simp at e2
    | true =>
      rw [hg] at e2
      simp only [cond_true] at e2
      have hv := (VR.ground u hg _).1 (ht x (by simp [Op.operands]) _ e1)
      exact wp_of_sv (SV.ground hI e2) (by simp only [execOp, hv]) hK
  case makeFunc fn first captured =>
    cases h1 : aevals tmps first.toList with
    | none => rw [h1] at e; simp at e
    | some fs =>
      cases h2 : aevals tmps captured.toList with
      | none => rw [h1, h2] at e; simp at e
      | some cs =>
        rw [h1, h2] at e
        simp only [Option.some.injEq, Prod.mk.injEq] at e
        obtain ⟨rfl, rfl⟩ := e
        have k1 := aevals_rel (fun x hx => ht x (by simp only [Op.operands, Array.toList_append, List.mem_append]; exact .inl hx)) h1
        have k2 := aevals_rel (fun x hx => ht x (by simp only [Op.operands, Array.toList_append, List.mem_append]; exact .inr hx)) h2
        have k3 : VR ρ (.func fn fs.toArray cs.toArray) (.func fn (first.map a.eval) (captured.map a.eval)) := ⟨first.map a.eval, captured.map a.eval, by simpa [VRA.toList] using k1, by simpa [VRA.toList] using k2, rfl⟩
        exact wp_of_sv (s := Instr.makeFunc fn (first.map a.eval) (captured.map a.eval)) ⟨ρ, w, _, rfl, Ext.refl _, hI, k3⟩ rfl hK
  case makeMap t r =>
    cases r with
    | some x => simp at e
    | none =>
      simp only [Option.some.injEq, Prod.mk.injEq] at e
      obtain ⟨rfl, rfl⟩ := e
      have k3 : VR (place ρ A.nid ⟨w.heap.size, 0, 0, 0, 1⟩) (.map (some A.nid)) (.map (some w.heap.size)) := ⟨_, place_same _ _ _, rfl⟩
      exact wp_of_sv (s := Instr.makeMap t none) ⟨_, w.alloc (.map #[] 0), .map (some w.heap.size), rfl, place_ext hI.free _, hI.newMap, k3⟩ rfl hK
  case makeSlice t l c =>
    obtain ⟨vl, e1, e2⟩ := aev1_inv e
    obtain ⟨vc, e3, e4⟩ := aev1_inv e2
    exact wp_of_sv (sv_makeSlice hI (ht l (by simp [Op.operands]) _ e1) (ht c (by simp [Op.operands]) _ e3) e4) rfl hK
  case slice t x lo hi mx =>
    obtain ⟨u, e1, e2⟩ := aev1_inv e
    cases h1 : aevO tmps lo with
    | none => rw [h1] at e2; simp at e2
    | some l =>
    cases h2 : aevO tmps hi with
    | none => rw [h1, h2] at e2; simp at e2
    | some h =>
    cases h3 : aevO tmps mx with
    | none => rw [h1, h2, h3] at e2; simp at e2
    | some m =>
    rw [h1, h2, h3] at e2
    simp only at e2
    have hx := ht x (by simp [Op.operands]) _ e1
    have k1 := aevO_rel (fun y hy => ht y (by simp only [Op.operands, Array.toList_append, List.mem_append, Option.toList_toArray]; exact .inl (.inl (.inr hy)))) h1
    have k2 := aevO_rel (fun y hy => ht y (by simp only [Op.operands, Array.toList_append, List.mem_append, Option.toList_toArray]; exact .inl (.inr hy))) h2
    have k3 := aevO_rel (fun y hy => ht y (by simp only [Op.operands, Array.toList_append, List.mem_append, Option.toList_toArray]; exact .inr hy)) h3
    refine wp_of_sv (s := Instr.sliceAt t (a.eval x) (lo.map a.eval) (hi.map a.eval) (mx.map a.eval)) ?_ rfl hK
    unfold asliceOp at e2
    cases hmh : (m.isSome && h.isNone) with
    | true => rw [hmh] at e2; simp at e2
    | false =>
    rw [hmh] at e2
    simp only [cond_false] at e2
    have hmh' : m.isSome = true → h.isSome = true := by
      intro hm
      rw [hm] at hmh
      simp only [Bool.true_and] at hmh
      cases h <;> simp_all
    cases hu : prun P (underlying t) with
    | none => rw [hu] at e2; simp at e2
    | some d =>
    rw [hu] at e2
    cases d <;> try (simp at e2; done)
    case string =>
      simp only at e2
      cases hg : (ground u && groundO l && groundO h && groundO m) with
      | false => rw [hg] at e2; simp at e2
      | true =>
        rw [hg] at e2
        simp only [cond_true] at e2
        simp only [Bool.and_eq_true] at hg
        obtain ⟨⟨⟨g1, g2⟩, g3⟩, g4⟩ := hg
        have hv := (VR.ground u g1 _).1 hx
        have go : ∀ {p p' : Option Value}, VRO ρ p p' → groundO p = true → p' = p := by
          intro p p' hp hg
          cases p with
          | none => exact hp
          | some q =>
            obtain ⟨q', rfl, hq⟩ := hp
            rw [(VR.ground q hg q').1 hq]
        rw [hv, go k1 g2, go k2 g3, go k3 g4]
        exact SV.ground hI e2
    case slice el =>
      simp only at e2
      cases hs : prun P (sizeOf el) with
      | none => rw [hs] at e2; simp at e2
      | some size =>
        rw [hs] at e2
        exact sv_slice hI hu hs hx k1 k2 k3 hmh' e2
    case array n el => exact sv_sliceArr hI hx k1 k2 k3 hmh' e2
  case fieldAddr s x f =>
    obtain ⟨u, e1, e2⟩ := aev1_inv e
    obtain ⟨e3, rfl⟩ := onV_inv e2
    exact wp_of_sv (sv_fieldAddr hI (ht x (by simp [Op.operands]) _ e1) e3) rfl hK
  case field t x f =>
    obtain ⟨u, e1, e2⟩ := aev1_inv e
    cases hg : ground u with
    | false => rw [hg] at e2; simp at e2
    | true =>
      rw [hg] at e2
      simp only [cond_true] at e2
      have hv := (VR.ground u hg _).1 (ht x (by simp [Op.operands]) _ e1)
      exact wp_of_sv (SV.ground hI e2) (by simp only [execOp, hv]) hK
  case indexAddr t x i =>
    obtain ⟨u, e1, e2⟩ := aev1_inv e
    obtain ⟨z, e3, e4⟩ := aev1_inv e2
    obtain ⟨e5, rfl⟩ := onV_inv e4
    exact wp_of_sv (sv_indexAddr hI (ht x (by simp [Op.operands]) _ e1) (ht i (by simp [Op.operands]) _ e3) e5) rfl hK
  case index t x i =>
    obtain ⟨u, e1, e2⟩ := aev1_inv e
    obtain ⟨z, e3, e4⟩ := aev1_inv e2
    cases hg : (ground u && ground z) with
    | false => rw [hg] at e4; simp at e4
    | true =>
      rw [hg] at e4
      simp only [cond_true] at e4
      simp only [Bool.and_eq_true] at hg
      have hv := (VR.ground u hg.1 _).1 (ht x (by simp [Op.operands]) _ e1)
      have hz := (VR.ground z hg.2 _).1 (ht i (by simp [Op.operands]) _ e3)
      exact wp_of_sv (SV.ground hI e4) (by simp only [execOp, hv, hz]) hK
  case lookup t x k ok =>
    obtain ⟨u, e1, e2⟩ := aev1_inv e
    obtain ⟨z, e3, e4⟩ := aev1_inv e2
    obtain ⟨e5, rfl⟩ := onV_inv e4
    exact wp_of_sv (sv_lookup hI (ht x (by simp [Op.operands]) _ e1) (ht k (by simp [Op.operands]) _ e3) e5) rfl hK
  case mapUpdate t m k x =>
    obtain ⟨u, e1, e2⟩ := aev1_inv e
    obtain ⟨z, e3, e4⟩ := aev1_inv e2
    obtain ⟨y, e5, e6⟩ := aev1_inv e4
    obtain ⟨e7, rfl⟩ := onW_inv e6
    exact wp_of_su (sv_mapUpdate hI (ht m (by simp [Op.operands]) _ e1) (ht k (by simp [Op.operands]) _ e3) (ht x (by simp [Op.operands]) _ e5) e7) rfl hK
  case extract x i =>
    obtain ⟨u, e1, e2⟩ := aev1_inv e
    cases u <;> try (simp at e2; done)
    rename_i vs
    simp only at e2
    obtain ⟨e3, rfl⟩ := onV_inv e2
    obtain ⟨vs', hvs, hv⟩ := ht x (by simp [Op.operands]) _ e1
    obtain ⟨v', k1, k2⟩ := hvs.get i v e3
    refine wp_of_sv (SV.pure hI k2) ?_ hK
    simp only [execOp, hv, Instr.extract, k1]
  case call c =>
    unfold acallOp at e
    cases h1 : aevals tmps c.args.toList with
    | none => rw [h1] at e; simp at e
    | some args =>
    rw [h1] at e
    simp only at e
    have hr := aevals_rel (fun x hx => ht x (by simp only [Op.operands, Call.operands, Array.toList_append, List.mem_append]; exact .inr hx)) h1
    have hargs : c.args.map a.eval = (c.args.toList.map a.eval).toArray := by apply Array.ext'; simp
    cases hc : c.callee with
    | invoke x m => rw [hc] at e; simp at e
    | builtin b =>
      rw [hc] at e
      simp only at e
      obtain ⟨s, k1, k2⟩ := sv_builtin hI hr e (c.args.map fun | .const _ => true | _ => false)
      refine wp_of_sv k2 ?_ hK
      rw [← k1, ← hargs]
      simp only [execOp, resolve, hc, pure_bind, invoke]
      rfl
    | value f =>
      rw [hc] at e
      simp only at e
      cases h2 : aeval tmps f with
      | none => rw [h2] at e; simp at e
      | some fv =>
      rw [h2] at e
      cases fv <;> try (simp at e; done)
      rename_i fn first captured
      cases fn <;> try (simp at e; done)
      rename_i fid
      simp only at e
      obtain ⟨f1, c1, g1, g2, hfv⟩ := ht f (by simp only [Op.operands, Call.operands, hc, Array.toList_append, List.mem_append]; exact .inl (by simp)) _ h2
      have hall := (VRL.append (VRL.append (VRA.toList.1 g1) hr) (VRA.toList.1 g2))
      refine wp_call hcall hI e hall ?_ hK
      simp only [execOp, resolve, hc, hfv, Deferred.ofValue, pure_bind, invoke]
      congr 1
      apply Array.ext'
      simp
end
end Go.Abs
