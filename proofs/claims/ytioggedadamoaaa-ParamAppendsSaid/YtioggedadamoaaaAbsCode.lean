/- Regions, code, calls. -/
import Derived.Test.YtioggedadamoaaaAbsSound
import Derived.Scope
import Derived.Deep.LoopGhost
set_option autoImplicit false
set_option linter.unusedVariables false
set_option linter.unusedSimpArgs false
namespace Go.Abs
open Go.RowKit
section
variable {P : Program} {B : Nat → Prop} {w0 : World}
theorem VR.bool_iff {ρ : Rho} {v v' : Value} (h : VR ρ v v') (b : Bool) : v = .bool b ↔ v' = .bool b := by
  cases v with
  | bool | int | float | complex | string | nilFunc | nilIface => simp only [VR] at h; subst h; rfl
  | pointer a => cases a with
    | none => simp only [VR] at h; subst h; rfl
    | some a => obtain ⟨_, _, rfl⟩ := h; simp
  | slice a l c => cases a with
    | none => simp only [VR] at h; subst h; rfl
    | some a => obtain ⟨_, _, _, rfl⟩ := h; simp
  | map r => cases r with
    | none => simp only [VR] at h; subst h; rfl
    | some a => obtain ⟨_, _, rfl⟩ := h; simp
  | chan r => cases r with
    | none => simp only [VR] at h; subst h; rfl
    | some a => simp [VR] at h
  | func fn fs cs => obtain ⟨_, _, _, _, rfl⟩ := h; simp
  | iface t v => obtain ⟨_, _, rfl⟩ := h; simp
  | agg cs => obtain ⟨_, _, rfl⟩ := h; simp
  | tuple cs => obtain ⟨_, _, rfl⟩ := h; simp
def boolOf : Option Value → Option Bool
  | some (.bool b) => some b
  | _ => none
theorem yielded_eq (ops : Array Oper) (tmps : Array Value) (j : Nat) : yielded ops tmps j = boolOf (((ops[j]?).bind (·.dst)).bind (tmps[·]?)) := by
  unfold yielded boolOf
  split <;> split <;> simp_all
theorem boolOf_rel {ρ : Rho} {t t' : Array Value} (h : VRA ρ t t') (d : Nat) : boolOf t[d]? = boolOf t'[d]? := by
  cases hd : t[d]? with
  | none =>
    have : t'[d]? = none := by
      rw [Array.getElem?_eq_none_iff] at hd ⊢
      rw [h.size]; exact hd
    rw [this]
  | some v =>
    obtain ⟨v', hv, hr⟩ := h.get d v hd
    rw [hv]
    cases hb : boolOf (some v) with
    | some b =>
      have : v = .bool b := by
        unfold boolOf at hb
        cases v <;> simp_all
      have h2 := (hr.bool_iff b).1 this
      rw [h2]; rfl
    | none =>
      cases hb2 : boolOf (some v') with
      | none => rfl
      | some b =>
        have : v' = .bool b := by
          unfold boolOf at hb2
          cases v' <;> simp_all
        have h2 := (hr.bool_iff b).2 this
        rw [h2] at hb
        simp [boolOf] at hb
theorem wanted_rel {ρ : Rho} {t t' : Array Value} (h : VRA ρ t t') (ops : Array Oper) (o : Oper) : Region.wanted o (yielded ops t) = Region.wanted o (yielded ops t') := by
  unfold Region.wanted
  cases o.guard with
  | none => rfl
  | some g =>
    obtain ⟨j, b⟩ := g
    simp only
    rw [yielded_eq, yielded_eq]
    cases h1 : (ops[j]?).bind (·.dst) with
    | none => rfl
    | some d => simp only [Option.bind_some]; rw [boolOf_rel h d]
theorem aput_rel {ρ : Rho} {t : Array Value} {a : Act} (h : VRA ρ t a.tmps) (dst : Option Tmp) {v v' : Value} (k : VR ρ v v') : VRA ρ (aput t dst v) (a.put dst v').tmps := by
  cases dst with
  | none => exact h
  | some d =>
    show VRA ρ (setS t d v) _
    rw [setS_eq]
    exact h.set k d
theorem put_defers (a : Act) (dst : Option Tmp) (v : Value) : (a.put dst v).defers = a.defers := by cases dst <;> rfl
theorem aops_sound {call : CallF} (hcall : CallSound P B w0 call) (ops : Array Oper) {Q : Exit → Act → World → Prop} : ∀ (m k : Nat), k + m = ops.size → ∀ (tmps : Array Value) (A : AW) (tmps1 : Array Value) (A1 : AW) (ρ : Rho) (w : World) (a : Act),
    aops P call ops (ops.toList.drop k) tmps A = some (tmps1, A1) → Inv B w0 ρ A w → VRA ρ tmps a.tmps →
    (∀ ρ1 w1 a1, Ext ρ ρ1 → Inv B w0 ρ1 A1 w1 → VRA ρ1 tmps1 a1.tmps → a1.defers = a.defers → Q .normal a1 w1) → wpOps P ops Q (List.range' k m) a w
  | 0, k, hk, tmps, A, tmps1, A1, ρ, w, a, e, hI, ht, hQ => by
    rw [List.drop_of_length_le (by simp; omega)] at e
    simp only [aops, Option.some.injEq, Prod.mk.injEq] at e
    obtain ⟨rfl, rfl⟩ := e
    exact hQ ρ w a (Ext.refl _) hI ht rfl
  | m + 1, k, hk, tmps, A, tmps1, A1, ρ, w, a, e, hI, ht, hQ => by
    have hlt : k < ops.size := by omega
    have hdrop : ops.toList.drop k = ops[k] :: ops.toList.drop (k + 1) := by
      rw [List.drop_eq_getElem_cons (by simpa using hlt)]
      simp
    rw [hdrop] at e
    unfold aops at e
    rw [List.range'_succ]
    unfold wpOps
    simp only [Array.getElem?_eq_getElem hlt]
    rw [← wanted_rel ht]
    cases hw : Region.wanted ops[k] (yielded ops tmps) with
    | false =>
      rw [hw] at e
      simp only [cond_false] at e
      simp only [Bool.false_eq_true, if_false]
      exact aops_sound hcall ops m (k + 1) (by omega) _ A tmps1 A1 ρ w _ e hI (aput_rel ht _ VR.undef) fun ρ1 w1 a1 h1 h2 h3 h4 => hQ ρ1 w1 a1 h1 h2 h3 (by rw [h4, put_defers])
    | true =>
      rw [hw] at e
      simp only [cond_true] at e
      simp only [if_true]
      cases ho : aop P call tmps ops[k] A with
      | none => rw [ho] at e; simp at e
      | some va =>
        obtain ⟨v, A2⟩ := va
        rw [ho] at e
        simp only at e
        refine .inl (aop_sound hcall ho hI (fun x _ v hv => aeval_rel ht hv) ?_)
        intro ρ1 w1 v' h1 h2 h3
        exact aops_sound hcall ops m (k + 1) (by omega) _ A2 tmps1 A1 ρ1 w1 _ e h2 (aput_rel (VRA.ext h1 _ _ ht) _ h3) fun ρ2 w2 a2 g1 g2 g3 g4 => hQ ρ2 w2 a2 (h1.trans g1) g2 g3 (by rw [g4, put_defers])
def exitOf : X → Exit
  | .n => .normal
  | .e id => .exit id
  | .r => .ret
def DrawSound (P : Program) (B : Nat → Prop) (w0 : World) (draws : Array Oper → Array Value → AW → Option (Array Value × AW)) : Prop :=
  ∀ (ops : Array Oper) (id : Nat) (tmps : Array Value) (A : AW) (tmps1 : Array Value) (A1 : AW) (ρ : Rho) (w : World) (a : Act) (Q : Exit → Act → World → Prop), draws ops tmps A = some (tmps1, A1) →
    Inv B w0 ρ A w → VRA ρ tmps a.tmps → (∀ ρ1 w1 a1, Ext ρ ρ1 → Inv B w0 ρ1 A1 w1 → VRA ρ1 tmps1 a1.tmps → a1.defers = a.defers → Q .normal a1 w1) → (Code.region id ops true).wp P Q a w
def To (B : Nat → Prop) (w0 : World) (ρ : Rho) (a : Act) (x : X) (tmps1 : Array Value) (A1 : AW) : Exit → Act → World → Prop :=
  fun e a1 w1 => e = exitOf x ∧ ∃ ρ1, Ext ρ ρ1 ∧ Inv B w0 ρ1 A1 w1 ∧ VRA ρ1 tmps1 a1.tmps ∧ a1.defers = a.defers
theorem iter_sound {body : Code} {step : Array Value → AW → Res} 
    (hstep : ∀ (tmps : Array Value) (A : AW) (x : X) (tmps1 : Array Value) (A1 : AW) (ρ : Rho) (w : World) (a : Act), step tmps A = some (x, tmps1, A1) → Inv B w0 ρ A w → VRA ρ tmps a.tmps → body.wp P (To B w0 ρ a x tmps1 A1) a w) :
    ∀ (k : Nat) (tmps : Array Value) (A : AW) (x : X) (tmps1 : Array Value) (A1 : AW) (ρ : Rho) (w : World) (a : Act), iter step k tmps A = some (x, tmps1, A1) → Inv B w0 ρ A w → VRA ρ tmps a.tmps →
      (Code.loop body).wp P (To B w0 ρ a x tmps1 A1) a w := by
  intro k tmps A x tmps1 A1 ρ w a e hI ht
  refine wp_loop_ghost (fun k' a' w' => ∃ tmps' A' ρ', iter step k' tmps' A' = some (x, tmps1, A1) ∧ Ext ρ ρ' ∧ Inv B w0 ρ' A' w' ∧ VRA ρ' tmps' a'.tmps ∧ a'.defers = a.defers) k ⟨tmps, A, ρ, e, Ext.refl _, hI, ht, rfl⟩ ?_
  rintro n a2 w2 ⟨tmps2, A2, ρ2, e2, h1, h2, h3, h4⟩
  cases n with
  | zero => simp [iter] at e2
  | succ n =>
    unfold iter at e2
    cases hs : step tmps2 A2 with
    | none => rw [hs] at e2; simp at e2
    | some r =>
      obtain ⟨y, t3, A3⟩ := r
      rw [hs] at e2
      have hb := hstep tmps2 A2 y t3 A3 ρ2 w2 a2 hs h2 h3
      refine wp_mono hb ?_
      rintro en a3 w3 ⟨rfl, ρ3, g1, g2, g3, g4⟩
      cases y with
      | n => exact ⟨n, Nat.lt_succ_self _, t3, A3, ρ3, e2, h1.trans g1, g2, g3, by rw [g4, h4]⟩
      | e id =>
        simp only [Option.some.injEq, Prod.mk.injEq] at e2
        obtain ⟨rfl, rfl, rfl⟩ := e2
        exact ⟨rfl, ρ3, h1.trans g1, g2, g3, by rw [g4, h4]⟩
      | r =>
        simp only [Option.some.injEq, Prod.mk.injEq] at e2
        obtain ⟨rfl, rfl, rfl⟩ := e2
        exact ⟨rfl, ρ3, h1.trans g1, g2, g3, by rw [g4, h4]⟩
theorem To.mono {ρ σ : Rho} {a b : Act} {x : X} {t : Array Value} {A : AW} (h : Ext ρ σ) (hd : b.defers = a.defers) {e : Exit} {a1 : Act} {w1 : World} (k : To B w0 σ b x t A e a1 w1) : To B w0 ρ a x t A e a1 w1 := by
  obtain ⟨rfl, ρ1, g1, g2, g3, g4⟩ := k
  exact ⟨rfl, ρ1, h.trans g1, g2, g3, by rw [g4, hd]⟩
theorem acode_sound {call : CallF} (hcall : CallSound P B w0 call) {draws : Array Oper → Array Value → AW → Option (Array Value × AW)} (hdraw : DrawSound P B w0 draws) (rounds : Nat) :
    ∀ (c : Code) (tmps : Array Value) (A : AW) (x : X) (tmps1 : Array Value) (A1 : AW) (ρ : Rho) (w : World) (a : Act), acode P call draws rounds c tmps A = some (x, tmps1, A1) → Inv B w0 ρ A w → VRA ρ tmps a.tmps →
      c.wp P (To B w0 ρ a x tmps1 A1) a w := by
  intro c
  induction c with
  | skip =>
    intro tmps A x tmps1 A1 ρ w a e hI ht
    simp only [acode, Option.some.injEq, Prod.mk.injEq] at e
    obtain ⟨rfl, rfl, rfl⟩ := e
    exact wp_skip ⟨rfl, ρ, Ext.refl _, hI, ht, rfl⟩
  | label l =>
    intro tmps A x tmps1 A1 ρ w a e hI ht
    simp only [acode, Option.some.injEq, Prod.mk.injEq] at e
    obtain ⟨rfl, rfl, rfl⟩ := e
    exact wp_label ⟨rfl, ρ, Ext.refl _, hI, ht, rfl⟩
  | region id ops draw =>
    intro tmps A x tmps1 A1 ρ w a e hI ht
    cases draw with
    | false =>
      simp only [acode] at e
      cases ho : aops P call ops ops.toList tmps A with
      | none => rw [ho] at e; simp at e
      | some r =>
        obtain ⟨t2, A2⟩ := r
        rw [ho] at e
        simp only [Option.some.injEq, Prod.mk.injEq] at e
        obtain ⟨rfl, rfl, rfl⟩ := e
        refine wp_region ?_
        have := aops_sound hcall ops (Q := To B w0 ρ a .n t2 A2) ops.size 0 (by omega) tmps A t2 A2 ρ w a (by simpa using ho) hI ht
          (fun ρ1 w1 a1 h1 h2 h3 h4 => ⟨rfl, ρ1, h1, h2, h3, h4⟩)
        rwa [← List.range_eq_range'] at this
    | true =>
      simp only [acode] at e
      cases ho : draws ops tmps A with
      | none => rw [ho] at e; simp at e
      | some r =>
        obtain ⟨t2, A2⟩ := r
        rw [ho] at e
        simp only [Option.some.injEq, Prod.mk.injEq] at e
        obtain ⟨rfl, rfl, rfl⟩ := e
        exact hdraw ops id tmps A t2 A2 ρ w a _ ho hI ht (fun ρ1 w1 a1 h1 h2 h3 h4 => ⟨rfl, ρ1, h1, h2, h3, h4⟩)
  | seq c1 c2 ih1 ih2 =>
    intro tmps A x tmps1 A1 ρ w a e hI ht
    simp only [acode] at e
    cases h1 : acode P call draws rounds c1 tmps A with
    | none => rw [h1] at e; simp at e
    | some r =>
      obtain ⟨y, t2, A2⟩ := r
      rw [h1] at e
      refine wp_seq (wp_mono (ih1 tmps A y t2 A2 ρ w a h1 hI ht) ?_)
      rintro en a2 w2 ⟨rfl, ρ2, g1, g2, g3, g4⟩
      cases y with
      | n =>
        simp only at e
        exact wp_mono (ih2 t2 A2 x tmps1 A1 ρ2 w2 a2 e g2 g3) fun _ _ _ k => k.mono g1 g4
      | e id =>
        simp only [Option.some.injEq, Prod.mk.injEq] at e
        obtain ⟨rfl, rfl, rfl⟩ := e
        exact ⟨rfl, ρ2, g1, g2, g3, g4⟩
      | r =>
        simp only [Option.some.injEq, Prod.mk.injEq] at e
        obtain ⟨rfl, rfl, rfl⟩ := e
        exact ⟨rfl, ρ2, g1, g2, g3, g4⟩
  | cond c x1 y1 ih1 ih2 =>
    intro tmps A x tmps1 A1 ρ w a e hI ht
    simp only [acode] at e
    cases hc : aeval tmps c with
    | none => rw [hc] at e; simp at e
    | some v =>
      rw [hc] at e
      have hv := aeval_rel ht hc
      cases v <;> try (simp at e; done)
      rename_i b
      simp only [VR] at hv
      cases b with
      | true => exact wp_cond_true hv (ih1 tmps A x tmps1 A1 ρ w a e hI ht)
      | false => exact wp_cond_false hv (ih2 tmps A x tmps1 A1 ρ w a e hI ht)
  | block id body ih =>
    intro tmps A x tmps1 A1 ρ w a e hI ht
    simp only [acode] at e
    cases h1 : acode P call draws rounds body tmps A with
    | none => rw [h1] at e; simp at e
    | some r =>
      obtain ⟨y, t2, A2⟩ := r
      rw [h1] at e
      refine wp_block (wp_mono (ih tmps A y t2 A2 ρ w a h1 hI ht) ?_)
      rintro en a2 w2 ⟨rfl, ρ2, g1, g2, g3, g4⟩
      cases y with
      | n =>
        simp only [Option.some.injEq, Prod.mk.injEq] at e
        obtain ⟨rfl, rfl, rfl⟩ := e
        exact ⟨rfl, ρ2, g1, g2, g3, g4⟩
      | e i =>
        simp only [bif_beq] at e
        simp only [exitOf, Exit.inBlock]
        by_cases hi : i = id
        · rw [if_pos hi] at e ⊢
          simp only [Option.some.injEq, Prod.mk.injEq] at e
          obtain ⟨rfl, rfl, rfl⟩ := e
          exact ⟨rfl, ρ2, g1, g2, g3, g4⟩
        · rw [if_neg hi] at e ⊢
          simp only [Option.some.injEq, Prod.mk.injEq] at e
          obtain ⟨rfl, rfl, rfl⟩ := e
          exact ⟨rfl, ρ2, g1, g2, g3, g4⟩
      | r =>
        simp only [Option.some.injEq, Prod.mk.injEq] at e
        obtain ⟨rfl, rfl, rfl⟩ := e
        exact ⟨rfl, ρ2, g1, g2, g3, g4⟩
  | loop body ih =>
    intro tmps A x tmps1 A1 ρ w a e hI ht
    simp only [acode] at e
    exact iter_sound (fun t A x t1 A1 ρ w a => ih t A x t1 A1 ρ w a) rounds tmps A x tmps1 A1 ρ w a e hI ht
  | rangeFunc f ps as body ih1 ih2 =>
    intro tmps A x tmps1 A1 ρ w a e hI ht
    simp [acode] at e
  | exit id =>
    intro tmps A x tmps1 A1 ρ w a e hI ht
    simp only [acode, Option.some.injEq, Prod.mk.injEq] at e
    obtain ⟨rfl, rfl, rfl⟩ := e
    exact wp_exit ⟨rfl, ρ, Ext.refl _, hI, ht, rfl⟩
  | scope body ih =>
    intro tmps A x tmps1 A1 ρ w a e hI ht
    simp only [acode] at e
    refine wp_scope_straight (wp_mono (ih tmps A x tmps1 A1 ρ w a e hI ht) ?_)
    rintro en a2 w2 ⟨rfl, k⟩
    cases x <;> exact ⟨rfl, k⟩
  | goto l =>
    intro tmps A x tmps1 A1 ρ w a e hI ht
    simp [acode] at e
  | ret =>
    intro tmps A x tmps1 A1 ρ w a e hI ht
    simp only [acode, Option.some.injEq, Prod.mk.injEq] at e
    obtain ⟨rfl, rfl, rfl⟩ := e
    exact wp_ret ⟨rfl, ρ, Ext.refl _, hI, ht, rfl⟩
  | refuse why =>
    intro tmps A x tmps1 A1 ρ w a e hI ht
    simp [acode] at e
def resOf (t : Array Value) : ResultVar → Sem Value
  | .tmp d => pure (t.getD d undef)
  | .cell a ty => do loadVar ty (← asAddr (t.getD a undef))
theorem resOf_rel {ρ : Rho} {A : AW} {w : World} (hI : Inv B w0 ρ A w) {tmps t' : Array Value} (ht : VRA ρ tmps t') {r : ResultVar} {v : Value} (e : aresult P tmps A r = some v) :
    ∃ v', VR ρ v v' ∧ (resOf t' r).run P w = .ok v' w := by
  cases r with
  | tmp d =>
    simp only [aresult, getS_eq, Option.some.injEq] at e
    subst e
    exact ⟨_, ht.getD d, rfl⟩
  | cell a ty =>
    simp only [aresult, getS_eq] at e
    have hg := ht.getD a
    split at e
    · rename_i ad hv
      rw [hv] at hg
      obtain ⟨a', ha, hv'⟩ := hg
      obtain ⟨v', r1, r2⟩ := load_rel (P := P) hI ha e
      refine ⟨v', r2, ?_⟩
      show Sem.run P (asAddr (t'.getD a undef) >>= _) w = _
      rw [hv']
      exact r1
    · simp at e
theorem aresults_rel {ρ : Rho} {A : AW} {w : World} (hI : Inv B w0 ρ A w) {tmps t' : Array Value} (ht : VRA ρ tmps t') : ∀ {rs : List ResultVar} {vs : List Value}, aresults P tmps A rs = some vs →
    ∃ vs', VRL ρ vs vs' ∧ (rs.mapM (resOf t')).run P w = .ok vs' w
  | [], vs, e => by
    simp only [aresults, Option.some.injEq] at e
    subst e
    exact ⟨[], by simp [VRL], rfl⟩
  | r :: rs, vs, e => by
    unfold aresults at e
    cases h1 : aresult P tmps A r with
    | none => rw [h1] at e; simp at e
    | some v =>
      cases h2 : aresults P tmps A rs with
      | none => rw [h1, h2] at e; simp at e
      | some l =>
        rw [h1, h2] at e
        simp only [Option.some.injEq] at e
        subst e
        obtain ⟨vs', k1, k2⟩ := aresults_rel hI ht h2
        obtain ⟨v', q1, q2⟩ := resOf_rel (P := P) hI ht h1
        refine ⟨v' :: vs', ⟨v', vs', rfl, q1, k1⟩, ?_⟩
        rw [List.mapM_cons, Sem.run_bind, q2]
        simp only [Result.andThen_ok]
        rw [Sem.run_bind, k2]
        rfl
theorem atuple_rel {ρ : Rho} {vs vs' : List Value} (h : VRL ρ vs vs') : VR ρ (atuple vs) (if h : vs'.toArray.size = 1 then vs'.toArray[0] else .tuple vs'.toArray) := by
  match vs, h with
  | [], h =>
    simp only [VRL] at h
    subst h
    exact ⟨#[], by simp [VRA, VRL], rfl⟩
  | [v], h =>
    obtain ⟨v', r, rfl, hv, hr⟩ := h
    simp only [VRL] at hr
    subst hr
    simpa [atuple] using hv
  | a :: b :: l, h =>
    have hl := h.length
    rw [dif_neg (by simp [hl])]
    exact ⟨_, VRA.mk h, rfl⟩
theorem results_rel {ρ : Rho} {A : AW} {w : World} (hI : Inv B w0 ρ A w) {tmps t' : Array Value} (ht : VRA ρ tmps t') {fn : Func} {vs : List Value} (e : aresults P tmps A fn.results.toList = some vs) :
    ∃ v', (results fn t').run P w = .ok v' w ∧ VR ρ (atuple vs) v' := by
  obtain ⟨vs', k1, k2⟩ := aresults_rel (P := P) hI ht e
  refine ⟨_, ?_, atuple_rel k1⟩
  have hm : results fn t' = (do
      let vs ← fn.results.mapM (resOf t')
      pure (if h : vs.size = 1 then vs[0] else .tuple vs)) := by
    unfold results
    congr 1
  rw [hm, Array.mapM_eq_mapM_toList, Sem.run_bind, Sem.run_map, k2]
  rfl
def acall (P : Program) (pre : FuncId → Option (List Value → AW → Option (Value × AW))) (draws : CallF → Array Oper → Array Value → AW → Option (Array Value × AW)) (rounds : Nat) : Nat → CallF
  | 0, _, _, _ => none
  | n + 1, f, args, A =>
    match pre f with
    | some g => g args A
    | none => match P.funcs[f]? with
      | none => none
      | some fn => match fn.body with
        | none => none
        | some body =>
          match acode P (acall P pre draws rounds n) (draws (acall P pre draws rounds n)) rounds body (initT args fn.ntmps) A with
          | some (.n, tmps, A1) | some (.r, tmps, A1) => match aresults P tmps A1 fn.results.toList with
            | some vs => some (atuple vs, A1)
            | none => none
          | _ => none
theorem VRL.undefs {ρ : Rho} : ∀ (n : Nat), VRL ρ (List.replicate n undef) (List.replicate n undef)
  | 0 => by simp [VRL]
  | n + 1 => ⟨undef, List.replicate n undef, rfl, VR.undef, VRL.undefs n⟩
def PreSound (P : Program) (B : Nat → Prop) (w0 : World) (pre : FuncId → Option (List Value → AW → Option (Value × AW))) : Prop :=
  CallSound P B w0 fun f args A => match pre f with | some g => g args A | none => none
theorem acall_sound {pre : FuncId → Option (List Value → AW → Option (Value × AW))} (hpre : PreSound P B w0 pre) {draws : CallF → Array Oper → Array Value → AW → Option (Array Value × AW)}
    (hdraw : ∀ call, CallSound P B w0 call → DrawSound P B w0 (draws call)) (hname : ∀ (f : FuncId) (fn : Func), P.funcs[f]? = some fn → (fn.name == "runtime.NumGoroutine") = false) (rounds : Nat) :
    ∀ n, CallSound P B w0 (acall P pre draws rounds n)
  | 0 => fun f args A v A1 ρ w args' e => by simp [acall] at e
  | n + 1 => fun f args A v A1 ρ w args' e hI ha => by
    unfold acall at e
    cases hp : pre f with
    | some g =>
      rw [hp] at e
      exact hpre f args A v A1 ρ w args' (by simp only [hp]; exact e) hI ha
    | none =>
      rw [hp] at e
      simp only at e
      cases hf : P.funcs[f]? with
      | none => rw [hf] at e; simp at e
      | some fn =>
        rw [hf] at e
        simp only at e
        cases hb : fn.body with
        | none => rw [hb] at e; simp at e
        | some body =>
          rw [hb] at e
          simp only [initT_eq] at e
          refine ⟨⟨fn, rfl, hname f fn hf, by rw [hb]; rfl⟩, ?_⟩
          have ih := acall_sound hpre hdraw hname rounds n
          have hlen : args'.length = args.length := ha.length
          have fin : ∀ (x : X) (tmps : Array Value) (A2 : AW), (x = .n ∨ x = .r) → acode P (acall P pre draws rounds n) (draws (acall P pre draws rounds n)) rounds body (args.toArray ++ Array.replicate (fn.ntmps - args.length) undef) A = some (x, tmps, A2) →
              (match aresults P tmps A2 fn.results.toList with
              | some vs => some (atuple vs, A2)
              | none => none) = some (v, A1) →
              Calls P f args'.toArray w fun e w1 => ∃ ρ1 v', e = .returned v' ∧ Ext ρ ρ1 ∧ Inv B w0 ρ1 A1 w1 ∧ VR ρ1 v v' := by
            intro x tmps A2 hx hc hr
            refine calls_of_wp hf hb ?_
            have htm : VRA ρ (args.toArray ++ Array.replicate (fn.ntmps - args.length) undef) (args'.toArray ++ Array.replicate (fn.ntmps - args'.toArray.size) undef) := by
              rw [VRA.toList]
              have : fn.ntmps - args'.toArray.size = fn.ntmps - args.length := by simp [hlen]
              rw [this]
              simpa using ha.append (VRL.undefs _)
            refine wp_mono (acode_sound ih (hdraw _ ih) rounds body _ A x tmps A2 ρ w { tmps := args'.toArray ++ Array.replicate (fn.ntmps - args'.toArray.size) undef, defers := [] } hc hI htm) ?_
            rintro en a1 w1 ⟨rfl, ρ1, g1, g2, g3, g4⟩
            cases hv : aresults P tmps A2 fn.results.toList with
            | none => rw [hv] at hr; simp at hr
            | some vs =>
              rw [hv] at hr
              simp only [Option.some.injEq, Prod.mk.injEq] at hr
              obtain ⟨rfl, rfl⟩ := hr
              obtain ⟨v', k1, k2⟩ := results_rel (P := P) g2 g3 hv
              have main : a1.defers = [] ∧ ∃ v, (results fn a1.tmps).run P w1 = .ok v w1 ∧ ∃ ρ1 v', Ending.returned v = .returned v' ∧ Ext ρ ρ1 ∧ Inv B w0 ρ1 A2 w1 ∧ VR ρ1 (atuple vs) v' := ⟨g4, v', k1, ρ1, v', rfl, g1, g2, k2⟩
              rcases hx with rfl | rfl
              · exact main
              · exact main
          split at e
          · rename_i tmps A2 hc
            exact fin .n tmps A2 (.inl rfl) hc e
          · rename_i tmps A2 hc
            exact fin .r tmps A2 (.inr rfl) hc e
          · simp at e
end
end Go.Abs
