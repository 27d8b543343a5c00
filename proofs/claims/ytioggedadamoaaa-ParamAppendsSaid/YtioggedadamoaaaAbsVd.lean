/- Contracts whose end is a few blocks one by one; calls of them, also within regions that draw their order. -/
import Derived.Test.YtioggedadamoaaaAbsVc
set_option autoImplicit false
set_option linter.unusedVariables false
set_option linter.unusedSimpArgs false
namespace Go.Abs
open Go.RowKit
def Shut (s : List AObj) (v : Value) : Prop := ∀ τ : Nat → Nat, (∀ i, i < 64 → τ i = i) → ren τ v = v ∧ ∀ b, b < s.length → renO τ (getO s b) = getO s b
theorem Inv.low {K : Nat → Prop} {w0 : World} {ρ : Rho} {w : World} {s : List AObj} {g : Nat → AObj} {N : Nat} (h : Inv K w0 ρ (hp s g N) w) (hs : s.length < 64) {v : Value} (hc : Shut s v) :
    Inv K w0 (fun b => if b < 64 then ρ b else none) (hp s noG 0) w := by
  have isIn : ∀ b, b < 64 → (hp s g N).get b = (hp s noG 0).get b := fun b hb => by rw [hp_low hb, hp_low hb]
  have inv : ∀ b e, (if b < 64 then ρ b else none) = some e → b < 64 ∧ ρ b = some e := by
    intro b e hb
    by_cases k : b < 64
    · rw [if_pos k] at hb; exact ⟨k, hb⟩
    · rw [if_neg k] at hb; cases hb
  refine ⟨h.below, h.base, ?_, ?_, ?_, hp_nx' hs, ?_⟩
  · intro b e hb
    obtain ⟨h1, h2⟩ := inv b e hb
    obtain ⟨k1, k2, k3⟩ := h.at_ b e h2
    refine ⟨by rw [hp_size]; omega, k2, ?_⟩
    rw [← isIn b h1]
    have hbs : b < s.length := by
      rcases Nat.lt_or_ge b s.length with q | q
      · exact q
      · have := h.notKept h2
        rw [hp_low h1, getO_ge _ _ q] at this
        exact (this rfl).elim
    let τ : Nat → Nat := fun i => if i < 64 then i else N + 64 + i
    have hτ : ∀ i, i < 64 → τ i = i := fun i hi => if_pos hi
    have hr := (hc τ hτ).2 b hbs
    rw [hp_low h1] at k3 ⊢
    rw [← hr, OInv_ren] at k3
    have e2 : (fun b => ρ (τ b)) = fun b => if b < 64 then ρ b else none := by
      funext i
      by_cases k : i < 64
      · rw [if_pos k, hτ i k]
      · rw [if_neg k]
        show ρ (if i < 64 then i else N + 64 + i) = none
        rw [if_neg k]
        exact h.dead_ _ (by rw [hp_size]; omega)
    rwa [e2] at k3
  · intro b c e f hne hb hc2 hlb hlc
    obtain ⟨b1, b2⟩ := inv b e hb
    obtain ⟨c1, c2⟩ := inv c f hc2
    exact h.sep b c e f hne b2 c2 (by rw [isIn b b1]; exact hlb) (by rw [isIn c c1]; exact hlc)
  · intro b hb
    rw [hp_size] at hb
    show (if b < 64 then ρ b else none) = none
    rw [if_neg (by omega)]
  · intro b h1 h2
    rw [hp_size] at h1
    have hb : b < 64 := by omega
    show ∃ e, (if b < 64 then ρ b else none) = some e
    rw [if_pos hb]
    exact h.full b (by rw [hp_size]; omega) (by rw [isIn b hb]; exact h2)
theorem VR.low {ρ : Rho} {v v' : Value} (h : VR ρ v v') {s : List AObj} (hc : Shut s v) (M : Nat) (hM : ∀ b, M ≤ b → ρ b = none) : VR (fun b => if b < 64 then ρ b else none) v v' := by
  let τ : Nat → Nat := fun i => if i < 64 then i else M + i
  have hτ : ∀ i, i < 64 → τ i = i := fun i hi => if_pos hi
  have hr := (hc τ hτ).1
  rw [← hr, VR_ren] at h
  have e2 : (fun b => ρ (τ b)) = fun b => if b < 64 then ρ b else none := by
    funext i
    by_cases k : i < 64
    · rw [if_pos k, hτ i k]
    · rw [if_neg k]
      show ρ (if i < 64 then i else M + i) = none
      rw [if_neg k]
      exact hM _ (by omega)
  rwa [e2] at h
def FH (P : Program) (f : FuncId) (sH : List AObj) (args : List Value) (Q : Value → List AObj → Prop) : Prop :=
  FC P f (hp sH noG 0) args fun v H1 => ∃ s1, H1 = hp s1 noG 0 ∧ Q v s1
def StayOs (τ : Nat → Nat) (k : Nat) : Nat → List AObj → Prop
  | _, [] => True
  | i, o :: os => (i = k ∨ renO τ o = o) ∧ StayOs τ k (i + 1) os
theorem StayOs.get {τ : Nat → Nat} {k : Nat} : ∀ {s : List AObj} {i : Nat}, StayOs τ k i s → ∀ b, b < s.length → i + b ≠ k → renO τ (getO s b) = getO s b
  | [], _, _, b, h, _ => by simp at h
  | o :: s, i, h, 0, _, hk => h.1.resolve_left (by simpa using hk)
  | o :: s, i, h, b + 1, hb, hk => StayOs.get h.2 b (by simpa using hb) (by omega)
theorem shut_intro {s : List AObj} {v : Value} (hs : Nat.blt s.length 64 = true) (h : ∀ τ : Nat → Nat, (∀ i, i < 64 → τ i = i) → ren τ v = v ∧ StayOs τ 64 0 s) : Shut s v := fun τ hτ =>
  ⟨(h τ hτ).1, fun b hb => (h τ hτ).2.get b hb (by have : s.length < 64 := Nat.le_of_ble_eq_true hs; omega)⟩
def EndsH (P : Program) (sH : List AObj) (rs : List ResultVar) (Q : Value → List AObj → Prop) : X → Slots → AW → Prop
  | .e _, _, _ => False
  | _, S, A => ∃ vs s g N ts us s1 v, eresults P S A rs = some vs ∧ A = hp s g N ∧ Bulk g N ∧ (Nat.blt s.length 64 && Nat.blt s1.length 64 && distinct ts && fromOk ts 0 us && Nat.beq us.length s1.length) = true ∧
    (Nat.blt sH.length 64 && pinOk sH.length ts 0) = true ∧ RenL (tau ts N) s1 s ts ∧ ren (tau ts N) (atuple vs) = v ∧ Shut s1 v ∧ Q v s1
section
variable {P : Program} {K : Nat → Prop} {w0 : World} {pin : Nat → Prop} {n : Nat} {S : Slots}
theorem EndsH_r {sH : List AObj} {rs : List ResultVar} {Q : Value → List AObj → Prop} {s : List AObj} {g : Nat → AObj} {N : Nat} (hB : Bulk g N) (vs : List Value) (ts us : List Nat) (s1 : List AObj) (v : Value) (h1 : eresults P S (hp s g N) rs = some vs)
    (h2 : (Nat.blt s.length 64 && Nat.blt s1.length 64 && distinct ts && fromOk ts 0 us && Nat.beq us.length s1.length) = true) (h3 : (Nat.blt sH.length 64 && pinOk sH.length ts 0) = true) (h4 : RenL (tau ts N) s1 s ts) (h5 : ren (tau ts N) (atuple vs) = v) (h6 : Shut s1 v) (h7 : Q v s1) :
    EndsH P sH rs Q .r S (hp s g N) := ⟨vs, s, g, N, ts, us, s1, v, h1, rfl, hB, h2, h3, h4, h5, h6, h7⟩
theorem EndsH_n {sH : List AObj} {rs : List ResultVar} {Q : Value → List AObj → Prop} {s : List AObj} {g : Nat → AObj} {N : Nat} (hB : Bulk g N) (vs : List Value) (ts us : List Nat) (s1 : List AObj) (v : Value) (h1 : eresults P S (hp s g N) rs = some vs)
    (h2 : (Nat.blt s.length 64 && Nat.blt s1.length 64 && distinct ts && fromOk ts 0 us && Nat.beq us.length s1.length) = true) (h3 : (Nat.blt sH.length 64 && pinOk sH.length ts 0) = true) (h4 : RenL (tau ts N) s1 s ts) (h5 : ren (tau ts N) (atuple vs) = v) (h6 : Shut s1 v) (h7 : Q v s1) :
    EndsH P sH rs Q .n S (hp s g N) := ⟨vs, s, g, N, ts, us, s1, v, h1, rfl, hB, h2, h3, h4, h5, h6, h7⟩
theorem V.fnh {f : FuncId} {fn : Func} {body : Code} {sH : List AObj} {args : List Value} {Q : Value → List AObj → Prop} (hf : P.funcs[f]? = some fn) (hname : (fn.name == "runtime.NumGoroutine") = false) (hb : fn.body = some body) (hl : Nat.ble args.length fn.ntmps = true)
    (h : ∀ K w0 g N, Bulk g N → V P K w0 (pinOf (hp sH noG 0)) fn.ntmps body (argsS 0 args) (hp sH g N) (EndsH P sH fn.results.toList Q)) : FH P f sH args Q := by
  let R : Value → AW → Prop := fun v A => ∃ s g N ts us s1 v1, A = hp s g N ∧ Bulk g N ∧ (Nat.blt s.length 64 && Nat.blt s1.length 64 && distinct ts && fromOk ts 0 us && Nat.beq us.length s1.length) = true ∧
    (Nat.blt sH.length 64 && pinOk sH.length ts 0) = true ∧ RenL (tau ts N) s1 s ts ∧ ren (tau ts N) v = v1 ∧ Shut s1 v1 ∧ Q v1 s1
  have hfc : FC P f (hp sH noG 0) args R := by
    refine V.fn hf hname hb (Nat.le_of_ble_eq_true hl) fun K w0 => V.mono (h K w0 noG 0 (bulk0 _)) ?_
    intro x S A hx
    cases x with
    | e id => exact hx
    | n => obtain ⟨vs, s, g, N, ts, us, s1, v, h1, h2, h3⟩ := hx; exact ⟨vs, h1, s, g, N, ts, us, s1, v, h2, h3⟩
    | r => obtain ⟨vs, s, g, N, ts, us, s1, v, h1, h2, h3⟩ := hx; exact ⟨vs, h1, s, g, N, ts, us, s1, v, h2, h3⟩
  refine ⟨hfc.1, fun K w0 ρ w args' hI ha => Calls.mono (hfc.2 K w0 ρ w args' hI ha) ?_⟩
  rintro e w1 ⟨v, H1, ρ1, v', ⟨s, g, N, ts, us, s1, v1, rfl, hB, h2, h3, h4, rfl, h6, h7⟩, rfl, k1, k2, k3⟩
  have hlow : ∀ b e, ρ b = some e → b < 64 := fun b e he => by have := (hI.at_ b e he).1; rw [hp_size] at this; omega
  have hr := ren_hp hB h2 h4
  obtain ⟨ρ2, m1, m2⟩ := k2.renum (tau ts N) _ hr.inj hr.lt hr.obj hr.full hr.nx
  have h3' := h3
  simp only [Bool.and_eq_true] at h2 h3
  have hpin := pin_tau (N := N) (Nat.le_of_ble_eq_true h3.1) h3.2
  have hs1 : s1.length < 64 := Nat.le_of_ble_eq_true h2.1.1.1.2
  have hv : VR ρ2 (ren (tau ts N) v) v' := (VR_ren _ _).2 (VR.ext m1 _ _ k3)
  refine ⟨_, hp s1 noG 0, fun b => if b < 64 then ρ2 b else none, v', ⟨s1, rfl, h7⟩, rfl, ?_, m2.low hs1 h6, hv.low h6 (N + 64 + 64) fun b hb => m2.dead_ b (by rw [hp_size]; omega)⟩
  intro b e he
  show (if b < 64 then ρ2 b else none) = some e
  rw [if_pos (hlow b e he)]
  have := m1 b e (k1 b e he)
  rwa [hpin b ⟨(hI.at_ b e he).1, hI.notKept he⟩] at this
theorem backH {s : List AObj} {g : Nat → AObj} {N : Nat} {sH : List AObj} {l : List Nat} (h : PartL s (sigma l (N + 64)) sH l) (hs : s.length < 64) (hH : sH.length < 64) (hd : distinct l = true) {sa sb news : List AObj} {us : List (Option AObj)}
    (hst : StartL (sigma1 l N sH.length s.length) sH sa us) (hn : NewL (sigma1 l N sH.length s.length) sb news) (hfit : s.length + sb.length < 64) (hfit1 : sa.length + sb.length < 64) :
    Back (hp s g N) (sigma l (N + 64)) (hp sH noG 0) (hp (sa ++ sb) noG 0) (sigma1 l N sH.length s.length) (hp (upd s l us ++ news) g N) := by
  have k := backL (g := g) (g1 := noG) (N1 := 0) h hs hH hd hst hn hfit hfit1
  have hsz : (hp (upd s l us ++ news) (gcat g N) (N + 0)).size = (hp (upd s l us ++ news) g N).size := rfl
  have hget : ∀ c, c < N + 64 → (hp (upd s l us ++ news) (gcat g N) (N + 0)).get c = (hp (upd s l us ++ news) g N).get c := by
    intro c hc
    rw [hp_get, hp_get]
    by_cases q : c < 64
    · rw [if_pos q, if_pos q]
    · rw [if_neg q, if_neg q]
      unfold gcat
      rw [if_pos (by omega)]
  have hlt : ∀ b, b < (hp (sa ++ sb) noG 0).size → (hp (sa ++ sb) noG 0).get b ≠ .resv → sigma1 l N sH.length s.length b < N + 64 := fun b h1 h2 => by
    have := k.lt b h1 h2; rw [hp_size] at this; omega
  refine ⟨k.same, k.new, k.inj, k.lt, k.size, ?_, ?_, ?_, ?_⟩
  · intro b h1 h2
    have := k.obj b h1 h2
    rw [hget _ (hlt b h1 h2)] at this
    exact this
  · intro c h1 h2
    have := k.old c h1 h2
    rw [hp_size] at h1
    rw [hget _ (by omega)] at this
    exact this
  · intro c h1 h2
    rw [hp_size] at h1 h2
    omega
  · intro r hr
    obtain ⟨q1, q2, q3⟩ := k.nx r hr
    refine ⟨q1, ?_, fun j j1 j2 => ?_⟩
    · rw [← hget r (by rw [hp_size] at q1; omega)]; exact q2
    · obtain ⟨q4, q5⟩ := q3 j j1 j2
      refine ⟨q4, ?_⟩
      rw [← hget j (by rw [hp_size] at q4; omega)]; exact q5
variable {ops : Array Oper} {i : Nat} {Q : Slots → AW → Prop}
def Came (s : List AObj) (N : Nat) (sH : List AObj) (l : List Nat) (s1 : List AObj) (s2 : List AObj) : Prop :=
  ∃ sa sb us news, s1 = sa ++ sb ∧ (Nat.blt (s.length + sb.length) 64 && Nat.blt (sa.length + sb.length) 64) = true ∧ StartL (sigma1 l N sH.length s.length) sH sa us ∧ NewL (sigma1 l N sH.length s.length) sb news ∧ s2 = upd s l us ++ news
theorem EV.callh {o : Oper} {c : Call} {x : Operand} {f : FuncId} {fs cs : Array Value} {vs : List Value} {s : List AObj} {g : Nat → AObj} {N : Nat} {sH : List AObj} {args : List Value} {Qf : Value → List AObj → Prop} (l : List Nat)
    (hfc : FH P f sH args Qf) (ho : ops[i]? = some o) (hop : o.op = .call c) (hc : c.callee = .value x) (hw : ewant ops S o = some true)
    (hin : opndsIn S (x :: c.args.toList) = true) (hx : aeval (arrOf n S) x = some (.func (.func f) fs cs)) (ha : aevals (arrOf n S) c.args.toList = some vs) (hargs : fs.toList ++ vs ++ cs.toList = renL (sigma l (N + 64)) args)
    (hfit : (Nat.blt s.length 64 && Nat.blt sH.length 64 && distinct l) = true) (hp' : PartL s (sigma l (N + 64)) sH l)
    (hk : ∀ v s1, Qf v s1 → ∃ s2 u, Came s N sH l s1 s2 ∧ u = ren (sigma1 l N sH.length s.length) v ∧ EV P K w0 pin n ops (i + 1) (eput n S o.dst u) (hp s2 g N) Q) : EV P K w0 pin n ops i S (hp s g N) Q := by
  simp only [Bool.and_eq_true] at hfit
  have h1 : s.length < 64 := Nat.le_of_ble_eq_true hfit.1.1
  have h2 : sH.length < 64 := Nat.le_of_ble_eq_true hfit.1.2
  refine EV.fcall (σ := sigma l (N + 64)) ho hop hc hw hin hx ha hargs hfc (hp'.part h1 h2 hfit.2) (hp_nx' h2) ?_
  rintro v H1 ⟨s1, rfl, hq⟩
  obtain ⟨s2, u, ⟨sa, sb, us, news, rfl, k1, k2, k3, rfl⟩, rfl, k4⟩ := hk v s1 hq
  simp only [Bool.and_eq_true] at k1
  exact ⟨_, _, backH hp' h1 h2 hfit.2 k2 k3 (Nat.le_of_ble_eq_true k1.1) (Nat.le_of_ble_eq_true k1.2), k4⟩
def Told (P : Program) (f : FuncId) (args : List Value) (A : AW) (v : Value) (A1 : AW) : Prop :=
  (∃ fn, P.funcs[f]? = some fn ∧ (fn.name == "runtime.NumGoroutine") = false ∧ fn.body.isNone = false) ∧
  ∀ (K : Nat → Prop) (w0 : World) (ρ : Rho) (w : World) (args' : List Value), Inv K w0 ρ A w → VRL ρ args args' →
    Calls P f args'.toArray w fun e w1 => ∃ ρ1 v', e = .returned v' ∧ Ext ρ ρ1 ∧ Inv K w0 ρ1 A1 w1 ∧ VR ρ1 v v'
theorem told_of {f : FuncId} {s : List AObj} {g : Nat → AObj} {N : Nat} {sH : List AObj} {args vs : List Value} {v0 : Value} {s10 : List AObj} (l : List Nat)
    (hfc : FH P f sH args fun v s1 => v = v0 ∧ s1 = s10) (hargs : vs = renL (sigma l (N + 64)) args) (hfit : (Nat.blt s.length 64 && Nat.blt sH.length 64 && distinct l) = true) (hp' : PartL s (sigma l (N + 64)) sH l)
    {s2 : List AObj} {u : Value} (hc : Came s N sH l s10 s2) (hu : u = ren (sigma1 l N sH.length s.length) v0) : Told P f vs (hp s g N) u (hp s2 g N) := by
  simp only [Bool.and_eq_true] at hfit
  have h1 : s.length < 64 := Nat.le_of_ble_eq_true hfit.1.1
  have h2 : sH.length < 64 := Nat.le_of_ble_eq_true hfit.1.2
  have p := hp'.part (g := g) h1 h2 hfit.2
  refine ⟨hfc.1, fun K w0 ρ w args' hI ha => ?_⟩
  rw [hargs, VRL_ren] at ha
  refine Calls.mono (hfc.2 (KPlus ρ _ _ w) w _ w args' (p.inv hI (hp_nx' h2)) ha) ?_
  rintro e w1 ⟨v, H1, ρ1, v', ⟨s1, rfl, rfl, rfl⟩, rfl, q2, q3, q4⟩
  obtain ⟨sa, sb, us, news, rfl, k1, k2, k3, rfl⟩ := hc
  simp only [Bool.and_eq_true] at k1
  obtain ⟨ρ2, r1, r2, r3⟩ := p.back hI q3 q2 (backH hp' h1 h2 hfit.2 k2 k3 (Nat.le_of_ble_eq_true k1.1) (Nat.le_of_ble_eq_true k1.2))
  exact ⟨ρ2, v', rfl, r1, r3, by rw [hu]; exact (VR_ren _ _).2 (VR.ext r2 _ _ q4)⟩
structure Pt where
  f : FuncId
  args : List Value
  A : AW
  v : Value
  A1 : AW
open Classical in
noncomputable def ptPre (l : List Pt) : FuncId → Option (List Value → AW → Option (Value × AW)) := fun f =>
  if ∃ p ∈ l, p.f = f then some (fun args A => if h : ∃ p ∈ l, p.f = f ∧ p.args = args ∧ p.A = A then some ((Classical.choose h).v, (Classical.choose h).A1) else none) else none
theorem ptPre_sound {l : List Pt} (h : ∀ p ∈ l, Told P p.f p.args p.A p.v p.A1) (K : Nat → Prop) (w0 : World) : PreSound P K w0 (ptPre l) := by
  intro f args A v A1 ρ w args' e hI ha
  simp only [ptPre] at e
  by_cases h1 : ∃ p ∈ l, p.f = f
  · rw [if_pos h1] at e
    simp only at e
    by_cases h2 : ∃ p ∈ l, p.f = f ∧ p.args = args ∧ p.A = A
    · rw [dif_pos h2] at e
      simp only [Option.some.injEq, Prod.mk.injEq] at e
      obtain ⟨hm, hf, hargs, hA⟩ := Classical.choose_spec h2
      generalize Classical.choose h2 = p at e hm hf hargs hA
      obtain ⟨rfl, rfl⟩ := e
      subst hf; subst hargs; subst hA
      obtain ⟨t1, t2⟩ := h p hm
      exact ⟨t1, t2 K w0 ρ w args' hI ha⟩
    · rw [dif_neg h2] at e; cases e
  · rw [if_neg h1] at e; simp at e
theorem ptPre_eq {l : List Pt} {p : Pt} (hm : p ∈ l) (hu : ∀ q ∈ l, q.f = p.f → q.args = p.args → q.A = p.A → q = p) {dr : CallF → Array Oper → Array Value → AW → Option (Array Value × AW)} {R m : Nat} :
    acall P (ptPre l) dr R (m + 1) p.f p.args p.A = some (p.v, p.A1) := by
  have h1 : ∃ q ∈ l, q.f = p.f := ⟨p, hm, rfl⟩
  have h2 : ∃ q ∈ l, q.f = p.f ∧ q.args = p.args ∧ q.A = p.A := ⟨p, hm, rfl, rfl, rfl⟩
  unfold acall
  simp only [ptPre]
  rw [if_pos h1]
  simp only
  rw [dif_pos h2]
  obtain ⟨k1, k2, k3, k4⟩ := Classical.choose_spec h2
  rw [hu _ k1 k2 k3 k4]
theorem pt1_eq (p : Pt) {dr : CallF → Array Oper → Array Value → AW → Option (Array Value × AW)} {R m : Nat} : acall P (ptPre [p]) dr R (m + 1) p.f p.args p.A = some (p.v, p.A1) :=
  ptPre_eq (by simp) (by intro q hq; simp at hq; simp [hq])
end
end Go.Abs
