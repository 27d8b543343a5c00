/- Contracts of what the abstract machine tells. -/
import Derived.Test.YtioggedadamoaaaAbsVf
set_option autoImplicit false
set_option linter.unusedVariables false
set_option linter.unusedSimpArgs false
namespace Go.Abs
open Go.RowKit
def plain (s : List AObj) : AW := ⟨s.length, .hp s noG, none, 0⟩
theorem plain_get {s : List AObj} {b : Nat} (h : b < 64) : (plain s).get b = getO s b := by
  show (Tr.hp s noG).get b = _
  rw [Tr.get_hp, if_pos h]
section
variable {K : Nat → Prop} {w0 : World} {ρ : Rho} {A : AW} {w : World}
theorem Inv.openAt (h : Inv K w0 ρ A w) {b : Nat} {cs : List Value} {ro opn : Bool} {esz : Nat} (hg : A.get b = .cells cs ro opn esz) (hb : b < A.size) : Inv K w0 ρ (A.set b (.cells cs ro true esz)) w := by
  obtain ⟨e, he⟩ := h.full b hb (by rw [hg]; rfl)
  have lv : ∀ x, live ((A.set b (.cells cs ro true esz)).get x) = live (A.get x) := by
    intro x
    rw [AW.get_set]
    split
    · rename_i q; rw [q, hg]; rfl
    · rfl
  refine ⟨h.below, h.base, ?_, ?_, h.dead_, h.nx_ne he _, h.full_set he _⟩
  · intro c f hc
    obtain ⟨h1, h2, h3⟩ := h.at_ c f hc
    refine ⟨h1, h2, ?_⟩
    rw [AW.get_set]
    by_cases q : c = b
    · rw [if_pos q]
      rw [q, hg] at h3
      obtain ⟨q1, q2, q3, q4, q5, rest⟩ := h3
      exact ⟨q1, q2, fun k => Bool.noConfusion k, q4, q5, rest⟩
    · rw [if_neg q]; exact h3
  · intro c d f g hne hc hd hlc hld
    rw [lv] at hlc hld
    exact h.sep c d f g hne hc hd hlc hld
theorem Inv.plain {s : List AObj} {g : Nat → AObj} (h : Inv K w0 ρ (hp s g 0) w) (hs : s.length < 64) : Inv K w0 ρ (plain s) w := by
  have hin : ∀ b e, ρ b = some e → b < 64 ∧ b < s.length := by
    intro b e hb
    have h1 := (h.at_ b e hb).1
    rw [hp_size] at h1
    have hb64 : b < 64 := by omega
    refine ⟨hb64, ?_⟩
    rcases Nat.lt_or_ge b s.length with q | q
    · exact q
    · have := h.notKept hb
      rw [hp_low hb64, getO_ge _ _ q] at this
      exact (this rfl).elim
  refine ⟨h.below, h.base, ?_, ?_, ?_, (fun r hr => by cases hr), ?_⟩
  · intro b e hb
    obtain ⟨h1, h2⟩ := hin b e hb
    obtain ⟨k1, k2, k3⟩ := h.at_ b e hb
    rw [hp_low h1] at k3
    exact ⟨h2, k2, by rw [plain_get h1]; exact k3⟩
  · intro b c e f hne hb hc hlb hlc
    rw [plain_get (hin b e hb).1] at hlb
    rw [plain_get (hin c f hc).1] at hlc
    exact h.sep b c e f hne hb hc (by rw [hp_low (hin b e hb).1]; exact hlb) (by rw [hp_low (hin c f hc).1]; exact hlc)
  · intro b hb
    cases hr : ρ b with
    | none => rfl
    | some e =>
      have := (hin b e hr).2
      have hb' : s.length ≤ b := hb
      omega
  · intro b h1 h2
    have h1' : b < s.length := h1
    have hb : b < 64 := by omega
    rw [plain_get hb] at h2
    exact h.full b (by rw [hp_size]; omega) (by rw [hp_low hb]; exact h2)
end
section
variable {P : Program}
theorem FH.ofJ1 {call : CallF} (hcall : ∀ K w0, CallSound P K w0 call) {f : FuncId} {sH : List AObj} {args : List Value} (hs : Nat.blt sH.length 63 = true) {v : Value} {A' : AW} (e : call f args (plain sH) = some (v, A')) (hx : AExt (plain sH) A') (hn : A'.nx = none)
    (hfn : ∃ fn, P.funcs[f]? = some fn ∧ (fn.name == "runtime.NumGoroutine") = false ∧ fn.body.isNone = false)
    {b0 : Nat} {cs : List Value} {opn : Bool} {esz : Nat} (h0 : sH.length ≤ b0) (h1 : b0 < A'.size) (hg : A'.get b0 = .cells cs false opn esz) (hcs : groundL cs = true) {v0 : Value}
    (hv : ∀ τ : Nat → Nat, (∀ i, i < sH.length → τ i = i) → τ b0 = sH.length → ren τ v = v0) (hv0 : ∀ τ : Nat → Nat, (∀ i, i < sH.length + 1 → τ i = i) → ren τ v0 = v0) (hob : ∀ τ : Nat → Nat, (∀ i, i < sH.length → τ i = i) → StayOs τ 64 0 sH) :
    FH P f sH args fun u s1 => u = v0 ∧ s1 = sH ++ [.cells cs false true esz] := by
  have hs' : sH.length < 63 := Nat.le_of_ble_eq_true hs
  refine ⟨hfn, fun K w0 ρ w args' hI ha => ?_⟩
  have hP := hI.plain (by omega)
  obtain ⟨_, hc⟩ := hcall K w0 f args (plain sH) v A' ρ w args' e hP ha
  refine Calls.mono hc ?_
  rintro en w1 ⟨ρ1, v', rfl, k1, k2, k3⟩
  have k2 := k2.openAt hg h1
  have hsz : sH.length ≤ A'.size := hx.size
  let τ : Nat → Nat := fun b => if b < sH.length then b else if b = b0 then sH.length else 64 + b
  have hτ : ∀ b, b < sH.length → τ b = b := fun b hb => if_pos hb
  have hτ0 : τ b0 = sH.length := by show (if b0 < sH.length then b0 else if b0 = b0 then sH.length else 64 + b0) = _; rw [if_neg (by omega), if_pos rfl]
  have hτ2 : ∀ b, sH.length ≤ b → b ≠ b0 → τ b = 64 + b := fun b hb hne => by show (if b < sH.length then b else if b = b0 then sH.length else 64 + b) = _; rw [if_neg (by omega), if_neg hne]
  have hst : ∀ b, b < sH.length → (A'.set b0 (.cells cs false true esz)).get b = getO sH b := fun b hb => by
    rw [AW.get_set, if_neg (by omega), hx.get b hb, plain_get (by omega)]
  let s1 : List AObj := sH ++ [.cells cs false true esz]
  have hs1 : s1.length = sH.length + 1 := by simp [s1]
  have hget1 : ∀ b, b < sH.length → getO s1 b = getO sH b := fun b hb => getO_append_left _ hb
  have hget2 : getO s1 sH.length = .cells cs false true esz := by
    show getO (sH ++ _) _ = _
    rw [getO_append_right _ (Nat.le_refl _), Nat.sub_self]; rfl
  have hr : Ren (A'.set b0 (.cells cs false true esz)) τ (hp s1 noG A'.size) := by
    refine ⟨?_, ?_, ?_, ?_, hp_nx' (by omega)⟩
    · intro b c hb hc _ _ he
      rw [AW.size_set] at hb hc
      have he' : (if b < sH.length then b else if b = b0 then sH.length else 64 + b) = (if c < sH.length then c else if c = b0 then sH.length else 64 + c) := he
      repeat' split at he'
      all_goals omega
    · intro b hb _
      rw [AW.size_set] at hb
      rw [hp_size]
      show (if b < sH.length then b else if b = b0 then sH.length else 64 + b) < _
      split
      · omega
      · split <;> omega
    · intro b hb hne
      rw [AW.size_set] at hb
      rcases Nat.lt_or_ge b sH.length with q | q
      · left
        rw [hτ b q, hp_low (by omega), hst b q, hget1 b q]
        exact ((hob τ hτ).get b q (by omega)).symm
      · by_cases hb0 : b = b0
        · left
          rw [hb0, hτ0, hp_low (by omega), hget2, AW.get_set, if_pos rfl]
          show _ = AObj.cells (renL τ cs) false true esz
          rw [renL_ground _ hcs]
        · right
          rw [hτ2 b q hb0, hp_high (by omega)]; rfl
    · intro c hc hal
      rw [hp_size] at hc
      rcases Nat.lt_or_ge c 64 with q | q
      · rw [hp_low q] at hal
        have hcs1 : c < s1.length := by
          rcases Nat.lt_or_ge c s1.length with r | r
          · exact r
          · rw [getO_ge _ _ r] at hal; cases hal
        rcases Nat.lt_or_ge c sH.length with r | r
        · exact ⟨c, by rw [AW.size_set]; omega, hτ c r, by rw [hst c r, ← hget1 c r]; exact hal⟩
        · have : c = sH.length := by omega
          subst this
          exact ⟨b0, by rw [AW.size_set]; exact h1, hτ0, by rw [AW.get_set, if_pos rfl]; rfl⟩
      · rw [hp_high q] at hal; cases hal
  obtain ⟨ρ2, m1, m2⟩ := k2.renum τ _ hr.inj hr.lt hr.obj hr.full hr.nx
  have hvv : VR ρ2 v0 v' := by
    rw [← hv τ hτ hτ0]
    exact (VR_ren _ _).2 (VR.ext m1 _ _ k3)
  have hsh : Shut s1 v0 := by
    refine shut_intro (Nat.ble_eq_true_of_le (by omega)) fun τ2 h2 => ⟨hv0 τ2 fun i hi => h2 i (by omega), ?_⟩
    have := hob τ2 fun i hi => h2 i (by omega)
    have app : ∀ (l : List AObj) (i : Nat) (o : AObj), StayOs τ2 64 i l → renO τ2 o = o → StayOs τ2 64 i (l ++ [o]) := by
      intro l
      induction l with
      | nil => intro i o _ h; exact ⟨.inr h, trivial⟩
      | cons x l ih => intro i o h1 h2; exact ⟨h1.1, ih (i + 1) o h1.2 h2⟩
    refine app sH 0 _ this ?_
    show AObj.cells (renL τ2 cs) false true esz = _
    rw [renL_ground _ hcs]
  have hlow : ∀ b e, ρ b = some e → b < sH.length := by
    intro b e he
    exact (hP.at_ b e he).1
  refine ⟨v0, hp s1 noG 0, fun b => if b < 64 then ρ2 b else none, v', ⟨s1, rfl, rfl, rfl⟩, rfl, ?_, m2.low (by omega) hsh, hvv.low hsh (A'.size + 64) fun b hb => m2.dead_ b (by rw [hp_size]; omega)⟩
  intro b e he
  have hb := hlow b e he
  show (if b < 64 then ρ2 b else none) = some e
  rw [if_pos (by omega)]
  have := m1 b e (k1 b e he)
  rwa [hτ b hb] at this
theorem FH.ofJ0 {call : CallF} (hcall : ∀ K w0, CallSound P K w0 call) {f : FuncId} {sH : List AObj} {args : List Value} (hs : Nat.blt sH.length 63 = true) {v : Value} {A' : AW} (e : call f args (plain sH) = some (v, A')) (hx : AExt (plain sH) A') (hn : A'.nx = none)
    (hfn : ∃ fn, P.funcs[f]? = some fn ∧ (fn.name == "runtime.NumGoroutine") = false ∧ fn.body.isNone = false)
    (hv : ∀ τ : Nat → Nat, (∀ i, i < sH.length → τ i = i) → ren τ v = v) (hob : ∀ τ : Nat → Nat, (∀ i, i < sH.length → τ i = i) → StayOs τ 64 0 sH) :
    FH P f sH args fun u s1 => u = v ∧ s1 = sH := by
  have hs' : sH.length < 63 := Nat.le_of_ble_eq_true hs
  refine ⟨hfn, fun K w0 ρ w args' hI ha => ?_⟩
  have hP := hI.plain (by omega)
  obtain ⟨_, hc⟩ := hcall K w0 f args (plain sH) v A' ρ w args' e hP ha
  refine Calls.mono hc ?_
  rintro en w1 ⟨ρ1, v', rfl, k1, k2, k3⟩
  have hsz : sH.length ≤ A'.size := hx.size
  let τ : Nat → Nat := fun b => if b < sH.length then b else 64 + b
  have hτ : ∀ b, b < sH.length → τ b = b := fun b hb => if_pos hb
  have hτ2 : ∀ b, sH.length ≤ b → τ b = 64 + b := fun b hb => if_neg (by omega)
  have hst : ∀ b, b < sH.length → A'.get b = getO sH b := fun b hb => by rw [hx.get b hb, plain_get (by omega)]
  have hr : Ren A' τ (hp sH noG A'.size) := by
    refine ⟨?_, ?_, ?_, ?_, hp_nx' (by omega)⟩
    · intro b c hb hc _ _ he
      have he' : (if b < sH.length then b else 64 + b) = (if c < sH.length then c else 64 + c) := he
      split at he' <;> split at he' <;> omega
    · intro b hb _
      rw [hp_size]
      show (if b < sH.length then b else 64 + b) < _
      split <;> omega
    · intro b hb hne
      rcases Nat.lt_or_ge b sH.length with q | q
      · left
        rw [hτ b q, hp_low (by omega), hst b q]
        exact ((hob τ hτ).get b q (by omega)).symm
      · right
        rw [hτ2 b q, hp_high (by omega)]; rfl
    · intro c hc hal
      rw [hp_size] at hc
      rcases Nat.lt_or_ge c 64 with q | q
      · rw [hp_low q] at hal
        rcases Nat.lt_or_ge c sH.length with r | r
        · exact ⟨c, by omega, hτ c r, by rw [hst c r]; exact hal⟩
        · rw [getO_ge _ _ r] at hal; cases hal
      · rw [hp_high q] at hal; cases hal
  obtain ⟨ρ2, m1, m2⟩ := k2.renum τ _ hr.inj hr.lt hr.obj hr.full hr.nx
  have hvv : VR ρ2 v v' := by
    rw [← hv τ hτ]
    exact (VR_ren _ _).2 (VR.ext m1 _ _ k3)
  have hsh : Shut sH v := shut_intro (Nat.ble_eq_true_of_le (by omega)) fun τ2 h2 => ⟨hv τ2 fun i hi => h2 i (by omega), hob τ2 fun i hi => h2 i (by omega)⟩
  refine ⟨v, hp sH noG 0, fun b => if b < 64 then ρ2 b else none, v', ⟨sH, rfl, rfl, rfl⟩, rfl, ?_, m2.low (by omega) hsh, hvv.low hsh (A'.size + 64) fun b hb => m2.dead_ b (by rw [hp_size]; omega)⟩
  intro b e he
  have hb := (hP.at_ b e he).1
  have hb' : b < sH.length := hb
  show (if b < 64 then ρ2 b else none) = some e
  rw [if_pos (by omega)]
  have := m1 b e (k1 b e he)
  rwa [hτ b hb'] at this
theorem Inv.pad {K : Nat → Prop} {w0 : World} {ρ : Rho} {w : World} {s : List AObj} {g : Nat → AObj} {N : Nat} (h : Inv K w0 ρ (hp s g N) w) (hs : s.length < 63) : Inv K w0 ρ (hp (s ++ [.resv]) g N) w := by
  have hget : ∀ b, (hp (s ++ [.resv]) g N).get b = (hp s g N).get b := by
    intro b
    rw [hp_get, hp_get]
    by_cases q : b < 64
    · rw [if_pos q, if_pos q]
      rcases Nat.lt_or_ge b s.length with r | r
      · exact getO_append_left _ r
      · rw [getO_append_right _ r, getO_ge s b r]
        cases b - s.length with
        | zero => rfl
        | succ _ => rfl
    · rw [if_neg q, if_neg q]
  refine ⟨h.below, h.base, ?_, ?_, h.dead_, hp_nx' (by simp; omega), ?_⟩
  · intro b e hb
    rw [hget]; exact h.at_ b e hb
  · intro b c e f hne hb hc hlb hlc
    rw [hget] at hlb hlc
    exact h.sep b c e f hne hb hc hlb hlc
  · intro b h1 h2
    rw [hget] at h2
    exact h.full b h1 h2
theorem FH.pad {f : FuncId} {sH : List AObj} {args : List Value} {Q Q' : Value → List AObj → Prop} (h : FH P f sH args Q) (hk : ∀ v s1, Q v s1 → s1.length < 63 ∧ Q' v (s1 ++ [.resv])) : FH P f sH args Q' := by
  refine ⟨h.1, fun K w0 ρ w args' hI ha => Calls.mono (h.2 K w0 ρ w args' hI ha) ?_⟩
  rintro e w1 ⟨v, H1, ρ1, v', ⟨s1, rfl, q⟩, h1, h2, h3, h4⟩
  obtain ⟨q1, q2⟩ := hk v s1 q
  exact ⟨v, _, ρ1, v', ⟨_, rfl, q2⟩, h1, h2, h3.pad q1, h4⟩
end
end Go.Abs
