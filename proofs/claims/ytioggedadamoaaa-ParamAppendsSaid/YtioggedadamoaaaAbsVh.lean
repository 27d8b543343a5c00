/- Rows that are used up: their number is free again. -/
import Derived.Test.YtioggedadamoaaaAbsVg
set_option autoImplicit false
set_option linter.unusedVariables false
set_option linter.unusedSimpArgs false
namespace Go.Abs
open Go.RowKit
def deadO : List Int → AObj
  | [] => .resv
  | _ :: _ => .dead
def deadU : List Int → Option AObj
  | [] => none
  | _ :: _ => some .dead
theorem renO_deadO (τ : Nat → Nat) (zs : List Int) : renO τ (deadO zs) = deadO zs := by cases zs <;> rfl
theorem RowF.ad {r : AObj} {f : Nat → Option Addr} {zs : List Int} {c : Nat} (h : RowF r f zs c) {b : Nat} (hb : b < 64) : beqAd (f b) (f b) = true := by
  have := h.row ((hp [] noG 0).set b r) b (by rw [AW.get_set, if_pos rfl]) (by rw [AW.size_set, hp_size]; omega)
  rcases this with ⟨h1, _⟩ | ⟨b', o, cap, h1, _⟩
  · simp only [Value.slice.injEq] at h1
    rw [h1.1]; rfl
  · simp only [Value.slice.injEq] at h1
    rw [h1.1]
    simp [beqAd]
theorem start_out {σ : Nat → Nat} (zs : List Int) : (outO zs = .resv ∧ deadO zs = .resv ∧ deadU zs = none) ∨ ((∃ cs opn esz, outO zs = .cells cs true opn esz) ∧ deadU zs = none) ∨ (live (outO zs) = true ∧ ∃ o', deadU zs = some o' ∧ ((liveOr (deadO zs) ∧ o' = renO σ (deadO zs)) ∨ (o' = .dead ∧ deadO zs ≠ .resv))) := by
  cases zs with
  | nil => exact .inl ⟨rfl, rfl, rfl⟩
  | cons z zs => exact .inr (.inr ⟨rfl, .dead, rfl, .inr ⟨rfl, fun h => by cases h⟩⟩)
theorem part_out (σ : Nat → Nat) {s : List AObj} {c : Nat} {zs : List Int} (h : getO s c = outO zs) (hc : c < s.length) : (outO zs = .resv ∧ (64 ≤ c ∨ getO s c = .resv)) ∨ (c < s.length ∧ alive (outO zs) = true ∧ View σ (getO s c) (outO zs)) := by
  cases zs with
  | nil => exact .inl ⟨rfl, .inr h⟩
  | cons z zs => exact .inr ⟨hc, rfl, .inl (by rw [h, renO_outO])⟩
theorem ren_dead {τ : Nat → Nat} (zs : List Int) : deadO zs = renO τ (outO zs) ∨ deadO zs = .dead := by
  cases zs with
  | nil => exact .inl rfl
  | cons z zs => exact .inr rfl
theorem upd_dead {s : List AObj} {k : Nat} {l : List Nat} {us : List (Option AObj)} {zs : List Int} (h : getO s k = outO zs) (hk : k < s.length) : upd s (k :: l) (deadU zs :: us) = upd (setO s k (deadO zs)) l us := by
  cases zs with
  | nil =>
    have h' : getO s k = .resv := h
    show upd s l us = upd (setO s k .resv) l us
    rw [setO_eq_of_get hk _ h']
  | cons z zs => rfl
section
variable {P : Program} {K : Nat → Prop} {w0 : World} {pin : Nat → Prop} {n : Nat} {S : Slots} {ops : Array Oper} {i : Nat} {Q : Slots → AW → Prop}
theorem EV.runS {A : AW} {call : CallF} (hcall : CallSound P K w0 call) (j : Nat) (keep : List Nat) {S2 : Slots} (hij : (Nat.ble i j && Nat.ble j ops.size) = true) (e : eopsR P call n ops i j keep S A = some (S2, A)) (h : EV P K w0 pin n ops j S2 A Q) : EV P K w0 pin n ops i S A Q :=
  EV.run hcall j keep hij e h
theorem EV.norm (keep : List Nat) {S2 : Slots} {A A2 : AW} (e : restr keep S = S2) (e2 : A = A2) (h : EV P K w0 pin n ops i S2 A2 Q) : EV P K w0 pin n ops i S A Q := by
  rw [e2]; exact EV.weak keep e h
theorem app_grow {s : List AObj} {g : Nat → AObj} {N k : Nat} {ats : Array TypeId} {u : Value} {zs : List Int} {y' : Int} {ys : List Int} (hA : ∀ (A : AW) s x, aappend P A ats s x = match acells A 1 x with | none => none | some (k, new) => aappendAt A 1 s k new)
    (hx : RowV (hp s g N) u (y' :: ys)) (hl : zs.length + (y' :: ys).length ≤ 1073741824) (hg : getO s k = outO zs) (h1 : k < s.length) (h2 : s.length < 63) :
    aappend P (hp s g N) ats (outV k zs) u = some (.slice (some ⟨s.length, 0, none⟩) (zs ++ y' :: ys).length (zs ++ y' :: ys).length, hp (setO s k (deadO zs) ++ [.cells (u8s (zs ++ y' :: ys)) false true 1]) g N) := by
  have hnid : (hp s g N).nid = s.length := rfl
  have hpush : ∀ (y : AObj), ((hp s g N).push y) = hp (s ++ [y]) g N := by
    intro y
    have e1 : ∀ l : List AObj, setO l l.length y = l ++ [y] := by
      intro l
      induction l with
      | nil => rfl
      | cons z l ih => show z :: setO l l.length y = _; rw [ih]; rfl
    show (⟨N + 64, Tr.put (s.length + 1) (.hp s g) s.length y, (bif Nat.blt (s.length + 1) 64 then some (s.length + 1) else none), 64⟩ : AW) = ⟨N + 64, .hp (s ++ [y]) g, some (s ++ [y]).length, 64⟩
    rw [Tr.put_hp, if_pos (by omega), e1, bif_blt, if_pos (by omega)]
    simp
  rw [hA, hx.acells]
  cases zs with
  | nil =>
    show _ = some (_, hp (setO s k .resv ++ _) g N)
    have hb0 : Nat.beq (y' :: ys).length 0 = false := rfl
    simp only [outV, outA, List.length_nil, aappendAt, hb0, cond_false]
    rw [Nat.ble_eq_true_of_le (by simpa using hl)]
    simp only [cond_true]
    have hg2 := grow_u8 (A := hp s g N) (zs0 := []) (zs := y' :: ys) (y' :: ys).length (by simp)
    simp only [List.nil_append] at hg2 ⊢
    have hgk : getO s k = .resv := hg
    rw [setO_eq_of_get h1 _ hgk, ← hpush, ← hnid]
    exact hg2
  | cons z zs =>
    show _ = some (_, hp (setO s k .dead ++ _) g N)
    simp only [outV, outA, aappendAt]
    have hble : Nat.ble ((z :: zs).length + (y' :: ys).length) (z :: zs).length = false := by
      cases hcc : Nat.ble ((z :: zs).length + (y' :: ys).length) (z :: zs).length with
      | false => rfl
      | true =>
        have h9 := Nat.le_of_ble_eq_true hcc
        simp only [List.length_cons] at h9
        omega
    rw [hble]
    simp only [cond_false]
    rw [Nat.ble_eq_true_of_le hl]
    simp only [cond_true]
    have hgk : (hp s g N).get k = .cells (u8s (z :: zs)) false true 1 := by rw [hp_low (by omega)]; exact hg
    have hload : (hp s g N).loadN ⟨k, 0, none⟩ ((z :: zs).length * 1) = some (u8s (z :: zs)) := by
      unfold AW.loadN
      simp only [hgk, Nat.zero_add, Nat.mul_one]
      rw [Nat.ble_eq_true_of_le (by simp)]
      simp only [cond_true, List.drop_zero]
      rw [← u8s_length (z :: zs), List.take_length]
    rw [hload]
    have hex : exactCap (hp s g N) ⟨k, 0, none⟩ (z :: zs).length 1 = some false := by
      unfold exactCap
      simp only [hgk, Bool.not_true, cond_false, Nat.beq_refl, cond_true, Nat.zero_add, Nat.mul_one, u8s_length]
    simp only [hex, hgk, Nat.beq_refl, cond_true]
    have hsetA : (hp s g N).set k .dead = hp (setO s k .dead) g N := by
      show (⟨N + 64, Tr.put (k + 1) (.hp s g) k .dead, some s.length, 64⟩ : AW) = ⟨N + 64, .hp (setO s k .dead) g, some (setO s k .dead).length, 64⟩
      rw [Tr.put_hp, if_pos (by omega), setO_length _ h1]
    rw [hsetA, grow_u8 (A := hp (setO s k .dead) g N) (zs0 := z :: zs) (zs := y' :: ys) ((z :: zs).length + (y' :: ys).length) rfl]
    have hn2 : (hp (setO s k .dead) g N).nid = s.length := by show (setO s k .dead).length = _; exact setO_length _ h1
    have hp2 : (hp (setO s k .dead) g N).push (.cells (u8s ((z :: zs) ++ (y' :: ys))) false true 1) = hp (setO s k .dead ++ [.cells (u8s ((z :: zs) ++ (y' :: ys))) false true 1]) g N := by
      have e1 : ∀ (l : List AObj) (y : AObj), setO l l.length y = l ++ [y] := by
        intro l y
        induction l with
        | nil => rfl
        | cons z l ih => show z :: setO l l.length y = _; rw [ih]; rfl
      show (⟨N + 64, Tr.put ((setO s k .dead).length + 1) (.hp (setO s k .dead) g) (setO s k .dead).length _, (bif Nat.blt ((setO s k .dead).length + 1) 64 then some ((setO s k .dead).length + 1) else none), 64⟩ : AW) = _
      have hl3 : (setO s k .dead).length = s.length := setO_length _ h1
      rw [Tr.put_hp, if_pos (by omega), e1, bif_blt, if_pos (by omega)]
      show _ = (⟨N + 64, .hp _ g, some (List.length _), 64⟩ : AW)
      simp
    rw [hp2, hn2, List.length_append]
theorem app_grow' {s : List AObj} {g : Nat → AObj} {N k : Nat} {ats : Array TypeId} {u : Value} {zs xs : List Int} (hA : ∀ (A : AW) s x, aappend P A ats s x = match acells A 1 x with | none => none | some (k, new) => aappendAt A 1 s k new)
    (hx : RowV (hp s g N) u xs) (hne : xs ≠ []) (hl : zs.length + xs.length ≤ 1073741824) (hg : getO s k = outO zs) (h1 : k < s.length) (h2 : s.length < 63) :
    aappend P (hp s g N) ats (outV k zs) u = some (outV s.length (zs ++ xs), hp (setO s k (deadO zs) ++ [outO (zs ++ xs)]) g N) := by
  cases xs with
  | nil => exact absurd rfl hne
  | cons y ys =>
    have h := app_grow (zs := zs) (k := k) hA hx hl hg h1 h2
    obtain ⟨a, l, q⟩ : ∃ a l, zs ++ y :: ys = a :: l := by cases zs <;> exact ⟨_, _, rfl⟩
    rw [q] at h ⊢
    exact h
theorem EV.pad {s : List AObj} {g : Nat → AObj} {N : Nat} (hs : Nat.blt s.length 63 = true) (h : EV P K w0 pin n ops i S (hp (s ++ [.resv]) g N) Q) : EV P K w0 pin n ops i S (hp s g N) Q := by
  intro t ht ρ w a Q' hI hv hQ
  exact h t ht ρ w a Q' (hI.pad (Nat.le_of_ble_eq_true hs)) hv hQ
theorem EV.reng {s s2 sH : List AObj} {g : Nat → AObj} {N : Nat} (hB : Bulk g N) (ts us keep : List Nat) {S2 : Slots}
    (hfit : (Nat.blt s.length 64 && Nat.blt s2.length 64 && distinct ts && fromOk ts 0 us && Nat.beq us.length s2.length) = true) (hpin : (Nat.blt sH.length 64 && pinOk sH.length ts 0) = true) (hr : RenL (tau ts N) s2 s ts) (e : renS (tau ts N) (restr keep S) = S2)
    (h : ∀ g' N', Bulk g' N' → EV P K w0 (pinOf (hp sH noG 0)) n ops i S2 (hp s2 g' N') Q) : EV P K w0 (pinOf (hp sH noG 0)) n ops i S (hp s g N) Q :=
  EV.renh hB ts us keep hfit hpin hr e (h _ _ (hB.cat _))
theorem renS_cons {τ : Nat → Nat} {i : Nat} {v w : Value} {S S' : Slots} (h : ren τ v = w) (k : renS τ S = S') : renS τ ((i, v) :: S) = (i, w) :: S' := by rw [← h, ← k]; rfl
theorem ren_cells {τ : Nat → Nat} {cs cs' : List Value} {ro opn : Bool} {esz : Nat} (h : renL τ cs = cs') : renO τ (.cells cs ro opn esz) = .cells cs' ro opn esz := by rw [← h]; rfl
theorem EV.openB {s : List AObj} {g : Nat → AObj} {N : Nat} (k : Nat) {cs : List Value} {ro opn : Bool} {esz : Nat} (hg : getO s k = .cells cs ro opn esz) (hk : (Nat.blt k s.length && Nat.blt k 64) = true) (h : EV P K w0 pin n ops i S (hp (setO s k (.cells cs ro true esz)) g N) Q) : EV P K w0 pin n ops i S (hp s g N) Q := by
  simp only [Bool.and_eq_true] at hk
  have h1 : k < s.length := Nat.le_of_ble_eq_true hk.1
  have h2 : k < 64 := Nat.le_of_ble_eq_true hk.2
  have e : (hp s g N).set k (.cells cs ro true esz) = hp (setO s k (.cells cs ro true esz)) g N := by
    show (⟨N + 64, Tr.put (k + 1) (.hp s g) k _, some s.length, 64⟩ : AW) = ⟨N + 64, .hp _ g, some (setO s k _).length, 64⟩
    rw [Tr.put_hp, if_pos h2, setO_length _ h1]
  intro t ht ρ w a Q' hI hv hQ
  have := hI.openAt (b := k) (cs := cs) (ro := ro) (opn := opn) (esz := esz) (by rw [hp_low h2]; exact hg) (by rw [hp_size]; omega)
  rw [e] at this
  exact h t ht ρ w a Q' this hv hQ
theorem rowV_own {s : List AObj} {g : Nat → AObj} {N k : Nat} {zs : List Int} (h : getO s k = outO zs) (hk : Nat.blt k 64 = true) (hb : isByte zs) : RowV (hp s g N) (outV k zs) zs := by
  have hk' : k < 64 := Nat.le_of_ble_eq_true hk
  cases zs with
  | nil => exact .inl ⟨rfl, rfl⟩
  | cons z zs =>
    refine .inr ⟨k, 0, (z :: zs).length, rfl, by rw [hp_size]; omega, ⟨u8s (z :: zs), false, true, by rw [hp_low hk']; exact h, by simp, by simp, ?_⟩, Nat.le_refl _, hb⟩
    rw [List.drop_zero, ← u8s_length (z :: zs), List.take_length]
theorem rowV_cells {s : List AObj} {g : Nat → AObj} {N k : Nat} {zs : List Int} {ro opn : Bool} (h : getO s k = .cells (u8s zs) ro opn 1) (hk : Nat.blt k 64 = true) (hb : isByte zs) : RowV (hp s g N) (.slice (some ⟨k, 0, none⟩) zs.length zs.length) zs := by
  have hk' : k < 64 := Nat.le_of_ble_eq_true hk
  refine .inr ⟨k, 0, zs.length, rfl, by rw [hp_size]; omega, ⟨u8s zs, ro, opn, by rw [hp_low hk']; exact h, by simp, by simp, ?_⟩, Nat.le_refl _, hb⟩
  rw [List.drop_zero, ← u8s_length zs, List.take_length]
def joinV (M : Slots → AW → Prop) (Q : X → Slots → AW → Prop) : X → Slots → AW → Prop
  | .n, S, A => M S A
  | .e id, S, A => Q (.e id) S A
  | .r, S, A => Q .r S A
theorem V.join {a b : Code} {A : AW} {Q : X → Slots → AW → Prop} (M : Slots → AW → Prop) (h1 : V P K w0 pin n a S A (joinV M Q)) (h2 : ∀ S A, M S A → V P K w0 pin n b S A Q) : V P K w0 pin n (.seq a b) S A Q := by
  refine V.seq (V.mono h1 ?_)
  intro x S A hx
  cases x with
  | n => exact h2 S A hx
  | e id => exact hx
  | r => exact hx
theorem joinV_n {A : AW} {M : Slots → AW → Prop} {Q : X → Slots → AW → Prop} (h : M S A) : joinV M Q .n S A := h
theorem FH.closed {call : CallF} (hcall : ∀ K w0, CallSound P K w0 call) {f : FuncId} (h : isTrue (call f [] AW.empty) = true) (hfn : ∃ fn, P.funcs[f]? = some fn ∧ (fn.name == "runtime.NumGoroutine") = false ∧ fn.body.isNone = false) :
    FH P f [] [] fun v s1 => v = .bool true ∧ s1 = [] := by
  obtain ⟨A', e⟩ := isTrue_inv h
  refine ⟨hfn, fun K w0 ρ w args' hI ha => ?_⟩
  have hnone : ∀ b, ρ b = none := by
    intro b
    cases hr : ρ b with
    | none => rfl
    | some q =>
      have h1 := (hI.at_ b q hr).1
      have h2 := hI.notKept hr
      rw [hp_size] at h1
      rw [hp_low (by omega), getO_ge _ _ (Nat.zero_le _)] at h2
      exact (h2 rfl).elim
  have hE : Inv K w0 ρ AW.empty w := ⟨hI.below, hI.base, (fun b q hb => by rw [hnone] at hb; cases hb), (fun b c q r _ hb => by rw [hnone] at hb; cases hb), (fun b _ => hnone b), (fun r hr => by cases hr), fun b hb => absurd hb (Nat.not_lt_zero _)⟩
  obtain ⟨_, hc⟩ := hcall K w0 f [] AW.empty _ A' ρ w args' e hE ha
  refine Calls.mono hc ?_
  rintro en w1 ⟨ρ1, v', rfl, k1, k2, k3⟩
  have hr : Ren A' (fun b => 64 + b) (hp [] noG A'.size) := by
    refine ⟨fun b c _ _ _ _ hbc => by omega, fun b hb _ => by rw [hp_size]; omega, fun b hb hne => .inr (by rw [hp_high (by omega)]; rfl), ?_, hp_nx' (by decide)⟩
    intro c hc hal
    rcases Nat.lt_or_ge c 64 with q | q
    · rw [hp_low q, getO_ge _ _ (Nat.zero_le _)] at hal; cases hal
    · rw [hp_high q] at hal; cases hal
  obtain ⟨ρ2, m1, m2⟩ := k2.renum _ _ hr.inj hr.lt hr.obj hr.full hr.nx
  have hsh : Shut [] (.bool true) := shut_intro rfl fun τ _ => ⟨rfl, trivial⟩
  refine ⟨.bool true, hp [] noG 0, fun b => if b < 64 then ρ2 b else none, v', ⟨[], rfl, rfl, rfl⟩, rfl, ?_, m2.low (by decide) hsh, by simpa [VR] using k3⟩
  intro b q hb
  rw [hnone] at hb; cases hb
variable {call : CallF}
theorem DR.conv {Hs : List AW} {k : Nat} {S' : Slots} {o : Oper} {sr dt : TypeId} {x : Operand} {u v : Value} {A : AW} (ho : ops[i]? = some o) (hop : o.op = .convert sr dt x) (hw : ewant ops S o = some true) (hA : Hs[k]? = some A) (hin : opndsIn S [x] = true)
    (hE : isE P o = false) (hv : aeval (arrOf n S) x = some u) (hb : beqV v v = true) (e : ∀ k' A', k' ≤ (effs P ops ops.size).length → (k' = k ∨ mayK (masks ops) (effs P ops ops.size) i k' = true) → Hs[k']? = some A' → aconvert P A' sr dt u = some (v, A')) (hk : k ≤ (effs P ops ops.size).length)
    (h : DR P call n ops Hs (i + 1) k (eput n S o.dst v) S') : DR P call n ops Hs i k S S' := by
  have key : ∀ A', aconvert P A' sr dt u = some (v, A') → eop P call n S o A' = some (v, A') := fun A' he => eop_convert hop hin hv he
  exact DR.read ho hw hE hA (key A (e k A hk (.inl rfl) hA)) hb (fun k' A' _ h2 h3 h4 => key A' (e k' A' h2 (.inr h3) h4)) h
theorem beqV_str (s : ByteArray) : beqV (.string s) (.string s) = true := by simp [beqV]
theorem eop_strAdd {o : Oper} {A : AW} {t ty : TypeId} {x y : Operand} {a b : ByteArray} (hop : o.op = .binOp .add t x y ty) (hin : opndsIn S [x, y] = true) (hv : aeval (arrOf n S) x = some (.string a)) (hu : aeval (arrOf n S) y = some (.string b)) (hs : a.size + b.size < 4611686018427387904) :
    eop P call n S o A = some (.string (a ++ b), A) := by
  refine eop_by (by rw [hop]; exact hin) ?_
  unfold aop
  rw [hop]
  simp only [aev1, hv, hu]
  have hg : (ground (Value.string a) && ground (Value.string b)) = true := rfl
  rw [hg]
  simp only [cond_true]
  rw [prun_strAdd hs]
  rfl
theorem eop_strEql {o : Oper} {A : AW} {t ty : TypeId} {x y : Operand} {a b : ByteArray} (hop : o.op = .binOp .eql t x y ty) (hin : opndsIn S [x, y] = true) (hv : aeval (arrOf n S) x = some (.string a)) (hu : aeval (arrOf n S) y = some (.string b)) (hab : a = b) :
    eop P call n S o A = some (.bool true, A) := by
  refine eop_by (by rw [hop]; exact hin) ?_
  unfold aop
  rw [hop]
  simp only [aev1, hv, hu]
  have hg : (ground (Value.string a) && ground (Value.string b)) = true := rfl
  rw [hg]
  simp only [cond_true]
  subst hab
  have : prun P (do eqGuard .eql t x y (Value.string a) (Value.string a); binOp .eql t (Value.string a) (Value.string a)) = some (.bool (a.toList == a.toList)) := rfl
  rw [this]
  simp [onG, ground]
end
end Go.Abs
