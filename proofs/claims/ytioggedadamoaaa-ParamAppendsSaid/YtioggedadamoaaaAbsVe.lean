/- Rows of bytes in small heaps: read, and grown in place. -/
import Derived.Test.YtioggedadamoaaaAbsVd
set_option autoImplicit false
set_option linter.unusedVariables false
set_option linter.unusedSimpArgs false
namespace Go.Abs
open Go.RowKit
def call0 (P : Program) : CallF := acall P pre0 (adraw2 P) 100000 50
theorem call0_sound {P : Program} (hm : P.follows .mixedOrders = true) (hn : namesOk P.funcs.toList = true) (K : Nat → Prop) (w0 : World) : CallSound P K w0 (call0 P) :=
  acall_sound (pre0_sound P K w0) (fun call hc => adraw2_sound hm hc) (namesOk_spec hn) 100000 50
structure RowF (r : AObj) (f : Nat → Option Addr) (zs : List Int) (c : Nat) : Prop where
  row : ∀ (A : AW) (b : Nat), A.get b = r → b < A.size → RowV A (.slice (f b) zs.length c) zs
  ren : ∀ (τ : Nat → Nat) (b : Nat), ren τ (.slice (f b) zs.length c) = .slice (f (τ b)) zs.length c
  obj : ∀ τ : Nat → Nat, renO τ r = r
  kind : r = .resv ∨ ∃ cs opn esz, r = .cells cs true opn esz
theorem RowF.byte {r : AObj} {f : Nat → Option Addr} {zs : List Int} {c : Nat} (h : RowF r f zs c) : isByte zs := by
  have := h.row (hp [r] noG 0) 0 rfl (by rw [hp_size]; omega)
  exact this.byte
theorem rowF_nil : RowF .resv (fun _ => none) [] 0 := ⟨fun A b _ _ => .inl ⟨rfl, rfl⟩, fun _ _ => rfl, fun _ => rfl, .inl rfl⟩
theorem rowF_some {all : List Int} {n : Nat} (hn : n ≤ all.length) (hb : isByte all) (opn : Bool) : RowF (.cells (u8s all) true opn 1) (fun b => some ⟨b, 0, none⟩) (all.take n) all.length := by
  have ht : (all.take n).length = n := by simp; omega
  refine ⟨fun A b hg hlt => .inr ⟨b, 0, all.length, rfl, hlt, ⟨u8s all, true, opn, hg, by rw [ht]; simpa using hn, by simp, ?_⟩, by rw [ht]; exact hn, fun z hz => hb z (List.mem_of_mem_take hz)⟩, fun _ _ => rfl, fun τ => ?_, .inr ⟨_, _, _, rfl⟩⟩
  · rw [ht, List.drop_zero]
    simp [u8s, List.map_take]
  · show AObj.cells (renL τ (u8s all)) true opn 1 = _
    rw [renL_ground _ (groundL_u8s all)]
def outA (k : Nat) : List Int → Option Addr
  | [] => none
  | _ :: _ => some ⟨k, 0, none⟩
def outO : List Int → AObj
  | [] => .resv
  | z :: zs => .cells (u8s (z :: zs)) false true 1
def outR : List Int → AObj
  | [] => .resv
  | z :: zs => .cells (u8s (z :: zs)) true true 1
abbrev outV (k : Nat) (zs : List Int) : Value := .slice (outA k zs) zs.length zs.length
theorem ren_outV (τ : Nat → Nat) (k : Nat) (zs : List Int) : ren τ (outV k zs) = outV (τ k) zs := by cases zs <;> rfl
theorem renO_outO (τ : Nat → Nat) (zs : List Int) : renO τ (outO zs) = outO zs := by
  cases zs with
  | nil => rfl
  | cons z zs =>
    show AObj.cells (renL τ (u8s (z :: zs))) false true 1 = _
    rw [renL_ground _ (groundL_u8s _)]; rfl
theorem rowF_out {zs : List Int} (hb : isByte zs) : RowF (outR zs) (fun b => outA b zs) zs zs.length := by
  cases zs with
  | nil => exact rowF_nil
  | cons z zs =>
    have := rowF_some (all := z :: zs) (n := (z :: zs).length) (Nat.le_refl _) hb true
    rw [List.take_length] at this
    exact this
theorem view_out (σ : Nat → Nat) {s : List AObj} {c : Nat} {zs : List Int} (h : getO s c = outO zs) (hc : c < s.length) : (outR zs = .resv ∧ (64 ≤ c ∨ getO s c = .resv)) ∨ (c < s.length ∧ alive (outR zs) = true ∧ View σ (getO s c) (outR zs)) := by
  cases zs with
  | nil => exact .inl ⟨rfl, .inr h⟩
  | cons z zs =>
    refine .inr ⟨hc, rfl, .inr ⟨u8s (z :: zs), true, 1, rfl, ?_⟩⟩
    rw [h, renL_ground _ (groundL_u8s _)]; rfl
theorem view_row (σ : Nat → Nat) {s : List AObj} {c : Nat} {r : AObj} {f : Nat → Option Addr} {zs : List Int} {cp : Nat} (hr : RowF r f zs cp) (h : getO s c = r) (hc : c < s.length) : (r = .resv ∧ (64 ≤ c ∨ getO s c = .resv)) ∨ (c < s.length ∧ alive r = true ∧ View σ (getO s c) r) := by
  rcases hr.kind with k | ⟨cs, opn, esz, k⟩
  · exact .inl ⟨k, .inr (by rw [h, k])⟩
  · exact .inr ⟨hc, by rw [k]; rfl, .inl (by rw [h, hr.obj])⟩
theorem start_row {σ : Nat → Nat} {r : AObj} {f : Nat → Option Addr} {zs : List Int} {cp : Nat} (hr : RowF r f zs cp) : (r = .resv ∧ r = .resv ∧ (none : Option AObj) = none) ∨ ((∃ cs opn esz, r = .cells cs true opn esz) ∧ (none : Option AObj) = none) ∨ (live r = true ∧ ∃ o', (none : Option AObj) = some o' ∧ ((liveOr r ∧ o' = renO σ r) ∨ (o' = .dead ∧ r ≠ .resv))) := by
  rcases hr.kind with k | k
  · exact .inl ⟨k, k, rfl⟩
  · exact .inr (.inl ⟨k, rfl⟩)
theorem new_out (σ : Nat → Nat) (zs : List Int) : (outO zs = .resv ∧ outO zs = .resv) ∨ (liveOr (outO zs) ∧ (outO zs = renO σ (outO zs) ∨ outO zs = .dead)) := by
  cases zs with
  | nil => exact .inl ⟨rfl, rfl⟩
  | cons z zs => exact .inr ⟨fun h => Bool.noConfusion h, .inl (renO_outO σ _).symm⟩
def Stay (k m : Nat) (τ : Nat → Nat) : Prop := ∀ c, c < 64 → c ≠ k → c ≠ m → τ c = c
theorem setO_eq_of_get {s : List AObj} {k : Nat} (h : k < s.length) : ∀ (o : AObj), getO s k = o → setO s k o = s := by
  induction s generalizing k with
  | nil => simp at h
  | cons x s ih =>
    intro o ho
    cases k with
    | zero => simp only [getO] at ho; subst ho; rfl
    | succ k =>
      show x :: setO s k o = _
      rw [ih (by simpa using h) o ho]
section
variable {P : Program} {K : Nat → Prop} {w0 : World} {n : Nat} {S : Slots} {ops : Array Oper} {i : Nat} {Q : Slots → AW → Prop} {call : CallF}
theorem EV.takeover {s sH : List AObj} {g : Nat → AObj} {N k : Nat} {x o : AObj} (hB : Bulk g N) (hk : k < s.length) (hs : s.length < 63) (hpk : sH.length ≤ k) (hkx : x = .dead ∨ x = .resv) (hot : ∀ τ, renO τ o = o) (hoal : alive o = true)
    (hob : ∀ τ, Stay k s.length τ → StayOs τ k 0 s) {S1 : Slots} {d : Nat} {v : Value} (hS : ∀ τ, Stay k s.length τ → renS τ S1 = S1)
    {w : Value} (hw : ∀ τ, τ s.length = k → Stay k s.length τ → ren τ v = w)
    (h : ∀ g' N', Bulk g' N' → EV P K w0 (pinOf (hp sH noG 0)) n ops i ((d, w) :: S1) (hp (setO s k o) g' N') Q) : EV P K w0 (pinOf (hp sH noG 0)) n ops i ((d, v) :: S1) (hp (setO s k x ++ [o]) g N) Q := by
  let τ : Nat → Nat := fun b => if b = s.length then k else if b = k then N + 64 else b
  have hτm : τ s.length = k := if_pos rfl
  have hτ : Stay k s.length τ := fun c _ h1 h2 => by show (if c = s.length then k else if c = k then N + 64 else c) = c; rw [if_neg h2, if_neg h1]
  have hlen : (setO s k x).length = s.length := setO_length x hk
  have hlen2 : (setO s k o).length = s.length := setO_length o hk
  have hgetA : ∀ b, b < 64 → (hp (setO s k x ++ [o]) g N).get b = if b = s.length then o else if b = k then x else getO s b := by
    intro b hb
    rw [hp_low hb]
    by_cases h1 : b = s.length
    · rw [if_pos h1, getO_append_right _ (by omega), hlen, h1, Nat.sub_self]; rfl
    · rw [if_neg h1]
      rcases Nat.lt_or_ge b s.length with q | q
      · rw [getO_append_left _ (by omega), getO_set]
      · rw [getO_append_right _ (by omega), hlen, if_neg (by omega), getO_ge s b q]
        exact getO_ge _ _ (by simp; omega)
  have hgetH : ∀ b, b < 64 → (hp (setO s k o) (gcat g N) (N + 1)).get b = if b = k then o else getO s b := by
    intro b hb
    rw [hp_low hb, getO_set]
  have hB' : Bulk (gcat g N) (N + 1) := hB.cat _
  have hr : Ren (hp (setO s k x ++ [o]) g N) τ (hp (setO s k o) (gcat g N) (N + 1)) := by
    refine ⟨?_, ?_, ?_, ?_, hp_nx' (by rw [hlen2]; omega)⟩
    · intro b c hb hc hnb hnc he
      rw [hp_size] at hb hc
      have he' : (if b = s.length then k else if b = k then N + 64 else b) = (if c = s.length then k else if c = k then N + 64 else c) := he
      by_cases h1 : b = s.length
      · rw [if_pos h1] at he'
        by_cases h2 : c = s.length
        · omega
        · rw [if_neg h2] at he'
          by_cases h3 : c = k
          · rw [if_pos h3] at he'; omega
          · rw [if_neg h3] at he'; omega
      · rw [if_neg h1] at he'
        by_cases h2 : c = s.length
        · rw [if_pos h2] at he'
          by_cases h3 : b = k
          · rw [if_pos h3] at he'; omega
          · rw [if_neg h3] at he'; omega
        · rw [if_neg h2] at he'
          by_cases h3 : b = k
          · rw [if_pos h3] at he'
            by_cases h4 : c = k
            · omega
            · rw [if_neg h4] at he'; omega
          · rw [if_neg h3] at he'
            by_cases h4 : c = k
            · rw [if_pos h4] at he'; omega
            · rw [if_neg h4] at he'; exact he'
    · intro b hb hnb
      rw [hp_size] at hb ⊢
      show (if b = s.length then k else if b = k then N + 64 else b) < _
      split
      · omega
      · split <;> omega
    · intro b hb hnb
      rw [hp_size] at hb
      rcases Nat.lt_or_ge b 64 with q | q
      · rw [hgetA b q]
        by_cases h1 : b = s.length
        · left
          rw [if_pos h1, h1, hτm, hgetH k (by omega), if_pos rfl, hot]
        · rw [if_neg h1]
          by_cases h2 : b = k
          · right
            have : τ b = N + 64 := by show (if b = s.length then k else if b = k then N + 64 else b) = _; rw [if_neg h1, if_pos h2]
            rw [this, hp_high (by omega)]
            unfold gcat
            rw [if_neg (by omega)]
          · left
            rw [if_neg h2, hτ b q h2 h1, hgetH b q, if_neg h2]
            rcases Nat.lt_or_ge b s.length with r | r
            · exact ((hob τ hτ).get b r (by omega)).symm
            · rw [getO_ge s b r]; rfl
      · left
        have : τ b = b := by show (if b = s.length then k else if b = k then N + 64 else b) = _; rw [if_neg (by omega), if_neg (by omega)]
        rw [this, hp_high q, hp_high q]
        unfold gcat
        rw [if_pos (by omega)]
        refine (hB _ (by omega) τ fun i hi => ?_).symm
        show (if i = s.length then k else if i = k then N + 64 else i) = _
        rw [if_neg (by omega), if_neg (by omega)]
    · intro c hc hal
      rw [hp_size] at hc
      rcases Nat.lt_or_ge c 64 with q | q
      · rw [hgetH c q] at hal
        by_cases h2 : c = k
        · exact ⟨s.length, by rw [hp_size]; omega, by rw [hτm, h2], by rw [hgetA _ (by omega), if_pos rfl]; exact hoal⟩
        · rw [if_neg h2] at hal
          have h1 : c ≠ s.length := by
            rintro rfl
            rw [getO_ge s _ (Nat.le_refl _)] at hal; cases hal
          exact ⟨c, by rw [hp_size]; omega, hτ c q h2 h1, by rw [hgetA c q, if_neg h1, if_neg h2]; exact hal⟩
      · rw [hp_high q] at hal
        unfold gcat at hal
        by_cases hN : c - 64 < N
        · rw [if_pos hN] at hal
          refine ⟨c, by rw [hp_size]; omega, ?_, by rw [hp_high q]; exact hal⟩
          show (if c = s.length then k else if c = k then N + 64 else c) = _
          rw [if_neg (by omega), if_neg (by omega)]
        · rw [if_neg hN] at hal; cases hal
  have hpin : ∀ b, pinOf (hp sH noG 0) b → τ b = b := by
    rintro b ⟨p1, p2⟩
    have hb : b < 64 := by rw [hp_size] at p1; omega
    have hbs : b < sH.length := by
      rcases Nat.lt_or_ge b sH.length with q | q
      · exact q
      · rw [hp_low hb, getO_ge _ _ q] at p2; exact (p2 rfl).elim
    exact hτ b hb (by omega) (by omega)
  intro t ht ρ w' a Q' hI hv' hQ
  obtain ⟨ρ2, k1, k2, k3⟩ := hr.keep hpin hI hv'
  have ht2 := ht.ren τ
  have e : renS τ ((d, v) :: S1) = (d, w) :: S1 := by
    show (d, ren τ v) :: renS τ S1 = _
    rw [hS τ hτ, hw τ hτm hτ]
  rw [e] at ht2
  exact h _ _ hB' _ ht2 ρ2 w' a Q' k2 k3 fun ρ3 w3 a3 t3 S3 A3 g1 g2 g3 g4 g5 g6 => hQ ρ3 w3 a3 t3 S3 A3 (k1.trans g1) g2 g3 g4 g5 g6
theorem eop_by {o : Oper} {A : AW} {r : Value × AW} (hin : opndsIn S o.op.operands.toList = true) (e : aop P call (arrOf n S) o A = some r) : eop P call n S o A = some r := by
  unfold eop
  rw [hin]; exact e
theorem eop_append {o : Oper} {c : Call} {x y : Operand} {v u w : Value} {A A1 : AW} (hop : o.op = .call c) (hc : c.callee = .builtin .append) (ha : c.args.toList = [x, y])
    (hin : opndsIn S [x, y] = true) (hv : aeval (arrOf n S) x = some v) (hu : aeval (arrOf n S) y = some u) (e : aappend P A c.argTypes v u = some (w, A1)) : eop P call n S o A = some (w, A1) := by
  refine eop_by ?_ ?_
  · rw [hop]
    simp only [Op.operands]
    have : c.operands.toList = [x, y] := by
      unfold Call.operands
      rw [hc]
      simpa using ha
    rw [this]; exact hin
  · unfold aop
    rw [hop]
    simp only
    unfold acallOp
    rw [ha, hc]
    simp only [aevals, hv, hu, abuiltin, e]
theorem eop_convert {o : Oper} {s d : TypeId} {x : Operand} {v w : Value} {A A1 : AW} (hop : o.op = .convert s d x) (hin : opndsIn S [x] = true)
    (hv : aeval (arrOf n S) x = some v) (e : aconvert P A s d v = some (w, A1)) : eop P call n S o A = some (w, A1) := by
  refine eop_by ?_ ?_
  · rw [hop]; exact hin
  · unfold aop
    rw [hop]
    simp only [aev1, hv, e]
theorem EV.app (hcall : CallSound P K w0 call) {s sH : List AObj} {g : Nat → AObj} {N : Nat} {o : Oper} {c : Call} {x y : Operand} {zs xs : List Int} {u : Value} (k d : Nat) (keep : List Nat) {S1 : Slots} (hB : Bulk g N)
    (ho : ops[i]? = some o) (hop : o.op = .call c) (hc : c.callee = .builtin .append) (ha : c.args.toList = [x, y]) (hw : ewant ops S o = some true) (hd : o.dst = some d)
    (hin : (opndsIn S [x, y] && Nat.blt d n) = true) (hv : aeval (arrOf n S) x = some (outV k zs)) (hu : aeval (arrOf n S) y = some u)
    (hA : ∀ (A : AW) s x, aappend P A c.argTypes s x = match acells A 1 x with | none => none | some (k, new) => aappendAt A 1 s k new)
    (hx : RowV (hp s g N) u xs) (hzb : isByte zs) (hl : zs.length + xs.length ≤ 1073741824) (hg : getO s k = outO zs) (hfit : (Nat.blt k s.length && Nat.blt s.length 63 && Nat.ble sH.length k) = true)
    (hob : ∀ τ, Stay k s.length τ → StayOs τ k 0 s) (hkeep : restr keep S = S1) (hnd : keep.all (fun j => !(Nat.beq d j)) = true) (hS : ∀ τ, Stay k s.length τ → renS τ S1 = S1)
    (h : ∀ g' N', Bulk g' N' → EV P K w0 (pinOf (hp sH noG 0)) n ops (i + 1) ((d, outV k (zs ++ xs)) :: S1) (hp (setO s k (outO (zs ++ xs))) g' N') Q) : EV P K w0 (pinOf (hp sH noG 0)) n ops i S (hp s g N) Q := by
  simp only [Bool.and_eq_true] at hfit hin
  have h1 : k < s.length := Nat.le_of_ble_eq_true hfit.1.1
  have h2 : s.length < 63 := Nat.le_of_ble_eq_true hfit.1.2
  have h3 : sH.length ≤ k := Nat.le_of_ble_eq_true hfit.2
  have hput : ∀ v, restr (d :: keep) (eput n S (some d) v) = (d, v) :: S1 := by
    intro v
    have e1 : eput n S (some d) v = (d, v) :: S := by
      show (bif Nat.blt d n then (d, v) :: S else S) = _
      rw [hin.2]; rfl
    rw [e1]
    have e2 : ∀ l : List Nat, l.all (fun j => !(Nat.beq d j)) = true → restr l ((d, v) :: S) = restr l S := by
      intro l
      induction l with
      | nil => intro _; rfl
      | cons j l ih =>
        intro hj
        simp only [List.all_cons, Bool.and_eq_true, Bool.not_eq_true'] at hj
        unfold restr
        have : look ((d, v) :: S) j = look S j := by
          show (bif Nat.beq d j then some v else look S j) = look S j
          rw [hj.1]; rfl
        rw [this, ih hj.2]
    show (match look ((d, v) :: S) d with | some w => (d, w) :: restr keep ((d, v) :: S) | none => restr keep ((d, v) :: S)) = _
    have : look ((d, v) :: S) d = some v := by
      show (bif Nat.beq d d then some v else look S d) = some v
      rw [Nat.beq_refl]; rfl
    rw [this, e2 keep hnd, hkeep]
  have base : ∀ (A : AW), (∀ w A', aappend P A c.argTypes (outV k zs) u = some (w, A') → EV P K w0 (pinOf (hp sH noG 0)) n ops (i + 1) ((d, w) :: S1) A' Q) → (∃ r, aappend P A c.argTypes (outV k zs) u = some r) → EV P K w0 (pinOf (hp sH noG 0)) n ops i S A Q := by
    intro A hh ⟨⟨w, A'⟩, e⟩
    refine EV.step hcall ho hw (eop_append hop hc ha hin.1 hv hu e) ?_
    rw [hd]
    exact EV.weak (d :: keep) (hput w) (hh w A' e)
  have hnid : (hp s g N).nid = s.length := rfl
  have hpush : ∀ (y : AObj), ((hp s g N).push y) = hp (s ++ [y]) g N := by
    intro y
    have e1 : ∀ l : List AObj, setO l l.length y = l ++ [y] := by
      intro l
      induction l with
      | nil => rfl
      | cons z l ih => show z :: setO l l.length y = _; rw [ih]; rfl
    show (⟨N + 64, Tr.put (s.length + 1) (.hp s g) s.length y, (bif Nat.blt (s.length + 1) 64 then some (s.length + 1) else none), 64⟩ : AW) = ⟨N + 64, .hp (s ++ [y]) g, some (s ++ [y]).length, 64⟩
    rw [Tr.put_hp, if_pos (by omega), e1, bif_blt, if_pos (by omega)]
    simp
  cases xs with
  | nil =>
    refine base _ ?_ ?_
    · intro w A' e
      rw [hA, hx.acells] at e
      have hwA : w = outV k zs ∧ A' = hp s g N := by
        cases zs with
        | nil =>
          simp only [outV, outA, List.length_nil, aappendAt, Nat.beq_refl, cond_true, Option.some.injEq, Prod.mk.injEq] at e
          exact ⟨e.1.symm, e.2.symm⟩
        | cons z zs =>
          simp only [outV, outA, aappendAt, List.length_nil, Nat.add_zero] at e
          rw [Nat.ble_eq_true_of_le (Nat.le_refl _)] at e
          simp only [cond_true, Nat.beq_refl, Option.isSome_none, cond_false, Option.some.injEq, Prod.mk.injEq] at e
          exact ⟨e.1.symm, e.2.symm⟩
      obtain ⟨rfl, rfl⟩ := hwA
      have := h g N hB
      rw [List.append_nil] at this
      rwa [setO_eq_of_get h1 _ hg] at this
    · rw [hA, hx.acells]
      cases zs with
      | nil => exact ⟨_, rfl⟩
      | cons z zs =>
        simp only [outV, outA, aappendAt, List.length_nil, Nat.add_zero]
        rw [Nat.ble_eq_true_of_le (Nat.le_refl _)]
        exact ⟨_, rfl⟩
  | cons y' ys =>
    have hby : isByte (zs ++ y' :: ys) := by
      intro z hz
      rcases List.mem_append.1 hz with q | q
      · exact hzb z q
      · exact hx.byte z q
    have hne : ∃ a l, zs ++ y' :: ys = a :: l := by cases zs <;> exact ⟨_, _, rfl⟩
    have hoo : outO (zs ++ y' :: ys) = .cells (u8s (zs ++ y' :: ys)) false true 1 := by
      obtain ⟨a, l, q⟩ := hne
      rw [q]; rfl
    have hvv : ∀ b, outV b (zs ++ y' :: ys) = .slice (some ⟨b, 0, none⟩) (zs ++ y' :: ys).length (zs ++ y' :: ys).length := by
      intro b
      obtain ⟨a, l, q⟩ := hne
      rw [q]; rfl
    -- what it comes to
    have hval : ∃ x, (x = .dead ∨ x = .resv) ∧ aappend P (hp s g N) c.argTypes (outV k zs) u = some (.slice (some ⟨s.length, 0, none⟩) (zs ++ y' :: ys).length (zs ++ y' :: ys).length, hp (setO s k x ++ [.cells (u8s (zs ++ y' :: ys)) false true 1]) g N) := by
      rw [hA, hx.acells]
      cases zs with
      | nil =>
        refine ⟨.resv, .inr rfl, ?_⟩
        have hb0 : Nat.beq (y' :: ys).length 0 = false := rfl
        simp only [outV, outA, List.length_nil, aappendAt, hb0, cond_false]
        rw [Nat.ble_eq_true_of_le (by simpa using hl)]
        simp only [cond_true]
        have hg2 := grow_u8 (A := hp s g N) (zs0 := []) (zs := y' :: ys) (y' :: ys).length (by simp)
        simp only [List.nil_append] at hg2 ⊢
        have hgk : getO s k = .resv := hg
        rw [setO_eq_of_get h1 _ hgk, ← hpush, ← hnid]
        exact hg2
      | cons z zs =>
        refine ⟨.dead, .inl rfl, ?_⟩
        simp only [outV, outA, aappendAt]
        have hble : Nat.ble ((z :: zs).length + (y' :: ys).length) (z :: zs).length = false := by
          cases hcc : Nat.ble ((z :: zs).length + (y' :: ys).length) (z :: zs).length with
          | false => rfl
          | true =>
            have h9 := Nat.le_of_ble_eq_true hcc
            simp only [List.length_cons] at h9
            omega
        rw [hble]
        simp only [cond_false]
        rw [Nat.ble_eq_true_of_le hl]
        simp only [cond_true]
        have hgk : (hp s g N).get k = .cells (u8s (z :: zs)) false true 1 := by rw [hp_low (by omega)]; exact hg
        have hload : (hp s g N).loadN ⟨k, 0, none⟩ ((z :: zs).length * 1) = some (u8s (z :: zs)) := by
          unfold AW.loadN
          simp only [hgk, Nat.zero_add, Nat.mul_one]
          rw [Nat.ble_eq_true_of_le (by simp)]
          simp only [cond_true, List.drop_zero]
          rw [← u8s_length (z :: zs), List.take_length]
        rw [hload]
        have hex : exactCap (hp s g N) ⟨k, 0, none⟩ (z :: zs).length 1 = some false := by
          unfold exactCap
          simp only [hgk, Bool.not_true, cond_false, Nat.beq_refl, cond_true, Nat.zero_add, Nat.mul_one, u8s_length]
        simp only [hex, hgk, Nat.beq_refl, cond_true]
        have hsetA : (hp s g N).set k .dead = hp (setO s k .dead) g N := by
          show (⟨N + 64, Tr.put (k + 1) (.hp s g) k .dead, some s.length, 64⟩ : AW) = ⟨N + 64, .hp (setO s k .dead) g, some (setO s k .dead).length, 64⟩
          rw [Tr.put_hp, if_pos (by omega), setO_length _ h1]
        rw [hsetA, grow_u8 (A := hp (setO s k .dead) g N) (zs0 := z :: zs) (zs := y' :: ys) ((z :: zs).length + (y' :: ys).length) rfl]
        have hn2 : (hp (setO s k .dead) g N).nid = s.length := by show (setO s k .dead).length = _; exact setO_length _ h1
        have hp2 : (hp (setO s k .dead) g N).push (.cells (u8s ((z :: zs) ++ (y' :: ys))) false true 1) = hp (setO s k .dead ++ [.cells (u8s ((z :: zs) ++ (y' :: ys))) false true 1]) g N := by
          have e1 : ∀ (l : List AObj) (y : AObj), setO l l.length y = l ++ [y] := by
            intro l y
            induction l with
            | nil => rfl
            | cons z l ih => show z :: setO l l.length y = _; rw [ih]; rfl
          show (⟨N + 64, Tr.put ((setO s k .dead).length + 1) (.hp (setO s k .dead) g) (setO s k .dead).length _, (bif Nat.blt ((setO s k .dead).length + 1) 64 then some ((setO s k .dead).length + 1) else none), 64⟩ : AW) = _
          have hl3 : (setO s k .dead).length = s.length := setO_length _ h1
          rw [Tr.put_hp, if_pos (by omega), e1, bif_blt, if_pos (by omega)]
          show _ = (⟨N + 64, .hp _ g, some (List.length _), 64⟩ : AW)
          simp
        rw [hp2, hn2, List.length_append]
    obtain ⟨x, hxx, hval⟩ := hval
    refine base _ ?_ ⟨_, hval⟩
    intro w A' e
    rw [hval] at e
    simp only [Option.some.injEq, Prod.mk.injEq] at e
    obtain ⟨rfl, rfl⟩ := e
    refine EV.takeover (o := .cells (u8s (zs ++ y' :: ys)) false true 1) (w := outV k (zs ++ y' :: ys)) hB h1 h2 h3 hxx ?_ rfl hob hS ?_ ?_
    · intro τ
      show AObj.cells (renL τ (u8s _)) false true 1 = _
      rw [renL_ground _ (groundL_u8s _)]
    · intro τ hm hst
      rw [hvv]
      show Value.slice (some ⟨τ s.length, 0, none⟩) _ _ = _
      rw [hm]
    · intro g' N' hB'
      have := h g' N' hB'
      rwa [hoo] at this
end
end Go.Abs
