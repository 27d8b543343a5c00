/- Regions that draw their order: every order comes to what the text's order comes to. -/
import Derived.Test.YtioggedadamoaaaAbsDrawB
import Derived.Orders
set_option autoImplicit false
set_option linter.unusedVariables false
set_option linter.unusedSimpArgs false
set_option linter.unnecessarySimpa false
namespace Go.Abs
open Go.RowKit
theorem Bef.trans {ops : Array Oper} {i j k : Nat} (h1 : Bef ops i j) (h2 : Bef ops j k) : Bef ops i k := by
  induction h2 with
  | one ho he hb => exact .more ho he hb h1
  | more ho he hb _ ih => exact .more ho he hb (ih h1)
def dstAt (ops : Array Oper) (i : Nat) : Option Tmp := (ops[i]?).bind (·.dst)
theorem chain_bef {ops : Array Oper} {E : List Nat} (h : chainOk (masks ops) E = true) : ∀ (m k i j : Nat), E[k]? = some i → E[k + m + 1]? = some j → Bef ops i j
  | 0, k, i, j, h1, h2 => masks_bef ops (chainOk_spec h k i j h1 h2)
  | m + 1, k, i, j, h1, h2 => by
    have hlt : k + m + 1 < E.length := by
      have := (List.getElem?_eq_some_iff.1 h2).1
      omega
    have h3 := chain_bef h m k i _ h1 (List.getElem?_eq_getElem hlt)
    exact h3.trans (masks_bef ops (chainOk_spec h _ _ _ (List.getElem?_eq_getElem hlt) h2))
theorem lw_cut {ops : Array Oper} {D : Nat → Bool} {s : Tmp} {j : Nat} : ∀ {n : Nat}, j ≤ n → (∀ i, i < n → dstAt ops i = some s → (D i = true ↔ i < j)) → lw ops D s n = lw ops (fun _ => true) s j
  | 0, hj, h => by
    rw [show j = 0 from by omega]
    rfl
  | n + 1, hj, h => by
    by_cases hjn : j = n + 1
    · subst hjn
      refine lw_congr ops D _ s _ fun i hi => ?_
      constructor
      · rintro ⟨_, hd⟩; exact ⟨rfl, hd⟩
      · rintro ⟨_, hd⟩; exact ⟨(h i hi hd).2 hi, hd⟩
    · have ih := lw_cut (ops := ops) (D := D) (s := s) (n := n) (by omega) fun i hi hd => h i (by omega) hd
      show (if D n = true ∧ ((ops[n]?).bind (·.dst)) = some s then n + 1 else lw ops D s n) = _
      rw [if_neg ?_, ih]
      rintro ⟨h1, h2⟩
      have := (h n (by omega) h2).1 h1
      omega
theorem countP_lt {p q : Nat → Bool} : ∀ {l : List Nat}, (∀ x ∈ l, p x = true → q x = true) → (∃ x ∈ l, q x = true ∧ p x = false) → l.countP p < l.countP q
  | [], _, h => by simp at h
  | y :: l, h1, h2 => by
    have hle : l.countP p ≤ l.countP q := List.countP_mono_left fun x hx hp => h1 x (by simp [hx]) hp
    rw [List.countP_cons, List.countP_cons]
    obtain ⟨x, hx, hq, hp⟩ := h2
    rcases List.mem_cons.1 hx with rfl | hx
    · simp [hq, hp]; omega
    · have := countP_lt (fun x hx => h1 x (by simp [hx])) ⟨x, hx, hq, hp⟩
      have h3 : (if p y = true then 1 else 0) ≤ (if q y = true then 1 else 0) := by
        cases hpy : p y with
        | false => simp
        | true => simp [h1 y (by simp) hpy]
      omega
theorem VRA.of_getD {ρ : Rho} {t t' : Array Value} (h : t.size = t'.size) (k : ∀ i, VR ρ (t.getD i undef) (t'.getD i undef)) : VRA ρ t t' := by
  rw [VRA.toList]
  refine VRL.of_get (by simpa using h.symm) fun i v hv => ?_
  have hv' : t[i]? = some v := by simpa using hv
  have hi := (Array.getElem?_eq_some_iff.1 hv').1
  have := k i
  rw [Array.getD_eq_getD_getElem?, Array.getD_eq_getD_getElem?, hv', Array.getElem?_eq_getElem (by omega)] at this
  exact ⟨t'[i], by simp [show i < t'.size from by omega], this⟩
theorem slotsOf_mem {t : Tmp} : ∀ {l : List Operand}, Operand.tmp t ∈ l → t ∈ slotsOf l
  | [], h => by simp at h
  | x :: l, h => by
    rcases List.mem_cons.1 h with rfl | h
    · simp [slotsOf]
    · have := slotsOf_mem h
      cases x <;> simp [slotsOf, this]
section
variable {P : Program} {call : CallF} {B : Nat → Prop} {w0 : World}
theorem aeval_slot {ρ : Rho} {tmps : Array Value} {a : Act} {x : Operand} (h : ∀ t, x = .tmp t → VR ρ (tmps.getD t undef) (a.tmps.getD t undef)) {v : Value} (e : aeval tmps x = some v) : VR ρ v (a.eval x) := by
  cases x with
  | tmp t =>
    simp only [aeval, Option.some.injEq] at e
    subst e
    rw [getS_eq]
    exact h t rfl
  | const u =>
    unfold aeval at e
    simp only at e
    cases hg : ground u with
    | false => rw [hg] at e; simp at e
    | true =>
      rw [hg] at e
      simp only [cond_true, Option.some.injEq] at e
      subst e
      exact VR.self hg
  | func f =>
    simp only [aeval, Option.some.injEq] at e
    subst e
    exact VR.self rfl
  | global g => simp [aeval] at e
theorem boolOf_slot {ρ : Rho} {t t' : Array Value} (hs : t.size = t'.size) {d : Nat} (h : VR ρ (t.getD d undef) (t'.getD d undef)) : boolOf t[d]? = boolOf t'[d]? := by
  by_cases hd : d < t.size
  · have hd' : d < t'.size := by omega
    have h1 : VRA ρ #[t.getD d undef] #[t'.getD d undef] := by
      rw [VRA.toList]
      exact ⟨_, [], rfl, h, by simp [VRL]⟩
    have h2 := boolOf_rel h1 0
    rw [Array.getElem?_eq_getElem hd, Array.getElem?_eq_getElem hd']
    simpa [Array.getD_eq_getD_getElem?, Array.getElem?_eq_getElem hd, Array.getElem?_eq_getElem hd'] using h2
  · rw [Array.getElem?_eq_none (by omega), Array.getElem?_eq_none (by omega)]
theorem wanted_slot {ρ : Rho} {t t' : Array Value} (hs : t.size = t'.size) (ops : Array Oper) (o : Oper) (h : ∀ d ∈ looks ops o, VR ρ (t.getD d undef) (t'.getD d undef)) : Region.wanted o (yielded ops t) = Region.wanted o (yielded ops t') := by
  unfold Region.wanted
  cases hg : o.guard with
  | none => rfl
  | some g =>
    obtain ⟨j, b⟩ := g
    try simp only
    rw [yielded_eq, yielded_eq]
    cases h1 : (ops[j]?).bind (·.dst) with
    | none => rfl
    | some d =>
      simp only [Option.bind_some]
      rw [boolOf_slot hs (h d ?_)]
      unfold looks
      rw [hg]
      simp [h1]
structure Whole (P : Program) (call : CallF) (ops : Array Oper) (sts : List St) (tmps t1 : Array Value) (A A1 : AW) : Prop where
  edges : edgesOk 0 ops.toList = true
  chain : chainOk (masks ops) (effs P ops ops.size) = true
  slots : slotsOk ops (masks ops) 0 ops.toList = true
  len : sts.length = ops.size
  T0 : stT sts t1 0 = tmps
  A0 : stA sts A1 0 = A
  step : ∀ i o, ops[i]? = some o → StepOk P call ops o (stT sts t1 i) (stA sts A1 i) (stR sts i) (stT sts t1 (i + 1)) (stA sts A1 (i + 1))
  rows : rowsOk P call (masks ops) (effs P ops ops.size) (snap sts A1 A (effs P ops ops.size)) 0 ops.toList sts = true
variable {ops : Array Oper} {sts : List St} {tmps t1 : Array Value} {A A1 : AW}
theorem Whole.tsize (h : Whole P call ops sts tmps t1 A A1) : ∀ i, i ≤ ops.size → (stT sts t1 i).size = tmps.size
  | 0, _ => by rw [h.T0]
  | i + 1, hi => by
    have hlt : i < ops.size := by omega
    obtain ⟨_, h2, _⟩ := h.step i _ (Array.getElem?_eq_getElem hlt)
    rw [h2, aput_size, h.tsize i (by omega)]
theorem Whole.slot (h : Whole P call ops sts tmps t1 A A1) (s : Tmp) : ∀ j, j ≤ ops.size → (stT sts t1 (lw ops (fun _ => true) s j)).getD s undef = (stT sts t1 j).getD s undef
  | 0, _ => rfl
  | j + 1, hj => by
    have hlt : j < ops.size := by omega
    have hget : ops[j]? = some ops[j] := Array.getElem?_eq_getElem hlt
    unfold lw
    by_cases hd : ((ops[j]?).bind (·.dst)) = some s
    · rw [if_pos ⟨rfl, hd⟩]
    · rw [if_neg (fun k => hd k.2), h.slot s j (by omega)]
      obtain ⟨_, h2, _⟩ := h.step j _ hget
      rw [h2, aput_getD, if_neg]
      rintro ⟨hx, _⟩
      rw [hget] at hd
      exact hd (by simpa using hx)
theorem Whole.snapAt (h : Whole P call ops sts tmps t1 A A1) (j : Nat) (hj : j ≤ ops.size) : snap sts A1 A (effs P ops ops.size) (effs P ops j).length = stA sts A1 j := by
  refine snap_spec ops (t1 := t1) h.A0 ?_ j hj
  intro i o ho hE
  obtain ⟨_, _, h3, h4⟩ := h.step i o ho
  cases hr : stR sts i with
  | none => exact h4 hr
  | some v =>
    obtain ⟨h5, h6⟩ := h3 v hr
    rcases h6 with h6 | h6
    · rw [hE] at h6; cases h6
    · exact read_same hE h5 h6
structure Mid (P : Program) (B : Nat → Prop) (w0 : World) (ops : Array Oper) (sts : List St) (t1 : Array Value) (A A1 : AW) (ρ : Rho) (a0 : Act) (listed : Array Bool) (a : Act) (w : World) : Prop where
  size : listed.size = ops.size
  closed : Closed ops fun i => listed.getD i false = true
  inv : ∃ ρ1 k, k ≤ (effs P ops ops.size).length ∧ Ext ρ ρ1 ∧ Inv B w0 ρ1 (snap sts A1 A (effs P ops ops.size) k) w ∧
    (∀ idx e, (effs P ops ops.size)[idx]? = some e → (listed.getD e false = true ↔ idx < k)) ∧
    ∀ s, VR ρ1 ((stT sts t1 (lw ops (fun i => listed.getD i false) s ops.size)).getD s undef) (a.tmps.getD s undef)
  tsize : a.tmps.size = a0.tmps.size
  defers : a.defers = a0.defers
theorem act_put_getD (a : Act) (d : Option Tmp) (v : Value) (s : Tmp) : (a.put d v).tmps.getD s undef = if d = some s ∧ s < a.tmps.size then v else a.tmps.getD s undef := by
  have := aput_getD a.tmps d v s
  cases d with
  | none => exact this
  | some d =>
    have h2 : aput a.tmps (some d) v = (a.put (some d) v).tmps := setS_eq _ _ _
    rw [h2] at this
    exact this
theorem act_put_size (a : Act) (d : Option Tmp) (v : Value) : (a.put d v).tmps.size = a.tmps.size := by cases d <;> simp [Act.put]
theorem getD_listed {listed : Array Bool} {i j : Nat} (hi : i < listed.size) : (listed.setIfInBounds i true).getD j false = (decide (i = j) || listed.getD j false) := by
  by_cases hij : i = j
  · subst hij
    simp [hi]
  · rw [getD_set_ne false hij]
    simp [hij]
theorem Mid.step (W : Whole P call ops sts tmps t1 A A1) {ρ : Rho} {a0 a : Act} {w : World} {listed : Array Bool} (hts : tmps.size = a0.tmps.size) (M : Mid P B w0 ops sts t1 A A1 ρ a0 listed a w) {j : Nat} {o : Oper}
    (hj : listed.getD j false = false) (ho : ops[j]? = some o) (hr : ∀ e ∈ o.after, Region.binds .any e = true → listed.getD e.on false = true) :
    ∃ ρ1 A2 A3, Ext ρ ρ1 ∧ Inv B w0 ρ1 A2 w ∧ (∀ d ∈ looks ops o, VR ρ1 ((stT sts t1 j).getD d undef) (a.tmps.getD d undef)) ∧ (stT sts t1 j).size = a.tmps.size ∧
      Region.wanted o (yielded ops (stT sts t1 j)) = (stR sts j).isSome ∧
      (∀ v, stR sts j = some v → aop P call (stT sts t1 j) o A2 = some (v, A3)) ∧ (stR sts j = none → A3 = A2) ∧
      ∀ ρ2 w2 v', Ext ρ1 ρ2 → Inv B w0 ρ2 A3 w2 → VR ρ2 ((stR sts j).getD undef) v' → Mid P B w0 ops sts t1 A A1 ρ a0 (listed.setIfInBounds j true) (a.put o.dst v') w2 := by
  obtain ⟨hsz, hcl, ⟨ρ1, k, hk, hext, hI, hE, hslot⟩, htz, hdf⟩ := M
  have hlt : j < ops.size := (Array.getElem?_eq_some_iff.1 ho).1
  have hjl : j < listed.size := by omega
  have befD : ∀ {i}, Bef ops i j → listed.getD i false = true := fun hb => hcl.ready ho hr hb
  have befN : ∀ {i}, Bef ops j i → listed.getD i false = true → False := fun hb hi => by
    have := hcl.bef hb hi
    try simp only at this
    rw [hj] at this; cases this
  have lt_of : ∀ {i x}, ops[i]? = some x → i < ops.size := fun hx => (Array.getElem?_eq_some_iff.1 hx).1
  -- who writes a slot that clashes
  have cut : ∀ d, (∀ i x, ops[i]? = some x → x.dst = some d → i ≠ j → (i < j → clash ops x o = true) ∧ (j < i → clash ops o x = true)) →
      ∀ i, i < ops.size → dstAt ops i = some d → i ≠ j → (listed.getD i false = true ↔ i < j) := by
    intro d hd i hi hdi hij
    have hx : ops[i]? = some ops[i] := Array.getElem?_eq_getElem hi
    have hxd : ops[i].dst = some d := by unfold dstAt at hdi; rw [hx] at hdi; simpa using hdi
    obtain ⟨c1, c2⟩ := hd i _ hx hxd hij
    rcases Nat.lt_or_gt_of_ne hij with h | h
    · exact ⟨fun _ => h, fun _ => befD (clash_bef W.slots h hx ho (c1 h))⟩
    · exact ⟨fun hi2 => (befN (clash_bef W.slots h ho hx (c2 h)) hi2).elim, fun h2 => by omega⟩
  have hlook : ∀ d ∈ looks ops o, VR ρ1 ((stT sts t1 j).getD d undef) (a.tmps.getD d undef) := by
    intro d hd
    have h1 := hslot d
    have h2 : lw ops (fun i => listed.getD i false) d ops.size = lw ops (fun _ => true) d j := by
      refine lw_cut (by omega) fun i hi hdi => ?_
      by_cases hij : i = j
      · subst hij
        try simp only
        rw [hj]
        simp
      · refine cut d ?_ i hi hdi hij
        intro i x hx hxd _
        refine ⟨fun _ => ?_, fun _ => ?_⟩
        · unfold clash; rw [dstIn_spec hxd hd]; simp
        · unfold clash; rw [dstIn_spec hxd hd]; simp
    rw [h2, W.slot d j (by omega)] at h1
    exact h1
  -- the heap ahead and behind
  have heap : ∃ A3, (∀ v, stR sts j = some v → aop P call (stT sts t1 j) o (snap sts A1 A (effs P ops ops.size) k) = some (v, A3)) ∧ (stR sts j = none → A3 = snap sts A1 A (effs P ops ops.size) k) ∧
      ∃ k2, k2 ≤ (effs P ops ops.size).length ∧ A3 = snap sts A1 A (effs P ops ops.size) k2 ∧ ∀ idx e, (effs P ops ops.size)[idx]? = some e → ((listed.setIfInBounds j true).getD e false = true ↔ idx < k2) := by
    obtain ⟨_, _, s3, s4⟩ := W.step j o ho
    cases hEj : isEat P ops j with
    | true =>
      have hat := effs_at (P := P) ops hlt hEj
      have hge : ¬ (effs P ops j).length < k := fun h => by
        have := (hE _ _ hat).2 h
        rw [hj] at this; cases this
      have hle : ¬ k < (effs P ops j).length := fun h => by
        have hkl : k < (effs P ops ops.size).length := by
          have := (List.getElem?_eq_some_iff.1 hat).1
          omega
        have hb := chain_bef W.chain ((effs P ops j).length - k - 1) k _ j (List.getElem?_eq_getElem hkl) (by rw [show k + ((effs P ops j).length - k - 1) + 1 = (effs P ops j).length from by omega]; exact hat)
        have := (hE k _ (List.getElem?_eq_getElem hkl)).1 (befD hb)
        omega
      have hkeq : k = (effs P ops j).length := by omega
      have hA2 := W.snapAt j (by omega)
      have hA3 := W.snapAt (j + 1) (by omega)
      rw [effs_succ, hEj] at hA3
      simp only [if_true, List.length_append, List.length_cons, List.length_nil, Nat.zero_add] at hA3
      refine ⟨stA sts A1 (j + 1), ?_, ?_, k + 1, ?_, by rw [hkeq]; exact hA3.symm, ?_⟩
      · intro v hv
        rw [hkeq, hA2]
        exact (s3 v hv).1
      · intro hn
        rw [hkeq, hA2]
        exact s4 hn
      · have := (List.getElem?_eq_some_iff.1 hat).1
        omega
      · intro idx e he
        rw [getD_listed hjl]
        by_cases hje : j = e
        · subst hje
          have hidx : idx = (effs P ops j).length := by
            rcases Nat.lt_trichotomy idx (effs P ops j).length with h | h | h
            · have hb := chain_bef W.chain ((effs P ops j).length - idx - 1) idx _ j he (by rw [show idx + ((effs P ops j).length - idx - 1) + 1 = (effs P ops j).length from by omega]; exact hat)
              exact (befN hb (befD hb)).elim
            · exact h
            · have hb := chain_bef W.chain (idx - (effs P ops j).length - 1) (effs P ops j).length _ j hat (by rw [show (effs P ops j).length + (idx - (effs P ops j).length - 1) + 1 = idx from by omega]; exact he)
              exact (befN hb (befD hb)).elim
          simp only [decide_true, Bool.true_or, true_iff]
          omega
        · simp only [hje, decide_false, Bool.false_or]
          rw [hE idx e he]
          constructor
          · intro h; omega
          · intro h
            rcases Nat.lt_or_ge idx k with h2 | h2
            · exact h2
            · have : idx = (effs P ops j).length := by omega
              rw [this] at he
              rw [hat] at he
              exact (hje (Option.some.inj he)).elim
    | false =>
      have hEo : isE P o = false := by unfold isEat at hEj; rw [ho] at hEj; exact hEj
      refine ⟨snap sts A1 A (effs P ops ops.size) k, ?_, fun _ => rfl, k, hk, rfl, ?_⟩
      · intro v hv
        have hst : ∃ s, sts[j]? = some s := ⟨_, List.getElem?_eq_getElem (by rw [W.len]; exact hlt)⟩
        obtain ⟨s, hs⟩ := hst
        have hrow := rowsOk_spec W.rows j o s (by simpa using ho) hs
        rw [Nat.zero_add] at hrow
        have hsr : s.r = some v := by unfold stR at hv; rw [hs] at hv; simpa using hv
        have hsT : stT sts t1 j = s.t := by unfold stT; rw [hs]
        unfold rowOk at hrow
        rw [hsr, hEo] at hrow
        simp only [Bool.false_or, Bool.or_eq_true] at hrow
        rcases hrow with hpu | hrow
        · exact pure_aop hpu (s3 v hv).1 _
        simp only [List.all_eq_true, List.mem_range, Bool.or_eq_true, Bool.not_eq_true'] at hrow
        have hmay : mayK (masks ops) (effs P ops ops.size) j k = true := by
          unfold mayK
          simp only [Bool.and_eq_true, List.all_eq_true, Bool.not_eq_true']
          refine ⟨fun e he => ?_, fun e he => ?_⟩
          · obtain ⟨i, hi⟩ := List.mem_iff_getElem?.1 he
            rw [List.getElem?_drop] at hi
            cases hb : ((masks ops).getD j 0).testBit e with
            | false => rfl
            | true =>
              have := (hE _ _ hi).1 (befD (masks_bef ops hb))
              omega
          · obtain ⟨i, hi⟩ := List.mem_iff_getElem?.1 he
            have hik : i < k := by
              rcases Nat.lt_or_ge i k with h | h
              · exact h
              · rw [List.getElem?_eq_none (by rw [List.length_take]; omega)] at hi; cases hi
            rw [List.getElem?_take_of_lt hik] at hi
            cases hb : ((masks ops).getD e 0).testBit j with
            | false => rfl
            | true => exact (befN (masks_bef ops hb) ((hE _ _ hi).2 hik)).elim
        rcases hrow k (by omega) with (hcan | h) | h
        · have hkc : k = (effs P ops j).length := by rw [← canonK_eq (P := P) ops j (n := ops.size) (by omega)]; exact Nat.eq_of_beq_eq_true hcan
          obtain ⟨a1, a2⟩ := s3 v hv
          rcases a2 with a2 | a2
          · rw [hEo] at a2; cases a2
          · have hsame := read_same hEo a1 a2
            rw [hkc, W.snapAt j (by omega)]
            rw [hsame] at a1
            exact a1
        · rw [h] at hmay; cases hmay
        · unfold sameAt at h
          rw [hsT]
          cases ha : aop P call s.t o (snap sts A1 A (effs P ops ops.size) k) with
          | none => rw [ha] at h; cases h
          | some q =>
            obtain ⟨u, A'⟩ := q
            rw [ha] at h
            simp only [Bool.and_eq_true] at h
            have hu := beqV_eq _ _ h.1
            have hA := read_same hEo ha h.2
            rw [hu, hA]
      · intro idx e he
        rw [getD_listed hjl]
        have hne : j ≠ e := by
          rintro rfl
          have := (effs_lt ops (List.mem_of_getElem? he)).2
          rw [hEj] at this; cases this
        simp only [hne, decide_false, Bool.false_or]
        exact hE idx e he
  obtain ⟨A3, hv, hn, k2, hk2, hA3, hE2⟩ := heap
  obtain ⟨s1, s2, _, _⟩ := W.step j o ho
  have hsize : (stT sts t1 j).size = a.tmps.size := by rw [W.tsize j (by omega), hts, htz]
  refine ⟨ρ1, _, A3, hext, hI, hlook, hsize, s1, hv, hn, ?_⟩
  intro ρ2 w2 v' g1 g2 g3
  refine ⟨by simp [hsz], ?_, ⟨ρ2, k2, hk2, hext.trans g1, by rw [← hA3]; exact g2, hE2, ?_⟩, by rw [act_put_size, htz], by rw [put_defers, hdf]⟩
  · intro i x hx hi e he hb
    try simp only at hi ⊢
    rw [getD_listed hjl] at hi ⊢
    simp only [Bool.or_eq_true, decide_eq_true_eq] at hi ⊢
    rcases hi with rfl | hi
    · rw [ho] at hx
      obtain rfl := Option.some.inj hx
      exact .inr (hr e he hb)
    · exact .inr (hcl i x hx hi e he hb)
  · intro s
    rw [act_put_getD]
    by_cases hd : o.dst = some s
    · have hlw : lw ops (fun i => (listed.setIfInBounds j true).getD i false) s ops.size = j + 1 := by
        refine lw_eq ops _ s hlt ⟨by (try simp only); rw [getD_listed hjl]; simp, by rw [ho]; simpa using hd⟩ ?_
        rintro i hi1 hi2 ⟨q1, q2⟩
        try simp only at q1
        rw [getD_listed hjl] at q1
        have hne : j ≠ i := by omega
        simp only [hne, decide_false, Bool.false_or] at q1
        have := (cut s ?_ i hi2 q2 (Ne.symm hne)).1 q1
        · omega
        · intro i x hx hxd _
          have hdx : dstIn x [s] = true := dstIn_spec hxd (by simp)
          have hdo : dstIn o [s] = true := dstIn_spec hd (by simp)
          refine ⟨fun _ => ?_, fun _ => ?_⟩
          · unfold clash; rw [hxd]; simp [hdo]
          · unfold clash; rw [hd]; simp [hdx]
      rw [hlw, s2, aput_getD]
      by_cases hls : s < a.tmps.size
      · rw [if_pos ⟨hd, by rw [hsize]; exact hls⟩, if_pos ⟨hd, hls⟩]
        exact g3
      · rw [if_neg (fun q => hls (by rw [← hsize]; exact q.2)), if_neg (fun q => hls q.2)]
        have h1 : (stT sts t1 j).getD s undef = undef := by
          rw [Array.getD_eq_getD_getElem?, Array.getElem?_eq_none (Nat.not_lt.1 (by first | exact hls | (rw [hsize]; exact hls)))]; rfl
        have h2 : a.tmps.getD s undef = undef := by
          rw [Array.getD_eq_getD_getElem?, Array.getElem?_eq_none (Nat.not_lt.1 (by first | exact hls | (rw [hsize]; exact hls)))]; rfl
        rw [h1, h2]
        exact VR.undef
    · rw [if_neg (fun q => hd q.1)]
      have hlw : lw ops (fun i => (listed.setIfInBounds j true).getD i false) s ops.size = lw ops (fun i => listed.getD i false) s ops.size := by
        refine lw_congr ops _ _ s _ fun i hi => ?_
        by_cases hij : j = i
        · subst hij
          rw [ho]
          constructor
          · rintro ⟨_, h⟩; exact (hd (by simpa using h)).elim
          · rintro ⟨_, h⟩; exact (hd (by simpa using h)).elim
        · rw [getD_listed hjl]
          simp [hij]
      rw [hlw]
      exact VR.ext g1 _ _ (hslot s)
theorem Mid.all (W : Whole P call ops sts tmps t1 A A1) {listed : Array Bool} (hsz : listed.size = ops.size) (hr : Region.ready .any ops listed = []) : ∀ i, i < ops.size → listed.getD i false = true := by
  intro i
  induction i using Nat.strongRecOn with
  | ind i ih =>
    intro hi
    cases hl : listed.getD i false with
    | true => rfl
    | false =>
      exfalso
      have hget : ops[i]? = some ops[i] := Array.getElem?_eq_getElem hi
      have hmem : i ∈ Region.ready .any ops listed := by
        rw [mem_ready]
        refine ⟨?_, _, hget, fun e he hb => ?_⟩
        · have : i < listed.size := by omega
          have h5 : listed[i]?.getD false = false := by simpa [Array.getD_eq_getD_getElem?] using hl
          rw [Array.getElem?_eq_getElem this] at h5
          rw [Array.getD_eq_getD_getElem?, Array.getElem?_eq_getElem this]
          exact h5
        · have hlt := edgesOk_spec W.edges i _ (by simpa using hget) e he hb
          exact ih _ (by omega) (by omega)
      rw [hr] at hmem
      simp at hmem
theorem any_sound (W : Whole P call ops sts tmps t1 A A1) (hcall : CallSound P B w0 call) {ρ : Rho} {a0 : Act} (hts : tmps.size = a0.tmps.size) {Q : Exit → Act → World → Prop}
    (hQ : ∀ ρ1 w1 a1, Ext ρ ρ1 → Inv B w0 ρ1 A1 w1 → VRA ρ1 t1 a1.tmps → a1.defers = a0.defers → Q .normal a1 w1) :
    ∀ (fuel : Nat) (listed : Array Bool) (a : Act) (w : World), (List.range ops.size).countP (fun i => !(listed.getD i false)) ≤ fuel → Mid P B w0 ops sts t1 A A1 ρ a0 listed a w → wpAny P .any ops Q fuel listed a w := by
  have hend : ∀ (listed : Array Bool) (a : Act) (w : World), Mid P B w0 ops sts t1 A A1 ρ a0 listed a w → Region.ready .any ops listed = [] → Q .normal a w := by
    intro listed a w M hr
    have hall := Mid.all W M.size hr
    obtain ⟨hsz, hcl, ⟨ρ1, k, hk, hext, hI, hE, hslot⟩, htz, hdf⟩ := M
    have hkE : k = (effs P ops ops.size).length := by
      rcases Nat.lt_or_ge k (effs P ops ops.size).length with h | h
      · have h1 := List.getElem?_eq_getElem h
        have h2 := effs_lt ops (List.mem_of_getElem? h1)
        have := (hE k _ h1).1 (hall _ h2.1)
        omega
      · omega
    have hA : snap sts A1 A (effs P ops ops.size) k = A1 := by
      rw [hkE, W.snapAt ops.size (by omega)]
      unfold stA
      rw [List.getElem?_eq_none (by rw [W.len]; omega)]
    have hT : stT sts t1 ops.size = t1 := by
      unfold stT
      rw [List.getElem?_eq_none (by rw [W.len]; omega)]
    have ht1 : t1.size = a.tmps.size := by
      have := W.tsize ops.size (by omega)
      rw [hT] at this
      rw [this, hts, htz]
    refine hQ ρ1 w a hext (by rw [← hA]; exact hI) (VRA.of_getD ht1 fun s => ?_) hdf
    have h1 := hslot s
    have h2 : lw ops (fun i => listed.getD i false) s ops.size = lw ops (fun _ => true) s ops.size := by
      refine lw_congr ops _ _ s _ fun i hi => ?_
      rw [hall i hi]
    rw [h2, W.slot s ops.size (by omega), hT] at h1
    exact h1
  intro fuel
  induction fuel with
  | zero =>
    intro listed a w hc M
    have hall : ∀ i, i < ops.size → listed.getD i false = true := by
      intro i hi
      have h0 : (List.range ops.size).countP (fun i => !(listed.getD i false)) = 0 := by omega
      rw [List.countP_eq_zero] at h0
      have := h0 i (List.mem_range.2 hi)
      simpa using this
    have hr : Region.ready .any ops listed = [] := by
      rw [List.eq_nil_iff_forall_not_mem]
      intro j hj
      rw [mem_ready] at hj
      obtain ⟨h0, o, ho, _⟩ := hj
      have hlt := (Array.getElem?_eq_some_iff.1 ho).1
      have h1 := hall j hlt
      have : j < listed.size := by rw [M.size]; exact hlt
      simp [this] at h0 h1
      rw [h0] at h1; cases h1
    exact ⟨hr, hend listed a w M hr⟩
  | succ fuel ih =>
    intro listed a w hc M
    refine ⟨hend listed a w M, ?_⟩
    intro j hj
    rw [mem_ready] at hj
    obtain ⟨h0, o, ho, hr⟩ := hj
    have hlt := (Array.getElem?_eq_some_iff.1 ho).1
    have hjl : j < listed.size := by rw [M.size]; exact hlt
    have hjf : listed.getD j false = false := by simpa [hjl] using h0
    obtain ⟨ρ1, A2, A3, hext, hI, hlook, hsize, hw, hv, hn, hnext⟩ := M.step W hts hjf ho hr
    have hcount : (List.range ops.size).countP (fun i => !((listed.setIfInBounds j true).getD i false)) ≤ fuel := by
      have := countP_lt (p := fun i => !((listed.setIfInBounds j true).getD i false)) (q := fun i => !(listed.getD i false)) (l := List.range ops.size) (fun x _ hx => by
        rw [getD_listed hjl] at hx
        simp only [Bool.not_or, Bool.and_eq_true] at hx
        exact hx.2) ⟨j, List.mem_range.2 hlt, by (try simp only); rw [hjf]; rfl, by (try simp only); rw [getD_listed hjl]; simp⟩
      omega
    unfold wpOp
    rw [ho]
    try simp only
    rw [← wanted_slot hsize ops o hlook, hw]
    cases hR : stR sts j with
    | none =>
      simp only [Option.isSome_none, Bool.false_eq_true, if_false]
      have hA := hn hR
      refine ih _ _ _ hcount (hnext ρ1 w undef (Ext.refl _) (by rw [hA]; exact hI) ?_)
      rw [hR]
      exact VR.undef
    | some v =>
      simp only [Option.isSome_some, if_true]
      refine .inl (aop_sound hcall (hv v hR) hI (fun x hx v hxv => aeval_slot (fun t ht => ?_) hxv) ?_)
      · subst ht
        refine hlook t ?_
        unfold looks
        simp only [List.mem_append]
        exact .inl (slotsOf_mem hx)
      · intro ρ2 w2 v' g1 g2 g3
        refine ih _ _ _ hcount (hnext ρ2 w2 v' g1 g2 ?_)
        rw [hR]
        exact g3
theorem adraw_sound (hm : P.follows .mixedOrders = true) (hcall : CallSound P B w0 call) : DrawSound P B w0 (adraw P call) := by
  intro ops id tmps A tmps1 A1 ρ w a Q e hI ht hQ
  unfold adraw at e
  cases hs : sOk P ops with
  | false => rw [hs] at e; simp at e
  | true =>
  rw [hs] at e
  simp only [cond_true] at e
  cases htr : trace P call ops ops.toList tmps A with
  | none => rw [htr] at e; simp at e
  | some q =>
  obtain ⟨sts, t1, A2⟩ := q
  rw [htr] at e
  simp only at e
  cases hro : rowsOk P call (masks ops) (effs P ops ops.size) (snap sts A2 A (effs P ops ops.size)) 0 ops.toList sts with
  | false => rw [hro] at e; simp at e
  | true =>
  rw [hro] at e
  simp only [cond_true, Option.some.injEq, Prod.mk.injEq] at e
  obtain ⟨rfl, rfl⟩ := e
  obtain ⟨hlen, hT0, hA0, hstep⟩ := trace_spec ops ops.toList tmps A sts t1 A2 htr
  simp only [sOk, Bool.and_eq_true] at hs
  obtain ⟨⟨he, hc⟩, hsl⟩ := hs
  have W : Whole P call ops sts tmps t1 A A2 := ⟨he, hc, hsl, by simpa using hlen, hT0, hA0, fun i o ho => hstep i o (by simpa using ho), hro⟩
  refine wp_region_any hm ?_
  refine any_sound W hcall ht.size.symm hQ ops.size _ a _ ?_ ?_
  · exact Nat.le_trans List.countP_le_length (by simp)
  · have hf : ∀ i, (Array.replicate ops.size false).getD i false = false := by
      intro i
      by_cases h : i < ops.size
      · simp [h]
      · simp [h]
    have hlw0 : ∀ s n, lw ops (fun i => (Array.replicate ops.size false).getD i false) s n = 0 := by
      intro s n
      induction n with
      | zero => rfl
      | succ n ih =>
        unfold lw
        try simp only
        rw [hf n]
        simp only [Bool.false_eq_true, false_and, if_false]
        exact ih
    refine ⟨by simp, ?_, ⟨ρ, 0, Nat.zero_le _, Ext.refl _, hI.drew, ?_, ?_⟩, rfl, rfl⟩
    · intro i o ho hi
      try simp only at hi
      rw [hf] at hi; cases hi
    · intro idx e he
      rw [hf]
      simp
    · intro s
      rw [hlw0, hT0]
      exact ht.getD s
end
end Go.Abs
