/- Regions that draw their order: the heap behind each set of operations given by a function; heaps may differ in how they are written. -/
import Derived.Test.YtmgadeebncpaoaaAbsDrawE
set_option autoImplicit false
set_option linter.unusedVariables false
set_option linter.unusedSimpArgs false
set_option linter.unnecessarySimpa false
namespace Go.Abs
open Go.RowKit

/-- The same heap, however it is written. -/
structure AEq (A B : AW) : Prop where
  size : A.size = B.size
  nx : A.nx = B.nx
  get : ∀ b, A.get b = B.get b

theorem AEq.refl (A : AW) : AEq A A := ⟨rfl, rfl, fun _ => rfl⟩

theorem Inv.eqv {B0 : Nat} {w0 : World} {ρ : Rho} {A B : AW} {w : World} (h : Inv B0 w0 ρ A w) (k : AEq A B) : Inv B0 w0 ρ B w :=
  ⟨h.below, h.base, fun b e hb => by rw [← k.size, ← k.get]; exact h.at_ b e hb, fun b c e f hne hb hc hlb hlc => h.sep b c e f hne hb hc (by rw [k.get]; exact hlb) (by rw [k.get]; exact hlc),
    fun b hb => h.dead_ b (by rw [k.size]; exact hb), fun r hr => by rw [← k.size, ← k.get]; exact h.nx_ r (by rw [k.nx]; exact hr)⟩

section
variable {P : Program} {call : CallF}

/-- All that is known of the run in the text's order, and of the table. -/
structure WholeH (P : Program) (call : CallF) (ops : Array Oper) (sts : List SE) (tmps t1 : Array Value) (A0 A1 : AW) (H : Nat → Option AW) : Prop where
  edges : edgesOk 0 ops.toList = true
  slots : slotsOk ops (masks ops) 0 ops.toList = true
  len : sts.length = ops.size
  T0 : seT sts t1 0 = tmps
  step : ∀ i o, ops[i]? = some o → Region.wanted o (yielded ops (seT sts t1 i)) = (seR sts i).isSome ∧ seT sts t1 (i + 1) = aput (seT sts t1 i) o.dst ((seR sts i).getD undef)
  start : H 0 = some A0
  fin : H (fullE sts 0) = some A1
  chk : ∀ m A, H m = some A → ∀ j o s, ops[j]? = some o → sts[j]? = some s → mayE (masks ops) (effsE sts 0) m j = true →
    (s.e = true → (s.r = none → H (m ||| 2 ^ j) = some A) ∧ ∀ v, s.r = some v → ∃ A' A2, stepE P call s.t o s.p A = some (v, A') ∧ H (m ||| 2 ^ j) = some A2 ∧ AEq A' A2) ∧
    (s.e = false → ∀ v, s.r = some v → aop P call s.t o A = some (v, A))

variable {ops : Array Oper} {sts : List SE} {tmps t1 : Array Value} {A0 A1 : AW} {H : Nat → Option AW} {B : Nat} {w0 : World}

theorem WholeH.tsize (h : WholeH P call ops sts tmps t1 A0 A1 H) : ∀ i, i ≤ ops.size → (seT sts t1 i).size = tmps.size
  | 0, _ => by rw [h.T0]
  | i + 1, hi => by
    have hlt : i < ops.size := by omega
    obtain ⟨_, h2⟩ := h.step i _ (Array.getElem?_eq_getElem hlt)
    rw [h2, aput_size, h.tsize i (by omega)]

theorem WholeH.slot (h : WholeH P call ops sts tmps t1 A0 A1 H) (s : Tmp) : ∀ j, j ≤ ops.size → (seT sts t1 (lw ops (fun _ => true) s j)).getD s undef = (seT sts t1 j).getD s undef
  | 0, _ => rfl
  | j + 1, hj => by
    have hlt : j < ops.size := by omega
    have hget : ops[j]? = some ops[j] := Array.getElem?_eq_getElem hlt
    unfold lw
    by_cases hd : ((ops[j]?).bind (·.dst)) = some s
    · rw [if_pos ⟨rfl, hd⟩]
    · rw [if_neg (fun k => hd k.2), h.slot s j (by omega)]
      obtain ⟨_, h2⟩ := h.step j _ hget
      rw [h2, aput_getD, if_neg]
      rintro ⟨hx, _⟩
      rw [hget] at hd
      exact hd (by simpa using hx)

/-- In the midst of a run in some order. -/
structure MidH (B : Nat) (w0 : World) (ops : Array Oper) (sts : List SE) (t1 : Array Value) (H : Nat → Option AW) (ρ : Rho) (a0 : Act) (listed : Array Bool) (a : Act) (w : World) : Prop where
  size : listed.size = ops.size
  closed : Closed ops fun i => listed.getD i false = true
  inv : ∃ ρ1 m A, Ext ρ ρ1 ∧ Inv B w0 ρ1 A w ∧ H m = some A ∧ (∀ i, m.testBit i = (seE sts i && listed.getD i false)) ∧
    ∀ s, VR ρ1 ((seT sts t1 (lw ops (fun i => listed.getD i false) s ops.size)).getD s undef) (a.tmps.getD s undef)
  tsize : a.tmps.size = a0.tmps.size
  defers : a.defers = a0.defers

theorem MidH.step (W : WholeH P call ops sts tmps t1 A0 A1 H) {ρ : Rho} {a0 a : Act} {w : World} {listed : Array Bool} (hts : tmps.size = a0.tmps.size) (M : MidH B w0 ops sts t1 H ρ a0 listed a w) {j : Nat} {o : Oper}
    (hj : listed.getD j false = false) (ho : ops[j]? = some o) (hr : ∀ e ∈ o.after, Region.binds .any e = true → listed.getD e.on false = true) :
    ∃ ρ1, (∀ d ∈ looks ops o, VR ρ1 ((seT sts t1 j).getD d undef) (a.tmps.getD d undef)) ∧ (seT sts t1 j).size = a.tmps.size ∧
      Region.wanted o (yielded ops (seT sts t1 j)) = (seR sts j).isSome ∧
      (seR sts j = none → MidH B w0 ops sts t1 H ρ a0 (listed.setIfInBounds j true) (a.put o.dst undef) w) ∧
      (∀ v, seR sts j = some v → ∃ A2 A3, Inv B w0 ρ1 A2 w ∧ aop P call (seT sts t1 j) o A2 = some (v, A3) ∧
        ∀ ρ2 w2 v', Ext ρ1 ρ2 → Inv B w0 ρ2 A3 w2 → VR ρ2 v v' → MidH B w0 ops sts t1 H ρ a0 (listed.setIfInBounds j true) (a.put o.dst v') w2) := by
  obtain ⟨hsz, hcl, ⟨ρ1, m, A, hext, hI, hfm, hm, hslot⟩, htz, hdf⟩ := M
  have hlt : j < ops.size := (Array.getElem?_eq_some_iff.1 ho).1
  have hjl : j < listed.size := by omega
  have befD : ∀ {i}, Bef ops i j → listed.getD i false = true := fun hb => hcl.ready ho hr hb
  have befN : ∀ {i}, Bef ops j i → listed.getD i false = true → False := fun hb hi => by
    have := hcl.bef hb hi
    try simp only at this
    rw [hj] at this; cases this
  have cut : ∀ d, (∀ i x, ops[i]? = some x → x.dst = some d → i ≠ j → (i < j → clash ops x o = true) ∧ (j < i → clash ops o x = true)) →
      ∀ i, i < ops.size → dstAt ops i = some d → i ≠ j → (listed.getD i false = true ↔ i < j) := by
    intro d hd i hi hdi hij
    have hx : ops[i]? = some ops[i] := Array.getElem?_eq_getElem hi
    have hxd : ops[i].dst = some d := by unfold dstAt at hdi; rw [hx] at hdi; simpa using hdi
    obtain ⟨c1, c2⟩ := hd i _ hx hxd hij
    rcases Nat.lt_or_gt_of_ne hij with h | h
    · exact ⟨fun _ => h, fun _ => befD (clash_bef W.slots h hx ho (c1 h))⟩
    · exact ⟨fun hi2 => (befN (clash_bef W.slots h ho hx (c2 h)) hi2).elim, fun h2 => by omega⟩
  have hlook : ∀ d ∈ looks ops o, VR ρ1 ((seT sts t1 j).getD d undef) (a.tmps.getD d undef) := by
    intro d hd
    have h1 := hslot d
    have h2 : lw ops (fun i => listed.getD i false) d ops.size = lw ops (fun _ => true) d j := by
      refine lw_cut (by omega) fun i hi hdi => ?_
      by_cases hij : i = j
      · subst hij
        try simp only
        rw [hj]
        simp
      · refine cut d ?_ i hi hdi hij
        intro i x hx hxd _
        refine ⟨fun _ => ?_, fun _ => ?_⟩
        · unfold clash; rw [dstIn_spec hxd hd]; simp
        · unfold clash; rw [dstIn_spec hxd hd]; simp
    rw [h2, W.slot d j (by omega)] at h1
    exact h1
  obtain ⟨s1, s2⟩ := W.step j o ho
  have hsize : (seT sts t1 j).size = a.tmps.size := by rw [W.tsize j (by omega), hts, htz]
  have next : ∀ ρ2 w2 v' m2 A4, Ext ρ1 ρ2 → Inv B w0 ρ2 A4 w2 → H m2 = some A4 → (∀ i, m2.testBit i = (seE sts i && (decide (j = i) || listed.getD i false))) → VR ρ2 ((seR sts j).getD undef) v' →
      MidH B w0 ops sts t1 H ρ a0 (listed.setIfInBounds j true) (a.put o.dst v') w2 := by
    intro ρ2 w2 v' m2 A4 g1 g2 gf gm g3
    refine ⟨by simp [hsz], ?_, ⟨ρ2, m2, A4, hext.trans g1, g2, gf, fun i => by rw [gm, getD_listed hjl], ?_⟩, by rw [act_put_size, htz], by rw [put_defers, hdf]⟩
    · intro i x hx hi e he hb
      try simp only at hi ⊢
      rw [getD_listed hjl] at hi ⊢
      simp only [Bool.or_eq_true, decide_eq_true_eq] at hi ⊢
      rcases hi with rfl | hi
      · rw [ho] at hx
        obtain rfl := Option.some.inj hx
        exact .inr (hr e he hb)
      · exact .inr (hcl i x hx hi e he hb)
    · intro s
      rw [act_put_getD]
      by_cases hd : o.dst = some s
      · have hlw : lw ops (fun i => (listed.setIfInBounds j true).getD i false) s ops.size = j + 1 := by
          refine lw_eq ops _ s hlt ⟨by (try simp only); rw [getD_listed hjl]; simp, by rw [ho]; simpa using hd⟩ ?_
          rintro i hi1 hi2 ⟨q1, q2⟩
          try simp only at q1
          rw [getD_listed hjl] at q1
          have hne : j ≠ i := by omega
          simp only [hne, decide_false, Bool.false_or] at q1
          have := (cut s ?_ i hi2 q2 (Ne.symm hne)).1 q1
          · omega
          · intro i x hx hxd _
            have hdx : dstIn x [s] = true := dstIn_spec hxd (by simp)
            have hdo : dstIn o [s] = true := dstIn_spec hd (by simp)
            refine ⟨fun _ => ?_, fun _ => ?_⟩
            · unfold clash; rw [hxd]; simp [hdo]
            · unfold clash; rw [hd]; simp [hdx]
        rw [hlw, s2, aput_getD]
        by_cases hls : s < a.tmps.size
        · rw [if_pos ⟨hd, by rw [hsize]; exact hls⟩, if_pos ⟨hd, hls⟩]
          exact g3
        · rw [if_neg (fun q => hls (by rw [← hsize]; exact q.2)), if_neg (fun q => hls q.2)]
          have h1 : (seT sts t1 j).getD s undef = undef := by
            rw [Array.getD_eq_getD_getElem?, Array.getElem?_eq_none (Nat.not_lt.1 (by first | exact hls | (rw [hsize]; exact hls)))]; rfl
          have h2 : a.tmps.getD s undef = undef := by
            rw [Array.getD_eq_getD_getElem?, Array.getElem?_eq_none (Nat.not_lt.1 (by first | exact hls | (rw [hsize]; exact hls)))]; rfl
          rw [h1, h2]
          exact VR.undef
      · rw [if_neg (fun q => hd q.1)]
        have hlw : lw ops (fun i => (listed.setIfInBounds j true).getD i false) s ops.size = lw ops (fun i => listed.getD i false) s ops.size := by
          refine lw_congr ops _ _ s _ fun i hi => ?_
          by_cases hij : j = i
          · subst hij
            rw [ho]
            constructor
            · rintro ⟨_, h⟩; exact (hd (by simpa using h)).elim
            · rintro ⟨_, h⟩; exact (hd (by simpa using h)).elim
          · rw [getD_listed hjl]
            simp [hij]
        rw [hlw]
        exact VR.ext g1 _ _ (hslot s)
  -- what the table says
  obtain ⟨s, hs⟩ : ∃ s, sts[j]? = some s := ⟨_, List.getElem?_eq_getElem (by rw [W.len]; exact hlt)⟩
  have hrow := W.chk m A hfm j o s ho hs
  have hsT : seT sts t1 j = s.t := by unfold seT; rw [hs]
  have hsR : seR sts j = s.r := by unfold seR; rw [hs]; rfl
  have hsE : seE sts j = s.e := by unfold seE; rw [hs]
  have hmay : mayE (masks ops) (effsE sts 0) m j = true := by
    unfold mayE
    simp only [Bool.and_eq_true, List.all_eq_true, Bool.not_eq_true', Bool.or_eq_true]
    refine ⟨⟨by rw [hm, hj, Bool.and_false], fun e he => ?_⟩, fun e he => ?_⟩
    · have hee := (effsE_spec he).2
      rw [Nat.sub_zero] at hee
      cases hb : ((masks ops).getD j 0).testBit e with
      | false => exact .inl rfl
      | true => exact .inr (by rw [hm, hee, befD (masks_bef ops hb)]; rfl)
    · cases hme : m.testBit e with
      | false => exact .inl rfl
      | true =>
        refine .inr ?_
        rw [hm] at hme
        simp only [Bool.and_eq_true] at hme
        cases hb : ((masks ops).getD e 0).testBit j with
        | false => rfl
        | true => exact (befN (masks_bef ops hb) hme.2).elim
  obtain ⟨hrE, hrN⟩ := hrow hmay
  cases hse : s.e with
  | false =>
    have hmj : ∀ i, m.testBit i = (seE sts i && (decide (j = i) || listed.getD i false)) := by
      intro i
      rw [hm]
      by_cases hij : j = i
      · subst hij; rw [hsE, hse]; rfl
      · simp [hij]
    refine ⟨ρ1, hlook, hsize, s1, fun hn => next ρ1 w undef m A (Ext.refl _) hI hfm hmj (by rw [hn]; exact VR.undef), ?_⟩
    intro v hv
    rw [hsR] at hv
    refine ⟨A, A, hI, by rw [hsT]; exact hrN hse v hv, ?_⟩
    intro ρ2 w2 v' g1 g2 g3
    exact next ρ2 w2 v' m A g1 g2 hfm hmj (by rw [hsR, hv]; exact g3)
  | true =>
    have hmj : ∀ i, (m ||| 2 ^ j).testBit i = (seE sts i && (decide (j = i) || listed.getD i false)) := by
      intro i
      rw [Nat.testBit_or, Nat.testBit_two_pow, hm]
      by_cases hij : j = i
      · subst hij; rw [hsE, hse]; simp
      · simp [hij]
    obtain ⟨hr0, hr1⟩ := hrE hse
    refine ⟨ρ1, hlook, hsize, s1, ?_, ?_⟩
    · intro hnone
      rw [hsR] at hnone
      exact next ρ1 w undef _ _ (Ext.refl _) hI (hr0 hnone) hmj (by rw [hsR, hnone]; exact VR.undef)
    · intro v hv
      rw [hsR] at hv
      obtain ⟨A', A2, hst, hf2, hAA⟩ := hr1 v hv
      unfold stepE at hst
      cases hp : s.p with
      | none =>
        rw [hp] at hst
        simp only at hst
        refine ⟨A, A', hI, by rw [hsT]; exact hst, ?_⟩
        intro ρ2 w2 v' g1 g2 g3
        exact next ρ2 w2 v' _ _ g1 (g2.eqv hAA) hf2 hmj (by rw [hsR, hv]; exact g3)
      | some r =>
        rw [hp] at hst
        simp only at hst
        cases hrs : ((A.get r).isResv && Nat.blt r A.size) with
        | false => rw [hrs] at hst; simp at hst
        | true =>
          rw [hrs] at hst
          simp only [cond_true] at hst
          simp only [Bool.and_eq_true] at hrs
          have hg : A.get r = .resv := by
            cases hgr : A.get r <;> rw [hgr] at hrs <;> simp [AObj.isResv] at hrs
          have hlt2 : r < A.size := by
            have := hrs.2
            simp [Nat.blt] at this
            omega
          split at hst
          · rename_i v3 A3 ha
            simp only [Option.some.injEq, Prod.mk.injEq] at hst
            obtain ⟨rfl, rfl⟩ := hst
            refine ⟨A.at (some r), A3, hI.atSome hlt2 hg, by rw [hsT]; exact ha, ?_⟩
            intro ρ2 w2 v' g1 g2 g3
            exact next ρ2 w2 v' _ _ g1 (g2.atNone.eqv hAA) hf2 hmj (by rw [hsR, hv]; exact g3)
          · cases hst

theorem MidH.all (W : WholeH P call ops sts tmps t1 A0 A1 H) {listed : Array Bool} (hsz : listed.size = ops.size) (hr : Region.ready .any ops listed = []) : ∀ i, i < ops.size → listed.getD i false = true := by
  intro i
  induction i using Nat.strongRecOn with
  | ind i ih =>
    intro hi
    cases hl : listed.getD i false with
    | true => rfl
    | false =>
      exfalso
      have hget : ops[i]? = some ops[i] := Array.getElem?_eq_getElem hi
      have hmem : i ∈ Region.ready .any ops listed := by
        rw [mem_ready]
        refine ⟨?_, _, hget, fun e he hb => ?_⟩
        · have : i < listed.size := by omega
          have h5 : listed[i]?.getD false = false := by simpa [Array.getD_eq_getD_getElem?] using hl
          rw [Array.getElem?_eq_getElem this] at h5
          rw [Array.getD_eq_getD_getElem?, Array.getElem?_eq_getElem this]
          exact h5
        · have hlt := edgesOk_spec W.edges i _ (by simpa using hget) e he hb
          exact ih _ (by omega) (by omega)
      rw [hr] at hmem
      simp at hmem

theorem anyH_sound (W : WholeH P call ops sts tmps t1 A0 A1 H) (hcall : CallSound P B w0 call) {ρ : Rho} {a0 : Act} (hts : tmps.size = a0.tmps.size) {Q : Exit → Act → World → Prop}
    (hQ : ∀ ρ1 w1 a1, Ext ρ ρ1 → Inv B w0 ρ1 A1 w1 → VRA ρ1 t1 a1.tmps → a1.defers = a0.defers → Q .normal a1 w1) :
    ∀ (fuel : Nat) (listed : Array Bool) (a : Act) (w : World), (List.range ops.size).countP (fun i => !(listed.getD i false)) ≤ fuel → MidH B w0 ops sts t1 H ρ a0 listed a w → wpAny P .any ops Q fuel listed a w := by
  have hend : ∀ (listed : Array Bool) (a : Act) (w : World), MidH B w0 ops sts t1 H ρ a0 listed a w → Region.ready .any ops listed = [] → Q .normal a w := by
    intro listed a w M hr
    have hall := MidH.all W M.size hr
    obtain ⟨hsz, hcl, ⟨ρ1, m, A, hext, hI, hfm, hm, hslot⟩, htz, hdf⟩ := M
    have hmf : m = fullE sts 0 := by
      refine Nat.eq_of_testBit_eq fun i => ?_
      rw [hm, fullE_spec]
      by_cases hi : i < ops.size
      · rw [hall i hi]; simp
      · have : seE sts i = false := by
          unfold seE
          rw [List.getElem?_eq_none (by rw [W.len]; omega)]
        simp [this]
    have hA : A = A1 := by
      have := W.fin
      rw [← hmf, hfm] at this
      exact Option.some.inj this
    have hT : seT sts t1 ops.size = t1 := by
      unfold seT
      rw [List.getElem?_eq_none (by rw [W.len]; omega)]
    have ht1 : t1.size = a.tmps.size := by
      have := W.tsize ops.size (by omega)
      rw [hT] at this
      rw [this, hts, htz]
    refine hQ ρ1 w a hext (by rw [← hA]; exact hI) (VRA.of_getD ht1 fun s => ?_) hdf
    have h1 := hslot s
    have h2 : lw ops (fun i => listed.getD i false) s ops.size = lw ops (fun _ => true) s ops.size := by
      refine lw_congr ops _ _ s _ fun i hi => ?_
      rw [hall i hi]
    rw [h2, W.slot s ops.size (by omega), hT] at h1
    exact h1
  intro fuel
  induction fuel with
  | zero =>
    intro listed a w hc M
    have hall : ∀ i, i < ops.size → listed.getD i false = true := by
      intro i hi
      have h0 : (List.range ops.size).countP (fun i => !(listed.getD i false)) = 0 := by omega
      rw [List.countP_eq_zero] at h0
      have := h0 i (List.mem_range.2 hi)
      simpa using this
    have hr : Region.ready .any ops listed = [] := by
      rw [List.eq_nil_iff_forall_not_mem]
      intro j hj
      rw [mem_ready] at hj
      obtain ⟨h0, o, ho, _⟩ := hj
      have hlt := (Array.getElem?_eq_some_iff.1 ho).1
      have h1 := hall j hlt
      have : j < listed.size := by rw [M.size]; exact hlt
      simp [this] at h0 h1
      rw [h0] at h1; cases h1
    exact ⟨hr, hend listed a w M hr⟩
  | succ fuel ih =>
    intro listed a w hc M
    refine ⟨hend listed a w M, ?_⟩
    intro j hj
    rw [mem_ready] at hj
    obtain ⟨h0, o, ho, hr⟩ := hj
    have hlt := (Array.getElem?_eq_some_iff.1 ho).1
    have hjl : j < listed.size := by rw [M.size]; exact hlt
    have hjf : listed.getD j false = false := by simpa [hjl] using h0
    obtain ⟨ρ1, hlook, hsize, hw, hn, hv⟩ := M.step W hts hjf ho hr
    have hcount : (List.range ops.size).countP (fun i => !((listed.setIfInBounds j true).getD i false)) ≤ fuel := by
      have := countP_lt (p := fun i => !((listed.setIfInBounds j true).getD i false)) (q := fun i => !(listed.getD i false)) (l := List.range ops.size) (fun x _ hx => by
        rw [getD_listed hjl] at hx
        simp only [Bool.not_or, Bool.and_eq_true] at hx
        exact hx.2) ⟨j, List.mem_range.2 hlt, by (try simp only); rw [hjf]; rfl, by (try simp only); rw [getD_listed hjl]; simp⟩
      omega
    unfold wpOp
    rw [ho]
    try simp only
    rw [← wanted_slot hsize ops o hlook, hw]
    cases hR : seR sts j with
    | none =>
      simp only [Option.isSome_none, Bool.false_eq_true, if_false]
      exact ih _ _ _ hcount (hn hR)
    | some v =>
      obtain ⟨A2, A3, hI2, ha, hnext⟩ := hv v hR
      simp only [Option.isSome_some, if_true]
      refine .inl (aop_sound hcall ha hI2 (fun x hx v hxv => aeval_slot (fun t ht => ?_) hxv) ?_)
      · subst ht
        refine hlook t ?_
        unfold looks
        simp only [List.mem_append]
        exact .inl (slotsOf_mem hx)
      · intro ρ2 w2 v' g1 g2 g3
        exact ih _ _ _ hcount (hnext ρ2 w2 v' g1 g2 g3)


/-- Such a region. -/
theorem wp_regionH (hm : P.follows .mixedOrders = true) (hcall : CallSound P B w0 call) {A : AW} {k : Nat} (W : WholeH P call ops sts tmps t1 (A.keep k) A1 H) {id : Nat} {ρ : Rho} {w : World} {a : Act} {Q : Exit → Act → World → Prop} (hI : Inv B w0 ρ A w) (ht : VRA ρ tmps a.tmps)
    (hQ : ∀ ρ1 w1 a1, Ext ρ ρ1 → Inv B w0 ρ1 A1 w1 → VRA ρ1 t1 a1.tmps → a1.defers = a.defers → Q .normal a1 w1) : (Code.region id ops true).wp P Q a w := by
  refine wp_region_any hm ?_
  refine anyH_sound W hcall ht.size.symm hQ ops.size _ a _ ?_ ?_
  · exact Nat.le_trans List.countP_le_length (by simp)
  · have hf0 : ∀ i, (Array.replicate ops.size false).getD i false = false := by
      intro i
      by_cases h : i < ops.size
      · simp [h]
      · simp [h]
    have hlw0 : ∀ s n, lw ops (fun i => (Array.replicate ops.size false).getD i false) s n = 0 := by
      intro s n
      induction n with
      | zero => rfl
      | succ n ih =>
        unfold lw
        try simp only
        rw [hf0 n]
        simp only [Bool.false_eq_true, false_and, if_false]
        exact ih
    refine ⟨by simp, ?_, ⟨ρ, 0, _, Ext.refl _, (hI.keep _).drew, W.start, ?_, ?_⟩, rfl, rfl⟩
    · intro i o ho hi
      try simp only at hi
      rw [hf0] at hi; cases hi
    · intro i
      rw [hf0]
      simp
    · intro s
      rw [hlw0, W.T0]
      exact ht.getD s
end
end Go.Abs
