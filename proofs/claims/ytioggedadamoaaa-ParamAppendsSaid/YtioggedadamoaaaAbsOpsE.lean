/- append. -/
import Derived.Test.YtioggedadamoaaaAbsOpsD
set_option autoImplicit false
set_option linter.unusedVariables false
set_option linter.unusedSimpArgs false
namespace Go.Abs
open Go.RowKit
theorem growBy_le (need : Nat) : ∀ (r c : Nat), c ≤ 2 * need + 1000 → Builtin.growBy need r c ≤ 2 * need + 1000
  | 0, c, h => by simpa [Builtin.growBy] using h
  | r + 1, c, h => by
    unfold Builtin.growBy
    split
    · exact h
    · exact growBy_le need r _ (by omega)
theorem nextcap_le {need c : Nat} (h : c < need) : Builtin.nextslicecap need c ≤ 2 * need + 1000 := by
  unfold Builtin.nextslicecap
  split
  · omega
  · split
    · omega
    · exact growBy_le need 4 c (by omega)
section
variable {P : Program} {B : Nat → Prop} {w0 : World} {ρ : Rho} {A : AW} {w : World}
theorem cell_heap {w w' : World} (h : w'.heap = w.heap) (a : Addr) : w'.cell? a = w.cell? a := by unfold World.cell?; rw [h]
theorem run_loadCells_rel {a' : Addr} {vs' : List Value} (h : ∀ j v, vs'[j]? = some v → w.cell? (a'.add j) = some v) {n : Nat} (hn : vs'.length = n) {w' : World} (hw : w'.heap = w.heap) :
    (loadCells a' n).run P w' = .ok vs'.toArray w' := by
  subst hn
  exact run_loadCells_list (P := P) w' a' vs' fun j v hj => by rw [cell_heap hw]; exact h j v hj
theorem first_rel (h : Inv B w0 ρ A w) {a : Addr} {l c : Nat} {s' : Value} (hs : VR ρ (.slice (some a) l c) s') {size n : Nat} {vs : List Value} (e : A.loadN a (n * size) = some vs) :
    ∃ vs', VRL ρ vs vs' ∧ ∀ w', w'.heap = w.heap → (Builtin.firstCells size n s').run P w' = .ok vs'.toArray w' := by
  obtain ⟨hsp, f, hf, rfl⟩ := hs
  obtain ⟨vs', k1, k2, k3, k4⟩ := h.loadN ⟨hsp, f, hf, rfl⟩ e
  exact ⟨vs', k1, fun w' hw => run_loadCells_rel k4 (by rw [k1.length, k2]) hw⟩
theorem acells_rel (h : Inv B w0 ρ A w) {size : Nat} {x x' : Value} (hx : VR ρ x x') {k : Nat} {new : List Value} (e : acells A size x = some (k, new)) :
    (∀ w, (Builtin.lenOf x').run P w = .ok k w) ∧ ∃ new', VRL ρ new new' ∧ ∀ w', w'.heap = w.heap → (Builtin.firstCells size k x').run P w' = .ok new'.toArray w' := by
  unfold acells at e
  cases x <;> try (simp at e; done)
  case string s =>
    simp only [VR] at hx
    subst hx
    simp only [Option.some.injEq, Prod.mk.injEq] at e
    obtain ⟨rfl, rfl⟩ := e
    refine ⟨fun w => rfl, _, (VRL.ground _ ?_ _).2 rfl, fun w' _ => ?_⟩
    · refine groundL_of_mem fun v hv => ?_
      obtain ⟨b, _, rfl⟩ := List.mem_map.1 hv
      rfl
    · simp only [Builtin.firstCells]
      show Result.ok _ w' = _
      congr 1
      apply Array.ext'
      have : s.extract 0 s.size = s := ByteArray.extract_zero_size
      rw [this]
      simp
  case slice oa n c =>
    cases oa with
    | none =>
      cases n with
      | succ n => simp at e
      | zero =>
        cases c with
        | succ c => simp at e
        | zero =>
          simp only [VR] at hx
          subst hx
          simp only [Option.some.injEq, Prod.mk.injEq] at e
          obtain ⟨rfl, rfl⟩ := e
          exact ⟨fun w => rfl, [], by simp [VRL], fun _ _ => rfl⟩
    | some a =>
      simp only at e
      cases hl : A.loadN a (n * size) with
      | none => rw [hl] at e; simp at e
      | some vs =>
        rw [hl] at e
        simp only [Option.some.injEq, Prod.mk.injEq] at e
        obtain ⟨rfl, rfl⟩ := e
        refine ⟨?_, first_rel h hx hl⟩
        obtain ⟨_, f, hf, rfl⟩ := hx
        exact fun w => rfl
theorem asrc_rel (h : Inv B w0 ρ A w) {size : Nat} {z : Value} {elem : TypeId} (hz : prun P (zeroValue elem) = some z) (hzs : z.cells.size = size) (hg : groundA z.cells = true) {x x' : Value} (hx : VR ρ x x') {b : Bool} {k : Nat} {new : List Value}
    (e : asrc A size z.cells b x = some (k, new)) :
    ∃ new', VRL ρ new new' ∧ ∀ w', w'.heap = w.heap →
      ((if !b then Builtin.firstCells size k x' else if k * size = 0 then pure #[] else do pure (Builtin.zeroCells (← zeroValue elem).cells k) : Sem (Array Value)).run P w' = .ok new'.toArray w') ∧
      (b = false → ∀ w, (Builtin.lenOf x').run P w = .ok k w) ∧ (b = true → ∃ kk, x' = .int kk (k : Int) ∧ k ≤ 1073741824) := by
  unfold asrc at e
  cases b with
  | false =>
    simp only [cond_false] at e
    obtain ⟨h1, new', h2, h3⟩ := acells_rel (P := P) h hx e
    exact ⟨new', h2, fun w' hw => ⟨by simpa using h3 w' hw, fun _ => h1, by simp⟩⟩
  | true =>
    simp only [cond_true] at e
    cases x <;> try (simp at e; done)
    rename_i kk n
    cases n with
    | negSucc n => simp at e
    | ofNat n =>
      simp only at e
      cases hb : Nat.ble n 1073741824 with
      | false => rw [hb] at e; simp at e
      | true =>
        rw [hb] at e
        simp only [cond_true, Option.some.injEq, Prod.mk.injEq] at e
        obtain ⟨rfl, rfl⟩ := e
        simp only [VR] at hx
        subst hx
        refine ⟨_, (VRL.ground _ (ground_zeros hg _) _).2 rfl, fun w' hw => ⟨?_, by simp, fun _ => ⟨kk, rfl, Nat.le_of_ble_eq_true hb⟩⟩⟩
        simp only [Bool.not_true, Bool.false_eq_true, if_false]
        by_cases h0 : n * size = 0
        · rw [if_pos h0]
          simp [zerosL, h0]
        · rw [if_neg h0, run_prun_bind hz]
          show Result.ok _ w' = _
          congr 1
          subst hzs
          exact zeros_arr _ _
theorem asrc_nil {size : Nat} {z : Array Value} {b : Bool} {x : Value} {new : List Value} (e : asrc A size z b x = some (0, new)) : new = [] := by
  unfold asrc at e
  cases b with
  | true =>
    simp only [cond_true] at e
    cases x <;> try (simp at e; done)
    rename_i kk n
    cases n with
    | negSucc n => simp at e
    | ofNat n =>
      simp only at e
      cases hb : Nat.ble n 1073741824 with
      | false => rw [hb] at e; simp at e
      | true =>
        rw [hb] at e
        simp only [cond_true, Option.some.injEq, Prod.mk.injEq] at e
        obtain ⟨rfl, rfl⟩ := e
        simp [zerosL]
  | false =>
    simp only [cond_false] at e
    unfold acells at e
    cases x <;> try (simp at e; done)
    case string s =>
      simp only [Option.some.injEq, Prod.mk.injEq] at e
      obtain ⟨h1, rfl⟩ := e
      have : s.data.size = 0 := h1
      have h2 : s.data.toList = [] := by
        apply List.eq_nil_of_length_eq_zero
        simpa using this
      simp [h2]
    case slice oa n c =>
      cases oa with
      | none =>
        cases n with
        | succ n => simp at e
        | zero => cases c <;> simp at e; exact e.symm ▸ rfl
      | some a =>
        simp only at e
        cases hl : A.loadN a (n * size) with
        | none => rw [hl] at e; simp at e
        | some vs =>
          rw [hl] at e
          simp only [Option.some.injEq, Prod.mk.injEq] at e
          obtain ⟨rfl, rfl⟩ := e
          unfold AW.loadN at hl
          cases hs : a.spot with
          | some _ => rw [hs] at hl; simp at hl
          | none =>
            rw [hs] at hl
            simp only at hl
            cases hg : A.get a.block with
            | dead => simp [hg] at hl
            | resv => simp [hg] at hl
            | map es c => simp [hg] at hl
            | cells cs ro opn esz =>
              rw [hg] at hl
              simp only at hl
              cases hb : Nat.ble (a.off + 0 * size) cs.length with
              | false => rw [hb] at hl; simp at hl
              | true =>
                rw [hb] at hl
                simp at hl
                exact hl
def appTail (elem : TypeId) (size : Nat) (zeros : Bool) (base : Option Addr) (sLen sCap n : Nat) (s x : Value) (app : Sem (Array Value)) : Sem Value := do
  let need := sLen + n
  if need ≤ sCap then
    let new ← app
    if let some a := base then storeCells (a.add (sLen * size)) new.toList
    pure (.slice base need sCap)
  else
    if (need : Int) > IntKind.i64.max ∧ (zeros = true ∨ (← typeInfo elem).bytes = 0) then runtimePanic (.error "growslice: len out of range")
    if Builtin.nextslicecap need sCap * (← typeInfo elem).bytes > 2 ^ 48 then (if zeros then runtimePanic (.error "growslice: len out of range") else do
      if !(← Builtin.mayShare size sLen n base x) then mark .noRoom
      unsupported (.resourceLimit "append: a slice or a string whose bytes no memory bears"))
    let newCap ← choose (.appendCap need sCap elem)
    askRoom (newCap * (← typeInfo elem).bytes)
    let old ← Builtin.firstCells size sLen s
    let new ← app
    let rest := Builtin.zeroCells (← zeroValue elem).cells (newCap - need)
    pure (.slice (some (← newRow elem (old ++ new ++ rest))) need newCap)
theorem grow_run {elem : TypeId} {size n sLen sCap : Nat} {info : TypeInfo} {zero : Value} (hi : prun P (typeInfo elem) = some info) (hz : prun P (zeroValue elem) = some zero)
    (zeros : Bool) (base : Option Addr) (s x : Value) (app : Sem (Array Value)) (hneed : ¬ sLen + n ≤ sCap) (hsz : sLen + n ≤ 1073741824) (hb1 : 1 ≤ info.bytes) (hb : info.bytes ≤ 4096)
    (w : World) (old' new' : Array Value) (hold : ∀ w', w'.heap = w.heap → (Builtin.firstCells size sLen s).run P w' = .ok old' w') (hnew : ∀ w', w'.heap = w.heap → app.run P w' = .ok new' w') :
    ∃ newCap, sLen + n ≤ newCap ∧ (appTail elem size zeros base sLen sCap n s x app).run P w =
      .ok (.slice (some ⟨w.heap.size, 0, none⟩) (sLen + n) newCap) (w.drew.alloc (.cells (old' ++ new' ++ Builtin.zeroCells zero.cells (newCap - (sLen + n))) elem)) := by
  refine ⟨(Question.appendCap (sLen + n) sCap elem).cut (w.tape w.drawn (.appendCap (sLen + n) sCap elem)), Nat.le_add_right _ _, ?_⟩
  unfold appTail
  simp only
  rw [if_neg hneed]
  rw [run_prun_bind hi]
  have h1 : ¬ (((sLen + n : Nat) : Int) > IntKind.i64.max ∧ (zeros = true ∨ info.bytes = 0)) := by
    rintro ⟨h, _⟩
    have : IntKind.i64.max = 9223372036854775807 := by decide
    rw [this] at h
    omega
  rw [if_neg h1]
  have h2 : ¬ (Builtin.nextslicecap (sLen + n) sCap * info.bytes > 2 ^ 48) := by
    have := nextcap_le (need := sLen + n) (c := sCap) (by omega)
    have h3 : Builtin.nextslicecap (sLen + n) sCap * info.bytes ≤ (2 * 1073741824 + 1000) * 4096 := Nat.mul_le_mul (by omega) hb
    have h4 : (2 * 1073741824 + 1000) * 4096 ≤ 2 ^ 48 := by decide
    omega
  rw [run_prun_bind hi, if_neg h2]
  rw [Sem.run_bind, run_choose]
  simp only [Question.forced, Bool.false_eq_true, if_false, Result.andThen_ok]
  rw [run_prun_bind hi]
  simp only [Sem.run_bind, run_askRoom, Result.andThen_ok]
  have ho := hold w.drew rfl
  have hn := hnew w.drew rfl
  have hzz := prun_run w.drew _ hz
  unfold World.drew at ho hn hzz
  rw [ho]
  simp only [Result.andThen_ok]
  rw [hn]
  simp only [Result.andThen_ok]
  rw [hzz]
  rfl
theorem sv_grow (h : Inv B w0 ρ A w) {A0 : AW} (h0 : Inv B w0 ρ A0 w) {size n sLen : Nat} {old new old' new' : List Value} {u : Value} {A1 : AW} (e : appendGrow A0 size (sLen + n) old new = some (u, A1))
    (ho : VRL ρ old old') (hn : VRL ρ new new') {zero : Value} (hzs : zero.cells.size = size) {newCap : Nat} (hc : sLen + n ≤ newCap) (elem : TypeId) :
    ∃ ρ1, Ext ρ ρ1 ∧ Inv B w0 ρ1 A1 (w.drew.alloc (.cells (old'.toArray ++ new'.toArray ++ Builtin.zeroCells zero.cells (newCap - (sLen + n))) elem)) ∧
      VR ρ1 u (.slice (some ⟨w.heap.size, 0, none⟩) (sLen + n) newCap) := by
  unfold appendGrow at e
  cases hb : (oneCells old && oneCells new && Nat.beq (old.length + new.length) ((sLen + n) * size)) with
  | false => rw [hb] at e; simp at e
  | true =>
    rw [hb] at e
    simp only [cond_true, Option.some.injEq, Prod.mk.injEq] at e
    obtain ⟨rfl, rfl⟩ := e
    simp only [Bool.and_eq_true] at hb
    have hlen : old.length + new.length = (sLen + n) * size := Nat.eq_of_beq_eq_true hb.2
    have hod : Inv B w0 ρ A0 w.drew := h0.drew
    have happ : VRL ρ (old ++ new) (old' ++ new') := ho.append hn
    have hzl : (Builtin.zeroCells zero.cells (newCap - (sLen + n))).size = (newCap - (sLen + n)) * size := by simp [Builtin.zeroCells, hzs]
    have h1 : oneCells (old ++ new) = true := mk_oneCells _ fun v hv => by
      rcases List.mem_append.1 hv with hv | hv
      · exact oneCells_all hb.1.1 v hv
      · exact oneCells_all hb.1.2 v hv
    have := hod.new (old ++ new) true size (newCap - (sLen + n)) (old'.toArray ++ new'.toArray ++ Builtin.zeroCells zero.cells (newCap - (sLen + n))) elem (0, 0)
      (by
        have hl : (old ++ new).length = (old' ++ new').length := happ.length.symm
        rw [hl, show (old'.toArray ++ new'.toArray ++ Builtin.zeroCells zero.cells (newCap - (sLen + n))).toList = (old' ++ new') ++ (Builtin.zeroCells zero.cells (newCap - (sLen + n))).toList from by simp, List.take_left]
        exact happ)
      (by
        have l1 := ho.length
        have l2 := hn.length
        simp only [List.length_append, Array.size_append, List.size_toArray, hzl]
        omega) h1 (fun hc => by cases hc) (.inl rfl)
    refine ⟨_, place_ext hod.free _, this, ⟨rfl, _, place_same _ _ _, ?_⟩⟩
    have hsz : w.drew.heap.size = w.heap.size := rfl
    simp only [hsz, Nat.zero_add, List.length_append, hlen, if_true]
    congr 1
    omega
theorem sv_appendAt (h : Inv B w0 ρ A w) {elem : TypeId} {size : Nat} {info : TypeInfo} {zero : Value} (hi : prun P (typeInfo elem) = some info) (hz : prun P (zeroValue elem) = some zero)
    (b0 : 1 ≤ size) (b1 : 1 ≤ info.bytes) (b2 : info.bytes ≤ 4096) (b3 : zero.cells.size = size) {s s' x' : Value} (hs : VR ρ s s') {k : Nat} {new new' : List Value} {u : Value} {A1 : AW}
    (e : aappendAt A size s k new = some (u, A1)) (zeros : Bool) (app : Sem (Array Value)) (hnew : VRL ρ new new') (hk0 : k = 0 → new = []) (happ : ∀ w', w'.heap = w.heap → app.run P w' = .ok new'.toArray w') :
    ∃ base sLen sCap, s' = .slice base sLen sCap ∧ SV P B w0 ρ w (appTail elem size zeros base sLen sCap k s' x' app) u A1 := by
  have grow : ∀ (A0 : AW) (h0 : Inv B w0 ρ A0 w) (base : Option Addr) (sLen sCap : Nat) (old : List Value), ¬ sLen + k ≤ sCap → sLen + k ≤ 1073741824 →
      (∃ old', VRL ρ old old' ∧ ∀ w', w'.heap = w.heap → (Builtin.firstCells size sLen s').run P w' = .ok old'.toArray w') → appendGrow A0 size (sLen + k) old new = some (u, A1) →
      SV P B w0 ρ w (appTail elem size zeros base sLen sCap k s' x' app) u A1 := by
    intro A0 h0 base sLen sCap old hn hle hold e
    obtain ⟨old', ho1, ho2⟩ := hold
    obtain ⟨newCap, hc, hr⟩ := grow_run (n := k) hi hz zeros base s' x' app hn hle b1 b2 w old'.toArray new'.toArray ho2 happ
    obtain ⟨ρ1, k1, k2, k3⟩ := sv_grow h h0 e ho1 hnew b3 hc elem
    exact ⟨ρ1, _, _, hr, k1, k2, k3⟩
  unfold aappendAt at e
  cases s <;> try (simp at e; done)
  rename_i oa sLen sCap
  cases oa with
  | none =>
    cases sLen with
    | succ n => simp at e
    | zero =>
      cases sCap with
      | succ n => simp at e
      | zero =>
        simp only [VR] at hs
        subst hs
        refine ⟨none, 0, 0, rfl, ?_⟩
        simp only [bif_beq] at e
        by_cases hk : k = 0
        · rw [if_pos hk] at e
          simp only [Option.some.injEq, Prod.mk.injEq] at e
          obtain ⟨rfl, rfl⟩ := e
          subst hk
          refine ⟨ρ, w, .slice none 0 0, ?_, Ext.refl _, h, by simp [VR]⟩
          unfold appTail
          simp only
          rw [if_pos (by omega), Sem.run_bind, happ w rfl]
          rfl
        · rw [if_neg hk] at e
          cases hb : Nat.ble k 1073741824 with
          | false => rw [hb] at e; simp at e
          | true =>
            rw [hb] at e
            simp only [cond_true] at e
            have hle : k ≤ 1073741824 := Nat.le_of_ble_eq_true hb
            exact grow A h none 0 0 [] (by omega) (by omega) ⟨[], by simp [VRL], fun _ _ => rfl⟩ (by rw [Nat.zero_add]; exact e)
  | some a =>
    have hs0 := hs
    obtain ⟨hsp, f, hf, rfl⟩ := hs
    refine ⟨_, _, _, rfl, ?_⟩
    simp only at e
    obtain ⟨hlt, hw, ho⟩ := h.at_ _ _ hf
    cases hb : Nat.ble (sLen + k) sCap with
    | true =>
      have hle : sLen + k ≤ sCap := Nat.le_of_ble_eq_true hb
      rw [hb] at e
      simp only [cond_true, bif_beq] at e
      have hcap : sLen + k ≤ (if a.off + sCap * f.esz = f.n then sCap + f.extra else sCap) := by split <;> omega
      by_cases hk : k = 0
      · rw [if_pos hk, hsp] at e
        simp only [Option.isSome_none, cond_false, Option.some.injEq, Prod.mk.injEq] at e
        obtain ⟨rfl, rfl⟩ := e
        have hnil : new' = [] := by
          rw [hk0 hk] at hnew
          simpa [VRL] using hnew
        refine ⟨ρ, w, .slice (some ⟨f.blk, f.off + a.off, none⟩) (sLen + k) (if a.off + sCap * f.esz = f.n then sCap + f.extra else sCap), ?_, Ext.refl _, h, ⟨hsp, f, hf, rfl⟩⟩
        unfold appTail
        simp only
        rw [if_pos hcap, Sem.run_bind, happ w rfl]
        simp only [Result.andThen_ok, hnil]
        rfl
      · rw [if_neg hk] at e
        cases hst : A.storeN (a.add (sLen * size)) new with
        | none => rw [hst] at e; simp at e
        | some A2 =>
          rw [hst] at e
          simp only [Option.some.injEq, Prod.mk.injEq] at e
          obtain ⟨rfl, rfl⟩ := e
          have har : AR ρ a ⟨f.blk, f.off + a.off, none⟩ := ⟨hsp, f, hf, rfl⟩
          obtain ⟨w1, r1, r2⟩ := h.storeN (P := P) (har.add (sLen * size)) hnew hst
          refine ⟨ρ, w1, .slice (some ⟨f.blk, f.off + a.off, none⟩) (sLen + k) (if a.off + sCap * f.esz = f.n then sCap + f.extra else sCap), ?_, Ext.refl _, r2, ⟨hsp, f, hf, rfl⟩⟩
          unfold appTail
          simp only
          rw [if_pos hcap, Sem.run_bind, happ w rfl]
          simp only [Result.andThen_ok]
          rw [Sem.run_bind, r1]
          rfl
    | false =>
      have hnle : ¬ sLen + k ≤ sCap := fun hc => by rw [Nat.ble_eq_true_of_le hc] at hb; cases hb
      rw [hb] at e
      simp only [cond_false] at e
      cases hb2 : Nat.ble (sLen + k) 1073741824 with
      | false => rw [hb2] at e; simp at e
      | true =>
        have hle : sLen + k ≤ 1073741824 := Nat.le_of_ble_eq_true hb2
        rw [hb2] at e
        simp only [cond_true] at e
        cases hl : A.loadN a (sLen * size) with
        | none => rw [hl] at e; simp at e
        | some old =>
          rw [hl] at e
          simp only at e
          have hold := first_rel (P := P) h hs0 hl
          cases hx : exactCap A a sCap size with
          | none => rw [hx] at e; simp at e
          | some b =>
            rw [hx] at e
            have hxx := hx
            unfold exactCap at hxx
            cases hg : A.get a.block with
            | dead => rw [hg] at hxx; simp at hxx
            | resv => rw [hg] at hxx; simp at hxx
            | map es c => rw [hg] at hxx; simp at hxx
            | cells cs ro opn esz =>
              rw [hg] at hxx ho
              simp only at hxx
              obtain ⟨g1, g2, g3, g4, g5, grest⟩ := ho
              cases b with
              | true =>
                simp only at e
                have hreal : (if a.off + sCap * f.esz = f.n then sCap + f.extra else sCap) = sCap := by
                  cases opn with
                  | false => rw [g3 rfl]; simp
                  | true =>
                    simp only [Bool.not_true, cond_false] at hxx
                    cases hes : esz.beq size with
                    | false => rw [hes] at hxx; simp at hxx
                    | true =>
                      rw [hes] at hxx
                      simp only [cond_true, Option.some.injEq, Bool.not_eq_true'] at hxx
                      have hes' : esz = size := Nat.eq_of_beq_eq_true hes
                      have hne : a.off + sCap * size ≠ cs.length := Nat.ne_of_beq_eq_false hxx
                      rw [g2, hes', g1, if_neg hne]
                rw [hreal] at hold ⊢
                have := grow A h (some ⟨f.blk, f.off + a.off, none⟩) sLen sCap old hnle hle
                rw [hreal] at this
                exact this hold e
              | false =>
                cases opn with
                | false => simp at hxx
                | true =>
                  cases ro with
                  | true => rw [hg] at e; simp at e
                  | false =>
                  simp only [Bool.not_true, cond_false] at hxx
                  cases hes : esz.beq size with
                  | false => rw [hes] at hxx; simp at hxx
                  | true =>
                    rw [hes] at hxx
                    simp only [cond_true, Option.some.injEq, Bool.not_eq_false'] at hxx
                    have hes' : esz = size := Nat.eq_of_beq_eq_true hes
                    have heq : a.off + sCap * size = cs.length := Nat.eq_of_beq_eq_true hxx
                    rw [hg] at e
                    simp only [bif_beq] at e
                    by_cases hlc : sLen = sCap
                    · rw [if_pos hlc] at e
                      have hkill := h.kill hf
                      by_cases hfit : sLen + k ≤ sCap + f.extra
                      · unfold appendGrow at e
                        cases hbb : (oneCells old && oneCells new && Nat.beq (old.length + new.length) ((sLen + k) * size)) with
                        | false => rw [hbb] at e; simp at e
                        | true =>
                          rw [hbb] at e
                          simp only [cond_true, Option.some.injEq, Prod.mk.injEq, AW.size_set] at e
                          obtain ⟨rfl, rfl⟩ := e
                          simp only [Bool.and_eq_true] at hbb
                          have hsum : old.length + new.length = (sLen + k) * size := Nat.eq_of_beq_eq_true hbb.2
                          have holdeq : old = cs.drop a.off := by
                            unfold AW.loadN at hl
                            rw [hsp] at hl
                            simp only [hg] at hl
                            rw [hlc, heq] at hl
                            rw [show Nat.ble cs.length cs.length = true from Nat.ble_eq_true_of_le (Nat.le_refl _)] at hl
                            simp only [cond_true, Option.some.injEq] at hl
                            rw [← hl]
                            apply List.take_of_length_le
                            simp
                            omega
                          have holdlen : old.length = sLen * size := by rw [holdeq, hlc]; simp; omega
                          have hnl : new.length = k * esz := by rw [hes']; rw [Nat.add_mul] at hsum; omega
                          obtain ⟨w1, r1, r2⟩ := h.move (P := P) hsp hf hg old new new' k holdeq (by omega) hnew hnl (by omega) hbb.1.2
                          refine ⟨_, w1, .slice (some ⟨f.blk, f.off + a.off, none⟩) (sLen + k) (sCap + f.extra), ?_, place_ext h.free _, by rw [← hes']; exact r2, ⟨rfl, _, place_same _ _ _, ?_⟩⟩
                          · unfold appTail
                            simp only
                            have hreal : (if a.off + sCap * f.esz = f.n then sCap + f.extra else sCap) = sCap + f.extra := by rw [g2, hes', g1, if_pos heq]
                            rw [hreal, if_pos hfit, Sem.run_bind, happ w rfl]
                            simp only [Result.andThen_ok]
                            rw [addr_add, show f.off + a.off + sLen * size = f.off + cs.length from by rw [hlc]; omega, Sem.run_bind, r1]
                            rfl
                          · simp only [Nat.zero_add, List.length_append, hsum, hes', if_true]
                            congr 1
                            omega
                      · have hreal : (if a.off + sCap * f.esz = f.n then sCap + f.extra else sCap) = sCap + f.extra := by rw [g2, hes', g1, if_pos heq]
                        have := grow _ hkill (some ⟨f.blk, f.off + a.off, none⟩) sLen (sCap + f.extra) old hfit hle
                        rw [hreal] at this hold ⊢
                        exact this hold e
                    · rw [if_neg hlc] at e; simp at e
theorem sv_append (h : Inv B w0 ρ A w) {argTypes : Array TypeId} {ty : TypeId} {s s' x x' : Value} (hs : VR ρ s s') (hx : VR ρ x x') {u : Value} {A1 : AW} (e : aappend P A argTypes s x = some (u, A1)) :
    SV P B w0 ρ w (Builtin.append_ argTypes ty #[s', x']) u A1 := by
  unfold aappend at e
  cases ha : argTypes[0]? with
  | none => rw [ha] at e; simp at e
  | some sType =>
  cases hb : argTypes[1]? with
  | none => rw [ha, hb] at e; simp at e
  | some xType =>
  rw [ha, hb] at e
  simp only at e
  cases hu : prun P (underlying sType) with
  | none => rw [hu] at e; simp at e
  | some d =>
  cases hut : prun P (underlying xType) with
  | none => rw [hu, hut] at e; cases d <;> simp at e
  | some ut =>
  rw [hu, hut] at e
  cases d <;> try (simp at e; done)
  rename_i elem
  simp only at e
  cases hsz : prun P (sizeOf elem) with
  | none => rw [hsz] at e; simp at e
  | some size =>
  cases hi : prun P (typeInfo elem) with
  | none => rw [hsz, hi] at e; simp at e
  | some info =>
  cases hz : prun P (zeroValue elem) with
  | none => rw [hsz, hi, hz] at e; simp at e
  | some zero =>
  rw [hsz, hi, hz] at e
  simp only at e
  cases hc : (Nat.ble 1 size && Nat.ble 1 info.bytes && Nat.ble info.bytes 4096 && Nat.beq zero.cells.size size && groundA zero.cells) with
  | false => rw [hc] at e; simp at e
  | true =>
  rw [hc] at e
  simp only [cond_true] at e
  simp only [Bool.and_eq_true] at hc
  obtain ⟨⟨⟨⟨c1, c2⟩, c3⟩, c4⟩, c5⟩ := hc
  have c1 : 1 ≤ size := Nat.le_of_ble_eq_true c1
  have c2 : 1 ≤ info.bytes := Nat.le_of_ble_eq_true c2
  have c3 : info.bytes ≤ 4096 := Nat.le_of_ble_eq_true c3
  have c4 : zero.cells.size = size := Nat.eq_of_beq_eq_true c4
  cases hsrc : asrc A size zero.cells (isIntT ut) x with
  | none => rw [hsrc] at e; simp at e
  | some kn =>
  obtain ⟨k, new⟩ := kn
  rw [hsrc] at e
  simp only at e
  obtain ⟨new', hn, hrel⟩ := asrc_rel (P := P) (elem := elem) h hz c4 c5 hx hsrc
  obtain ⟨base, sLen, sCap, rfl, ρ1, w1, v', r1, r2, r3, r4⟩ := sv_appendAt h hi hz c1 c2 c3 c4 (x' := x') hs e (isIntT ut) (if !(isIntT ut) then Builtin.firstCells size k x' else if k * size = 0 then pure #[] else do pure (Builtin.zeroCells (← zeroValue elem).cells k)) hn
    (fun hk => asrc_nil (by rw [hk] at hsrc; exact hsrc)) (fun w' hw => (hrel w' hw).1)
  refine ⟨ρ1, w1, v', ?_, r2, r3, r4⟩
  rw [← r1]
  unfold Builtin.append_
  simp only [ha, hb]
  show Sem.run P (underlying sType >>= _) w = _
  rw [run_prun_bind hu]
  show Sem.run P (sizeOf elem >>= _) w = _
  rw [run_prun_bind hsz]
  obtain ⟨_, h2, h3⟩ := hrel w rfl
  cases ut
  case int kd =>
    show Sem.run P (underlying xType >>= _) w = _
    rw [run_prun_bind hut]
    obtain ⟨kk, rfl, hk⟩ := h3 rfl
    rw [pure_bind, if_pos rfl]
    show Sem.run P (asInt (.int kk (k : Int)) >>= _) w = _
    rw [show asInt (.int kk (k : Int)) = pure (k : Int) from rfl, pure_bind]
    have hw : IntKind.i64.wrap (k : Int) = (k : Int) := wrap_small hk
    rw [hw, if_neg (by omega), run_prun_bind hi, if_neg (by
      have h1 : k * info.bytes ≤ 1073741824 * 4096 := Nat.mul_le_mul hk c3
      have h2 := Int.ofNat_le.mpr h1
      rw [Int.natCast_mul] at h2
      have h5 : (2 : Int) ^ 48 = 281474976710656 := by decide
      have h6 : (((1073741824 * 4096 : Nat)) : Int) = 4398046511104 := by decide
      rw [h6] at h2
      rw [h5]
      omega)]
    rw [pure_bind, Int.toNat_natCast]
    rfl
  all_goals
    show Sem.run P (underlying xType >>= _) w = _
    rw [run_prun_bind hut]
    rw [pure_bind, if_neg Bool.false_ne_true, Sem.run_bind]
    show ((Builtin.lenOf x').run P w).andThen _ = _
    rw [h2 rfl]
    simp only [Result.andThen_ok]
    rfl
end
end Go.Abs
