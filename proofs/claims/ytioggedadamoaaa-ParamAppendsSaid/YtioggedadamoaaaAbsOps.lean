/- Each operation: what the abstract machine answers, the model's machine answers. -/
import Derived.Test.YtioggedadamoaaaAbsStore
set_option autoImplicit false
set_option linter.unusedVariables false
set_option linter.unusedSimpArgs false
namespace Go.Abs
open Go.RowKit
def SV (P : Program) (B : Nat → Prop) (w0 : World) (ρ : Rho) (w : World) (s : Sem Value) (v : Value) (A1 : AW) : Prop :=
  ∃ ρ1 w1 v', s.run P w = .ok v' w1 ∧ Ext ρ ρ1 ∧ Inv B w0 ρ1 A1 w1 ∧ VR ρ1 v v'
section
variable {P : Program} {B : Nat → Prop} {w0 : World} {ρ : Rho} {A : AW} {w : World}
theorem SV.pure (h : Inv B w0 ρ A w) {v v' : Value} (k : VR ρ v v') : SV P B w0 ρ w (Pure.pure v') v A := ⟨ρ, w, v', rfl, Ext.refl _, h, k⟩
theorem SV.congr {s s' : Sem Value} {v : Value} {A1 : AW} (h : SV P B w0 ρ w s v A1) (e : s'.run P w = s.run P w) : SV P B w0 ρ w s' v A1 := by
  obtain ⟨ρ1, w1, v', h1, h2⟩ := h
  exact ⟨ρ1, w1, v', e.trans h1, h2⟩
theorem VR.self' {ρ : Rho} {v : Value} (g : Abs.ground v = true) : VR ρ v v := (VR.ground v g v).2 rfl
theorem SV.ground (h : Inv B w0 ρ A w) {s : Sem Value} {v : Value} {A1 : AW} (e : onG (prun P s) A = some (v, A1)) : SV P B w0 ρ w s v A1 := by
  cases hp : prun P s with
  | none => rw [hp] at e; simp [onG] at e
  | some u =>
    rw [hp] at e
    simp only [onG] at e
    cases hg : Abs.ground u with
    | false => rw [hg] at e; simp at e
    | true =>
      rw [hg] at e
      simp only [cond_true, Option.some.injEq, Prod.mk.injEq] at e
      obtain ⟨rfl, rfl⟩ := e
      exact ⟨ρ, w, u, prun_run w s hp, Ext.refl _, h, VR.self' hg⟩
theorem run_prun_bind {α β : Type} {s : Sem α} {a : α} (h : prun P s = some a) (f : α → Sem β) (w : World) : (s >>= f).run P w = (f a).run P w := by
  rw [Sem.run_bind, prun_run w s h]; rfl
theorem load_rel (h : Inv B w0 ρ A w) {t : TypeId} {a a' : Addr} (ha : AR ρ a a') {v : Value} (e : aload P A t a = some v) : ∃ v', (loadVar t a').run P w = .ok v' w ∧ VR ρ v v' := by
  unfold aload at e
  cases h1 : prun P (isAgg t) with
  | none => rw [h1] at e; simp at e
  | some b =>
    rw [h1] at e
    cases b with
    | true =>
      simp only at e
      cases h2 : prun P (sizeOf t) with
      | none => rw [h2] at e; simp at e
      | some n =>
        rw [h2] at e
        simp only at e
        cases h3 : A.loadN a n with
        | none => rw [h3] at e; simp at e
        | some vs =>
          rw [h3] at e
          simp only [Option.some.injEq] at e
          subst e
          obtain ⟨vs', k1, k2, k3, k4⟩ := h.loadN ha h3
          refine ⟨.agg vs'.toArray, ?_, ⟨_, VRA.mk k1, rfl⟩⟩
          unfold loadVar
          rw [run_prun_bind h1]
          have hl : (loadCells a' n).run P w = .ok vs'.toArray w := by
            have := run_loadCells_list (P := P) w a' vs' k4
            rwa [k1.length, k2] at this
          simp only [if_true]
          rw [run_prun_bind h2, Sem.run_bind, hl]
          rfl
    | false =>
      simp only at e
      cases h3 : A.loadN a 1 with
      | none => rw [h3] at e; simp at e
      | some vs =>
        rw [h3] at e
        match vs, h3, e with
        | [u], h3, e =>
          simp only [Option.some.injEq] at e
          subst e
          obtain ⟨vs', k1, k2, k3, k4⟩ := h.loadN ha h3
          obtain ⟨u', r, rfl, hu, hr⟩ := k1
          refine ⟨u', ?_, hu⟩
          unfold loadVar
          rw [run_prun_bind h1]
          have hc := k4 0 u' rfl
          have hz : a'.add 0 = a' := by simp [Addr.add]
          rw [hz] at hc
          simp [hc]
theorem sv_load (h : Inv B w0 ρ A w) {t : TypeId} {a a' : Addr} (ha : AR ρ a a') {v : Value} (e : aload P A t a = some v) : SV P B w0 ρ w (loadVar t a') v A := by
  obtain ⟨v', h1, h2⟩ := load_rel (P := P) h ha e
  exact ⟨ρ, w, v', h1, Ext.refl _, h, h2⟩
theorem sv_store (h : Inv B w0 ρ A w) {t : TypeId} {a a' : Addr} (ha : AR ρ a a') {v v' : Value} (hv : VR ρ v v') {A1 : AW} (e : astore P A t a v = some A1) :
    ∃ w1, (storeVar t a' v').run P w = .ok () w1 ∧ Inv B w0 ρ A1 w1 := by
  unfold astore at e
  cases h2 : prun P (sizeOf t) with
  | none => rw [h2] at e; simp at e
  | some n =>
    rw [h2] at e
    simp only [bif_beq] at e
    by_cases hn : n = v.cells.size
    · rw [if_pos hn] at e
      obtain ⟨w1, r1, r2⟩ := h.storeN (P := P) ha (VRA.toList.1 hv.cells) e
      refine ⟨w1, ?_, r2⟩
      unfold storeVar
      rw [run_prun_bind h2]
      have hsz : v'.cells.size = v.cells.size := hv.cells.size
      rw [if_neg (by rw [hsz]; omega)]
      simpa using r1
    · rw [if_neg hn] at e; simp at e
theorem sv_newRow (h : Inv B w0 ρ A w) {vs vs' : List Value} (hv : VRL ρ vs vs') {a : Addr} {A1 : AW} (e : A.newRow vs = some (a, A1)) (t : TypeId) :
    ∃ ρ1 w1 a', (newRow t vs'.toArray).run P w = .ok a' w1 ∧ Ext ρ ρ1 ∧ Inv B w0 ρ1 A1 w1 ∧ AR ρ1 a a' ∧ ∃ f, ρ1 a.block = some f ∧ f.extra = 0 ∧ a.spot = none := by
  unfold AW.newRow at e
  cases h1 : oneCells vs with
  | false => rw [h1] at e; simp at e
  | true =>
    rw [h1] at e
    simp only [cond_true, Option.some.injEq, Prod.mk.injEq] at e
    obtain ⟨rfl, rfl⟩ := e
    have := h.new vs false 1 0 vs'.toArray t (0, 0) (by simpa [hv.length.symm] using hv) (by simp [hv.length]) h1 (fun _ => rfl) (.inl rfl)
    refine ⟨_, _, ⟨w.heap.size, 0, none⟩, ?_, place_ext h.free _, this, ⟨rfl, _, place_same _ _ _, rfl⟩, _, place_same _ _ _, rfl, rfl⟩
    rfl
theorem sv_box (h : Inv B w0 ρ A w) {v v' u : Value} (hv : VR ρ v v') {A1 : AW} (e : abox A v = some (u, A1)) (t : TypeId) :
    SV P B w0 ρ w (Instr.box t v') u A1 := by
  unfold abox at e
  cases h1 : A.newRow v.cells.toList with
  | none => rw [h1] at e; simp at e
  | some x =>
    obtain ⟨a, A2⟩ := x
    rw [h1] at e
    simp only [Option.some.injEq, Prod.mk.injEq] at e
    obtain ⟨rfl, rfl⟩ := e
    obtain ⟨ρ1, w1, a', r1, r2, r3, r4, _⟩ := sv_newRow (P := P) h (VRA.toList.1 hv.cells) h1 t
    refine ⟨ρ1, w1, .pointer (some a'), ?_, r2, r3, ⟨a', r4, rfl⟩⟩
    have r1' : (newRow t v'.cells).run P w = .ok a' w1 := by simpa using r1
    simp [Instr.box, newVar, r1']
theorem VRA.self {ρ : Rho} {a : Array Value} (g : groundA a = true) : VRA ρ a a := (VRA.ground a g a).2 rfl
theorem VR.self {ρ : Rho} {v : Value} (g : Abs.ground v = true) : VR ρ v v := (VR.ground v g v).2 rfl
theorem ground_of_cells {z : Value} (g : groundA z.cells = true) : ∀ {ρ : Rho}, VR ρ z z := by
  intro ρ
  cases z <;> first
    | (simp only [Value.cells] at g; exact ⟨_, VRA.self g, rfl⟩)
    | (simp only [Value.cells, groundA, groundL, Bool.and_true] at g; exact VR.self g)
theorem sv_alloc (h : Inv B w0 ρ A w) {t : TypeId} {z u : Value} (hz : prun P (zeroValue t) = some z) (g : groundA z.cells = true) {A1 : AW} (e : abox A z = some (u, A1)) :
    SV P B w0 ρ w (Instr.alloc t true (.tuple #[])) u A1 := by
  obtain ⟨ρ1, w1, v', r1, r2⟩ := sv_box (P := P) h (ground_of_cells g) e t
  refine ⟨ρ1, w1, v', ?_, r2⟩
  unfold Instr.alloc
  rw [run_prun_bind hz]
  exact r1
theorem sv_fieldAddr (h : Inv B w0 ρ A w) {s : TypeId} {x x' u : Value} (hx : VR ρ x x') {f : Nat} (e : afieldAddr P s x f = some u) : SV P B w0 ρ w (Instr.fieldAt s x' f) u A := by
  unfold afieldAddr at e
  cases h1 : prun P (underlying s) with
  | none => rw [h1] at e; simp at e
  | some d =>
    rw [h1] at e
    cases d <;> try (simp at e; done)
    rename_i fields
    cases x <;> try (simp at e; done)
    rename_i oa
    cases oa with
    | none => simp at e
    | some a =>
      simp only at e
      obtain ⟨a', ha, rfl⟩ := hx
      cases h2 : fields[f]? with
      | none => rw [h2] at e; simp at e
      | some fd =>
        rw [h2] at e
        simp only at e
        cases h3 : prun P (sizeOf fd.type) with
        | none => rw [h3] at e; simp at e
        | some n =>
          rw [h3] at e
          cases n with
          | zero => simp at e
          | succ n =>
            simp only at e
            rw [ha.1] at e
            simp only [Option.isSome_none, cond_false, Option.some.injEq] at e
            subst e
            refine ⟨ρ, w, .pointer (some (a'.add fd.offset)), ?_, Ext.refl _, h, ⟨_, ha.add _, rfl⟩⟩
            unfold Instr.fieldAt
            rw [run_prun_bind h1]
            simp only [h2]
            simp only [Instr.sureAddr, fieldPlace, pure_bind, bind_assoc]
            rw [run_prun_bind h3]
            simp
theorem sv_indexAddr (h : Inv B w0 ρ A w) {t : TypeId} {x x' i i' u : Value} (hx : VR ρ x x') (hi : VR ρ i i') (e : aindexAddr P t x i = some u) : SV P B w0 ρ w (Instr.indexAt t x' i') u A := by
  unfold aindexAddr at e
  cases i <;> try (simp at e; done)
  rename_i k n
  cases n with
  | negSucc n => simp at e
  | ofNat n =>
    simp only [VR] at hi
    subst hi
    simp only at e
    cases h1 : prun P (underlying t) with
    | none => rw [h1] at e; simp at e
    | some d =>
      rw [h1] at e
      cases d <;> try (simp at e; done)
      case array len elem =>
        cases x <;> try (simp at e; done)
        rename_i oa
        cases oa with
        | none => simp at e
        | some a =>
          simp only at e
          obtain ⟨a', ha, rfl⟩ := hx
          cases h2 : prun P (sizeOf elem) with
          | none => rw [h2] at e; simp at e
          | some size =>
            rw [h2] at e
            simp only [ha.1, Option.isSome_none, Bool.false_or] at e
            cases h3 : Nat.blt n len with
            | false => rw [h3] at e; simp at e
            | true =>
              have hlt : n < len := by have := h3; simp [Nat.blt] at this; omega
              rw [h3] at e
              simp only [Bool.not_true, cond_false, Option.some.injEq] at e
              subst e
              refine ⟨ρ, w, .pointer (some (a'.add (n * size))), ?_, Ext.refl _, h, ⟨_, ha.add _, rfl⟩⟩
              unfold Instr.indexAt
              simp only [asIntOf, pure_bind]
              rw [run_prun_bind h1]
              simp only [Instr.sureAddr, pure_bind]
              have hz : (0 : Int) ≤ Int.ofNat n ∧ Int.ofNat n < (len : Int) := ⟨by simp, by simpa using hlt⟩
              rw [run_prun_bind h1]
              simp only [hz, and_self, if_true]
              rw [run_prun_bind h2]
              simp
      case slice elem =>
        cases x <;> try (simp at e; done)
        rename_i oa len cap
        cases oa with
        | none => simp at e
        | some a =>
          simp only at e
          obtain ⟨hs, f, hf, rfl⟩ := hx
          have ha : AR ρ a ⟨f.blk, f.off + a.off, none⟩ := ⟨hs, f, hf, rfl⟩
          cases h2 : prun P (sizeOf elem) with
          | none => rw [h2] at e; simp at e
          | some size =>
            rw [h2] at e
            simp only [hs, Option.isSome_none, Bool.false_or] at e
            cases h3 : Nat.blt n len with
            | false => rw [h3] at e; simp at e
            | true =>
              have hlt : n < len := by have := h3; simp [Nat.blt] at this; omega
              rw [h3] at e
              simp only [Bool.not_true, cond_false, Option.some.injEq] at e
              subst e
              refine ⟨ρ, w, .pointer (some ((⟨f.blk, f.off + a.off, none⟩ : Addr).add (n * size))), ?_, Ext.refl _, h, ⟨_, ha.add _, rfl⟩⟩
              unfold Instr.indexAt
              simp only [asIntOf, pure_bind]
              rw [run_prun_bind h1]
              have hz : (0 : Int) ≤ Int.ofNat n ∧ Int.ofNat n < (len : Int) := ⟨by simp, by simpa using hlt⟩
              rw [run_prun_bind h1]
              simp only [hz, and_self, if_true]
              rw [run_prun_bind h2]
              simp
end
end Go.Abs
