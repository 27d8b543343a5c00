/- copy, clear, conversions, maps, comparisons with nil. -/
import Derived.Test.YtioggedadamoaaaAbsOpsE
set_option autoImplicit false
set_option linter.unusedVariables false
set_option linter.unusedSimpArgs false
namespace Go.Abs
open Go.RowKit
section
variable {P : Program} {B : Nat → Prop} {w0 : World} {ρ : Rho} {A : AW} {w : World}
theorem str_ground (s : ByteArray) : groundL (s.data.toList.map fun b => Value.int .u8 b.toNat) = true :=
  groundL_of_mem fun v hv => by
    obtain ⟨b, _, rfl⟩ := List.mem_map.1 hv
    rfl
theorem sv_copy (h : Inv B w0 ρ A w) {argTypes : Array TypeId} {ty : TypeId} {s s' x x' : Value} (hs : VR ρ s s') (hx : VR ρ x x') {u : Value} {A1 : AW} (e : acopy P A argTypes s x = some (u, A1)) :
    SV P B w0 ρ w (Builtin.copy_ argTypes ty #[s', x']) u A1 := by
  unfold acopy at e
  cases ha : argTypes[0]? with
  | none => rw [ha] at e; simp at e
  | some dType =>
  rw [ha] at e
  cases s <;> try (simp at e; done)
  rename_i base dLen dCap
  simp only at e
  cases hu : prun P (underlying dType) with
  | none => rw [hu] at e; simp at e
  | some d =>
  rw [hu] at e
  cases d <;> try (simp at e; done)
  rename_i elem
  simp only at e
  cases hsz : prun P (sizeOf elem) with
  | none => rw [hsz] at e; simp at e
  | some size =>
  rw [hsz] at e
  have src : ∀ m, srcLen x = some m → ∀ vs, srcCells A size (Nat.min m dLen) x = some vs →
      (Builtin.lenOf x').run P w = .ok m w ∧ ∃ vs', VRL ρ vs vs' ∧ (Builtin.firstCells size (Nat.min m dLen) x').run P w = .ok vs'.toArray w := by
    intro m hm vs hvs
    unfold srcLen at hm
    unfold srcCells at hvs
    cases x <;> try (simp at hm; done)
    case string t =>
      simp only [Option.some.injEq] at hm hvs
      subst hm
      subst hvs
      simp only [VR] at hx
      subst hx
      refine ⟨rfl, _, (VRL.ground _ (str_ground _) _).2 rfl, ?_⟩
      simp only [Builtin.firstCells]
      show Result.ok _ w = _
      congr 1
      apply Array.ext'
      simp
    case slice oa n c =>
      simp only [Option.some.injEq] at hm
      subst hm
      cases oa with
      | none =>
        simp only [Option.some.injEq] at hvs
        subst hvs
        simp only [VR] at hx
        subst hx
        exact ⟨rfl, [], by simp [VRL], rfl⟩
      | some a =>
        simp only at hvs
        obtain ⟨vs', k1, k2⟩ := first_rel (P := P) h hx hvs
        refine ⟨?_, vs', k1, k2 w rfl⟩
        obtain ⟨_, f, hf, rfl⟩ := hx
        rfl
  cases hm : srcLen x with
  | none => rw [hm] at e; simp at e
  | some m =>
  rw [hm] at e
  simp only at e
  cases hv : srcCells A size (Nat.min m dLen) x with
  | none => rw [hv] at e; simp at e
  | some vs =>
  rw [hv] at e
  simp only [acopyTo] at e
  obtain ⟨q1, vs', q2, q3⟩ := src m hm vs hv
  have start : ∀ (base' : Option Addr) (c' : Nat), (Builtin.copy_ argTypes ty #[.slice base' dLen c', x']).run P w =
      (match base' with | some a => (do storeCells a vs'; pure (goInt (Nat.min m dLen))) | none => pure (goInt (Nat.min m dLen)) : Sem Value).run P w := by
    intro base' c'
    unfold Builtin.copy_
    simp only [ha]
    show Sem.run P (underlying dType >>= _) w = _
    rw [run_prun_bind hu]
    show Sem.run P (Builtin.lenOf x' >>= _) w = _
    rw [Sem.run_bind, q1]
    simp only [Result.andThen_ok]
    rw [run_prun_bind hsz]
    show Sem.run P (Builtin.firstCells size (Nat.min m dLen) x' >>= _) w = _
    rw [Sem.run_bind, q3]
    simp only [Result.andThen_ok]
    cases base' <;> rfl
  cases base with
  | none =>
    simp only [VR] at hs
    subst hs
    simp only [Option.some.injEq, Prod.mk.injEq] at e
    obtain ⟨rfl, rfl⟩ := e
    exact ⟨ρ, w, goInt (Nat.min m dLen), by rw [start]; rfl, Ext.refl _, h, by simp [goInt, VR]⟩
  | some a =>
    obtain ⟨hsp, f, hf, rfl⟩ := hs
    simp only at e
    cases vs with
    | nil =>
      simp only [hsp, Option.isSome_none, cond_false, Option.some.injEq, Prod.mk.injEq] at e
      obtain ⟨rfl, rfl⟩ := e
      have : vs' = [] := by simpa [VRL] using q2
      subst this
      exact ⟨ρ, w, goInt (Nat.min m dLen), by rw [start]; rfl, Ext.refl _, h, by simp [goInt, VR]⟩
    | cons v0 vr =>
      simp only at e
      cases hst : A.storeN a (v0 :: vr) with
      | none => rw [hst] at e; simp at e
      | some A2 =>
        rw [hst] at e
        simp only [Option.some.injEq, Prod.mk.injEq] at e
        obtain ⟨rfl, rfl⟩ := e
        obtain ⟨w1, r1, r2⟩ := h.storeN (P := P) ⟨hsp, f, hf, rfl⟩ q2 hst
        refine ⟨ρ, w1, goInt (Nat.min m dLen), ?_, Ext.refl _, r2, by simp [goInt, VR]⟩
        rw [start]
        simp only [Sem.run_bind, r1, Result.andThen_ok]
        rfl
theorem sv_clear (h : Inv B w0 ρ A w) {argTypes : Array TypeId} {ty : TypeId} {x x' : Value} (hx : VR ρ x x') {u : Value} {A1 : AW} (e : aclear P A argTypes x = some (u, A1)) :
    SV P B w0 ρ w (Builtin.clear_ argTypes ty #[x']) u A1 := by
  unfold aclear at e
  cases ha : argTypes[0]? with
  | none => rw [ha] at e; simp at e
  | some t =>
  rw [ha] at e
  cases x <;> try (simp at e; done)
  rename_i oa n c
  have unit : VR ρ (.tuple #[]) (.tuple #[]) := ⟨#[], by simp [VRA, VRL], rfl⟩
  cases n with
  | zero =>
    have e' : (match prun P (underlying t) with
      | some (.slice _) => some (Value.tuple #[], A)
      | _ => none) = some (u, A1) := by cases oa <;> exact e
    cases hu : prun P (underlying t) with
    | none => rw [hu] at e'; simp at e'
    | some d =>
      rw [hu] at e'
      cases d <;> try (simp at e'; done)
      rename_i elem
      simp only [Option.some.injEq, Prod.mk.injEq] at e'
      obtain ⟨rfl, rfl⟩ := e'
      refine ⟨ρ, w, .tuple #[], ?_, Ext.refl _, h, unit⟩
      unfold Builtin.clear_
      simp only [ha]
      show Sem.run P (underlying t >>= _) w = _
      rw [run_prun_bind hu]
      cases oa with
      | none => simp only [VR] at hx; subst hx; rfl
      | some a => obtain ⟨_, f, hf, rfl⟩ := hx; rfl
  | succ n =>
    cases oa with
    | none => simp at e
    | some a =>
      simp only at e
      cases hu : prun P (underlying t) with
      | none => rw [hu] at e; simp at e
      | some d =>
      rw [hu] at e
      cases d <;> try (simp at e; done)
      rename_i elem
      simp only at e
      cases hz : prun P (zeroValue elem) with
      | none => rw [hz] at e; simp at e
      | some z =>
      rw [hz] at e
      simp only at e
      cases hg : groundA z.cells with
      | false => rw [hg] at e; simp at e
      | true =>
      rw [hg] at e
      simp only [cond_true] at e
      cases hst : A.storeN a ((List.range ((n + 1) * z.cells.size)).map (fun i => z.cells[i % z.cells.size]!)) with
      | none => rw [hst] at e; simp at e
      | some A2 =>
        rw [hst] at e
        simp only [Option.some.injEq, Prod.mk.injEq] at e
        obtain ⟨rfl, rfl⟩ := e
        obtain ⟨hsp, f, hf, rfl⟩ := hx
        have hgz := ground_zeros hg ((n + 1) * z.cells.size)
        obtain ⟨w1, r1, r2⟩ := h.storeN (P := P) ⟨hsp, f, hf, rfl⟩ ((VRL.ground _ hgz _).2 rfl) hst
        refine ⟨ρ, w1, .tuple #[], ?_, Ext.refl _, r2, unit⟩
        unfold Builtin.clear_
        simp only [ha]
        show Sem.run P (underlying t >>= _) w = _
        rw [run_prun_bind hu]
        show Sem.run P (zeroValue elem >>= _) w = _
        rw [run_prun_bind hz]
        have hzc : (Builtin.zeroCells z.cells (n + 1)).toList = (List.range ((n + 1) * z.cells.size)).map (fun i => z.cells[i % z.cells.size]!) := by
          simp [Builtin.zeroCells]
        rw [Sem.run_bind, hzc, r1]
        rfl
end
end Go.Abs
