/- Structs and rows that are built; slices that are cut; make; len. -/
import Derived.Test.YtioggedadamoaaaAbsOps
set_option autoImplicit false
set_option linter.unusedVariables false
set_option linter.unusedSimpArgs false
namespace Go.Abs
open Go.RowKit
theorem foldl_set (off : Nat) : ∀ (vs : List Value) (k : Nat) (arr : Array Value), off + k + vs.length ≤ arr.size →
    ((vs.zipIdx k).foldl (fun cs (x : Value × Nat) => cs.setIfInBounds (off + x.2) x.1) arr).toList = splice arr.toList (off + k) vs
  | [], k, arr, h => by simp [splice]
  | v :: vs, k, arr, h => by
    simp only [List.length_cons] at h
    rw [List.zipIdx_cons, List.foldl_cons, foldl_set off vs (k + 1) _ (by simp; omega), Array.toList_setIfInBounds, show off + (k + 1) = off + k + 1 from by omega]
    exact splice_cons _ _ _ _ (by simp; omega)
section
variable {P : Program} {B : Nat → Prop} {w0 : World} {ρ : Rho} {A : AW} {w : World}
def PR (ρ : Rho) : List (Nat × Value) → List (Nat × Value) → Prop
  | [], l' => l' = []
  | x :: l, l' => ∃ y r, l' = y :: r ∧ y.1 = x.1 ∧ VR ρ x.2 y.2 ∧ PR ρ l r
theorem fill_rel (place : Nat → Option (Nat × Nat)) : ∀ (ps ps' : List (Nat × Value)) (cells cells' : List Value) (r : List Value), PR ρ ps ps' → VRL ρ cells cells' →
    afill place cells ps = some r → ∃ r', Instr.fill place cells'.toArray ps' = some r' ∧ VRL ρ r r'.toList ∧ r.length = cells.length
  | [], _, cells, cells', r, hp, hc, e => by
    simp only [PR] at hp
    subst hp
    simp only [afill, Option.some.injEq] at e
    subst e
    exact ⟨cells'.toArray, rfl, by simpa using hc, rfl⟩
  | (i, v) :: ps, _, cells, cells', r, hp, hc, e => by
    obtain ⟨⟨j, v'⟩, ps', rfl, hj, hv, hr⟩ := hp
    simp only at hj hv
    subst hj
    simp only [afill] at e
    cases h1 : place j with
    | none => rw [h1] at e; simp at e
    | some x =>
      obtain ⟨off, size⟩ := x
      rw [h1] at e
      simp only at e
      cases h2 : (v.cells.size.beq size && Nat.ble (off + v.cells.size) cells.length) with
      | false => rw [h2] at e; simp at e
      | true =>
        rw [h2] at e
        simp only [cond_true] at e
        simp only [Bool.and_eq_true] at h2
        have hsz : v.cells.size = size := Nat.eq_of_beq_eq_true h2.1
        have hle : off + v.cells.size ≤ cells.length := Nat.le_of_ble_eq_true h2.2
        have hsv : v'.cells.size = v.cells.size := hv.cells.size
        have hlc : cells'.length = cells.length := hc.length
        have hsp : VRL ρ (splice cells off v.cells.toList) (splice cells' off v'.cells.toList) := hc.splice (VRA.toList.1 hv.cells) off
        obtain ⟨r', k1, k2, k3⟩ := fill_rel place ps ps' _ _ r hr hsp e
        refine ⟨r', ?_, k2, ?_⟩
        · simp only [Instr.fill, h1]
          rw [if_neg (by simp [hsv, hsz]; omega)]
          have hfold : (v'.cells.zipIdx.foldl (fun cs (x : Value × Nat) => cs.setIfInBounds (off + x.2) x.1) cells'.toArray) = (splice cells' off v'.cells.toList).toArray := by
            apply Array.ext'
            rw [← Array.foldl_toList, Array.toList_zipIdx]
            have := foldl_set off v'.cells.toList 0 cells'.toArray (by simp; omega)
            simpa using this
          rw [← k1]
          congr 1
        · rw [k3, splice_length (by simp; omega)]
theorem mk_oneCells : ∀ l : List Value, (∀ v ∈ l, v.oneCell' = true) → oneCells l = true
  | [], _ => rfl
  | x :: l, h => by simp only [oneCells, Bool.and_eq_true]; exact ⟨h x (by simp), mk_oneCells l fun v hv => h v (by simp [hv])⟩
theorem sv_build (h : Inv B w0 ρ A w) {t : TypeId} {ps ps' : List (Nat × Value)} (hp : PR ρ ps ps') {u : Value} (e : abuild P t ps = some u) : SV P B w0 ρ w (Instr.build t ps'.toArray) u A := by
  unfold abuild at e
  cases hz : prun P (zeroValue t) with
  | none => rw [hz] at e; simp at e
  | some z =>
    cases hu : prun P (underlying t) with
    | none => rw [hz, hu] at e; simp at e
    | some d =>
      rw [hz, hu] at e
      have fin : ∀ (place : Nat → Option (Nat × Nat)), (match afill place z.cells.toList ps with
          | some cs => bif groundA z.cells && oneCells cs then some (Value.agg cs.toArray) else none
          | none => none) = some u → ∃ r', Instr.fill place z.cells ps' = some r' ∧ VR ρ u (.agg r') := by
        intro place e
        cases hf : afill place z.cells.toList ps with
        | none => rw [hf] at e; simp at e
        | some cs =>
          rw [hf] at e
          simp only at e
          cases hg : (groundA z.cells && oneCells cs) with
          | false => rw [hg] at e; simp at e
          | true =>
            rw [hg] at e
            simp only [cond_true, Option.some.injEq] at e
            subst e
            simp only [Bool.and_eq_true] at hg
            obtain ⟨r', k1, k2, k3⟩ := fill_rel place ps ps' _ z.cells.toList cs hp (VRA.toList.1 (VRA.self hg.1)) hf
            exact ⟨r', by simpa using k1, ⟨r', by rw [VRA.toList]; simpa using k2, rfl⟩⟩
      cases d <;> try (simp at e; done)
      case struct fields =>
        simp only at e
        cases hm : prun P (fields.mapM fun f => do pure (f.offset, ← sizeOf f.type)) with
        | none => rw [hm] at e; simp at e
        | some places =>
          rw [hm] at e
          simp only at e
          obtain ⟨r', k1, k2⟩ := fin _ e
          refine ⟨ρ, w, .agg r', ?_, Ext.refl _, h, k2⟩
          unfold Instr.build
          simp only [bind_assoc, pure_bind]
          rw [run_prun_bind hz, run_prun_bind hu]
          simp only
          rw [run_prun_bind hm]
          simp only [k1]
          rfl
      case array len elem =>
        simp only at e
        cases hm : prun P (sizeOf elem) with
        | none => rw [hm] at e; simp at e
        | some size =>
          rw [hm] at e
          simp only at e
          obtain ⟨r', k1, k2⟩ := fin _ e
          refine ⟨ρ, w, .agg r', ?_, Ext.refl _, h, k2⟩
          unfold Instr.build
          simp only [bind_assoc, pure_bind]
          rw [run_prun_bind hz, run_prun_bind hu]
          simp only
          rw [run_prun_bind hm]
          simp only [k1]
          rfl
theorem groundL_mem : ∀ {l : List Value}, groundL l = true → ∀ v ∈ l, ground v = true
  | [], _, v, hv => by simp at hv
  | x :: l, h, v, hv => by
    simp only [groundL, Bool.and_eq_true] at h
    rcases List.mem_cons.1 hv with rfl | hv
    · exact h.1
    · exact groundL_mem h.2 v hv
theorem groundL_of_mem : ∀ {l : List Value}, (∀ v ∈ l, ground v = true) → groundL l = true
  | [], _ => rfl
  | x :: l, h => by simp only [groundL, Bool.and_eq_true]; exact ⟨h x (by simp), groundL_of_mem fun v hv => h v (by simp [hv])⟩
theorem ground_zeros {z : Array Value} (g : groundA z = true) (n : Nat) : groundL ((List.range n).map (fun i => z[i % z.size]!)) = true := by
  refine groundL_of_mem fun v hv => ?_
  obtain ⟨i, _, rfl⟩ := List.mem_map.1 hv
  cases z with
  | mk l =>
    simp only [groundA] at g
    by_cases hl : l = []
    · subst hl; simp; rfl
    · have hlt : i % l.length < l.length := Nat.mod_lt _ (List.length_pos_iff.2 hl)
      simp only [List.size_toArray]
      rw [getElem!_pos (c := l.toArray) (i := i % l.length) (by simpa using hlt)]
      exact groundL_mem g _ (by simp)
theorem zeros_arr (z : Array Value) (n : Nat) : ((Array.range n).map (fun i => z[i % z.size]!)) = ((List.range n).map (fun i => z[i % z.size]!)).toArray := by
  apply Array.ext'
  simp
theorem sv_buildSlice (h : Inv B w0 ρ A w) {t : TypeId} {len : Nat} {ps ps' : List (Nat × Value)} (hp : PR ρ ps ps') {u : Value} {A1 : AW} (e : abuildSlice P t len ps A = some (u, A1)) :
    SV P B w0 ρ w (Instr.buildSlice t len ps'.toArray) u A1 := by
  unfold abuildSlice at e
  cases hu : prun P (underlying t) with
  | none => rw [hu] at e; simp at e
  | some d =>
    rw [hu] at e
    cases d <;> try (simp at e; done)
    rename_i elem
    simp only at e
    cases hs : prun P (sizeOf elem) with
    | none => rw [hs] at e; simp at e
    | some size =>
      cases hz : prun P (zeroValue elem) with
      | none => rw [hs, hz] at e; simp at e
      | some z =>
        rw [hs, hz] at e
        simp only at e
        cases hb : (Nat.ble (len * size) 16777216 && groundA z.cells) with
        | false => rw [hb] at e; simp at e
        | true =>
          rw [hb] at e
          simp only [cond_true] at e
          simp only [Bool.and_eq_true] at hb
          have hle : len * size ≤ 16777216 := Nat.le_of_ble_eq_true hb.1
          cases hf : afill (fun i => some (i * size, size)) ((List.range (len * size)).map (fun i => z.cells[i % z.cells.size]!)) ps with
          | none => rw [hf] at e; simp at e
          | some cs =>
            rw [hf] at e
            simp only at e
            cases hn : A.newRow cs with
            | none => rw [hn] at e; simp at e
            | some x =>
              obtain ⟨a, A2⟩ := x
              rw [hn] at e
              simp only [Option.some.injEq, Prod.mk.injEq] at e
              obtain ⟨rfl, rfl⟩ := e
              have hg0 := ground_zeros hb.2 (len * size)
              obtain ⟨r', k1, k2, k3⟩ := fill_rel (ρ := ρ) _ ps ps' _ _ cs hp ((VRL.ground _ hg0 _).2 rfl) hf
              obtain ⟨ρ1, w1, a', r1, r2, r3, r4, f, hf1, hf2, hf3⟩ := sv_newRow (P := P) h k2 hn elem
              refine ⟨ρ1, w1, .slice (some a') len len, ?_, r2, r3, ?_⟩
              · unfold Instr.buildSlice
                simp only [bind_assoc, pure_bind]
                rw [run_prun_bind hu]
                simp only
                rw [run_prun_bind hs]
                rw [if_neg (by omega)]
                have r1' : (newRow elem r').run P w = .ok a' w1 := by simpa using r1
                by_cases h0 : len * size = 0
                · have hcs : Instr.fill (fun i => some (i * size, size)) ((Array.range (len * size)).map (fun i => (#[] : Array Value)[i % (#[] : Array Value).size]!)) ps' = some r' := by
                    rw [← k1]; congr 1; rw [h0]; simp
                  simp only [h0, if_true, pure_bind] at hcs ⊢
                  simp only [hcs, Sem.run_bind, r1', Result.andThen_ok]
                  rfl
                · rw [if_neg h0]
                  rw [run_prun_bind hz]
                  have hcs : Instr.fill (fun i => some (i * size, size)) ((Array.range (len * size)).map (fun i => z.cells[i % z.cells.size]!)) ps' = some r' := by
                    rw [← k1]; congr 1; exact zeros_arr _ _
                  simp only [hcs, Sem.run_bind, r1', Result.andThen_ok]
                  rfl
              · obtain ⟨q1, f', q2, q3⟩ := r4
                refine ⟨q1, f', q2, ?_⟩
                rw [hf1] at q2
                obtain rfl := Option.some.inj q2
                subst q3
                congr 1
                split <;> omega
end
end Go.Abs
