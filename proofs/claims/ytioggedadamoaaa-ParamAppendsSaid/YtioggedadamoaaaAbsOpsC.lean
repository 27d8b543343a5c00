/- Slices that are cut, made, told by their length. -/
import Derived.Test.YtioggedadamoaaaAbsOpsB
set_option autoImplicit false
set_option linter.unusedVariables false
set_option linter.unusedSimpArgs false
namespace Go.Abs
open Go.RowKit
section
variable {P : Program} {B : Nat → Prop} {w0 : World} {ρ : Rho} {A : AW} {w : World}
def VRO (ρ : Rho) : Option Value → Option Value → Prop
  | none, x' => x' = none
  | some v, x' => ∃ v', x' = some v' ∧ VR ρ v v'
theorem bound_rel {x x' : Value} (hx : VR ρ x x') {y y' i : Nat} (hy : y ≤ y') (e : abound x y = some i) (c : BoundsCode) (w : World) :
    (Instr.sliceBound x' y' c).run P w = .ok i w ∧ i ≤ y := by
  unfold abound at e
  cases x <;> try (simp at e; done)
  rename_i k n
  cases n with
  | negSucc n => simp at e
  | ofNat n =>
    simp only [VR] at hx
    subst hx
    simp only at e
    cases hb : Nat.ble n y with
    | false => rw [hb] at e; simp at e
    | true =>
      have hle : n ≤ y := Nat.le_of_ble_eq_true hb
      rw [hb] at e
      simp only [cond_true, Option.some.injEq] at e
      subst e
      refine ⟨?_, hle⟩
      unfold Instr.sliceBound
      simp only [asIntOf, pure_bind]
      rw [if_pos ⟨by simp, by simp; omega⟩]
      simp
theorem bounds_rel {lo lo' hi hi' mx mx' : Option Value} (hlo : VRO ρ lo lo') (hhi : VRO ρ hi hi') (hmx : VRO ρ mx mx') {b : Bool} {len cap cap' m h l : Nat} (hc : cap ≤ cap')
    (hmh : mx.isSome = true → hi.isSome = true)
    (e1 : aboundO mx cap cap = some m) (e2 : aboundO hi m len = some h) (e3 : aboundO lo h 0 = some l) (w : World) :
    (Instr.sliceBounds b len cap' lo' hi' mx').run P w = .ok (l, h, if mx.isSome then m else cap') w ∧ l ≤ h ∧ (mx.isSome = false → m = cap) ∧ m ≤ cap := by
  cases mx with
  | none =>
    simp only [VRO] at hmx
    subst hmx
    simp only [aboundO, Option.some.injEq] at e1
    subst e1
    cases hi with
    | none =>
      simp only [VRO] at hhi
      subst hhi
      simp only [aboundO, Option.some.injEq] at e2
      subst e2
      cases lo with
      | none =>
        simp only [VRO] at hlo
        subst hlo
        simp only [aboundO, Option.some.injEq] at e3
        subst e3
        exact ⟨rfl, Nat.zero_le _, fun _ => rfl, Nat.le_refl _⟩
      | some v =>
        obtain ⟨v', rfl, hv⟩ := hlo
        simp only [aboundO] at e3
        refine ⟨?_, (bound_rel (P := P) hv (Nat.le_refl _) e3 .sliceB w).2, fun _ => rfl, Nat.le_refl _⟩
        have q := fun c => (bound_rel (P := P) hv (Nat.le_refl _) e3 c w).1
        simp [Instr.sliceBounds, q]
    | some v =>
      obtain ⟨v', rfl, hv⟩ := hhi
      simp only [aboundO] at e2
      have p := fun c => (bound_rel (P := P) hv hc e2 c w).1
      cases lo with
      | none =>
        simp only [VRO] at hlo
        subst hlo
        simp only [aboundO, Option.some.injEq] at e3
        subst e3
        refine ⟨?_, Nat.zero_le _, fun _ => rfl, Nat.le_refl _⟩
        simp [Instr.sliceBounds, p]
      | some u =>
        obtain ⟨u', rfl, hu⟩ := hlo
        simp only [aboundO] at e3
        refine ⟨?_, (bound_rel (P := P) hu (Nat.le_refl _) e3 .sliceB w).2, fun _ => rfl, Nat.le_refl _⟩
        have q := fun c => (bound_rel (P := P) hu (Nat.le_refl _) e3 c w).1
        simp [Instr.sliceBounds, p, q]
  | some u =>
    obtain ⟨u', rfl, hu⟩ := hmx
    simp only [aboundO] at e1
    have r := fun c => (bound_rel (P := P) hu hc e1 c w).1
    have r2 := (bound_rel (P := P) hu hc e1 .slice3B w).2
    cases hi with
    | none => simp at hmh
    | some v =>
      obtain ⟨v', rfl, hv⟩ := hhi
      simp only [aboundO] at e2
      have p := fun c => (bound_rel (P := P) hv (Nat.le_refl _) e2 c w).1
      cases lo with
      | none =>
        simp only [VRO] at hlo
        subst hlo
        simp only [aboundO, Option.some.injEq] at e3
        subst e3
        refine ⟨?_, Nat.zero_le _, by simp, r2⟩
        simp [Instr.sliceBounds, p, r]
      | some x =>
        obtain ⟨x', rfl, hx⟩ := hlo
        simp only [aboundO] at e3
        refine ⟨?_, (bound_rel (P := P) hx (Nat.le_refl _) e3 .sliceB w).2, by simp, r2⟩
        have q := fun c => (bound_rel (P := P) hx (Nat.le_refl _) e3 c w).1
        simp [Instr.sliceBounds, p, q, r]
theorem sv_slice (h : Inv B w0 ρ A w) {t elem : TypeId} {size : Nat} (ht : prun P (underlying t) = some (.slice elem)) (hsz : prun P (sizeOf elem) = some size) {x x' : Value} (hx : VR ρ x x')
    {lo lo' hi hi' mx mx' : Option Value} (hlo : VRO ρ lo lo') (hhi : VRO ρ hi hi') (hmx : VRO ρ mx mx') (hmh : mx.isSome = true → hi.isSome = true) {u : Value} {A1 : AW}
    (e : aslice A size x lo hi mx = some (u, A1)) : SV P B w0 ρ w (Instr.sliceAt t x' lo' hi' mx') u A1 := by
  unfold aslice at e
  cases x <;> try (simp at e; done)
  rename_i oa len cap
  simp only at e
  cases e1 : aboundO mx cap cap with
  | none => rw [e1] at e; simp at e
  | some m =>
    rw [e1] at e
    simp only at e
    cases e2 : aboundO hi m len with
    | none => rw [e2] at e; simp at e
    | some hh =>
      rw [e2] at e
      simp only at e
      cases e3 : aboundO lo hh 0 with
      | none => rw [e3] at e; simp at e
      | some l =>
        rw [e3] at e
        simp only at e
        cases hbm : Nat.ble hh m with
        | false => rw [hbm] at e; simp at e
        | true =>
        have hhm : hh ≤ m := Nat.le_of_ble_eq_true hbm
        rw [hbm] at e
        simp only [Bool.not_true, cond_false] at e
        have start : ∀ (a' : Option Addr) (cap' : Nat), cap ≤ cap' → (Instr.sliceAt t (.slice a' len cap') lo' hi' mx').run P w =
            .ok (.slice (if (if mx.isSome then m else cap') = l then a' else a'.map (·.add (l * size))) (hh - l) ((if mx.isSome then m else cap') - l)) w ∧ l ≤ hh ∧ (mx.isSome = false → m = cap) ∧ m ≤ cap := by
          intro a' cap' hc
          obtain ⟨q1, q2, q3, q4⟩ := bounds_rel (P := P) (b := true) (len := len) hlo hhi hmx hc hmh e1 e2 e3 w
          refine ⟨?_, q2, q3, q4⟩
          unfold Instr.sliceAt
          rw [run_prun_bind ht]
          unfold Instr.slice
          simp only
          rw [run_prun_bind ht]
          simp only
          rw [Sem.run_bind, q1]
          simp only [Result.andThen_ok]
          rw [run_prun_bind hsz]
          rfl
        have hmm : ∀ (cap' : Nat), cap' = cap ∨ mx.isSome = true → (mx.isSome = false → m = cap) → (if mx.isSome then m else cap') = m := by
          intro cap' h1 h2
          cases hm : mx.isSome with
          | true => simp
          | false =>
            rw [hm] at h1 h2
            simp at h1 h2
            simp [h1, h2]
        cases oa with
        | none =>
          simp only [VR] at hx
          subst hx
          simp only [Option.some.injEq, Prod.mk.injEq] at e
          obtain ⟨rfl, rfl⟩ := e
          obtain ⟨q1, q2, q3, q4⟩ := start none cap (Nat.le_refl _)
          rw [hmm cap (.inl rfl) q3] at q1
          refine ⟨ρ, w, .slice none (hh - l) (m - l), ?_, Ext.refl _, h, by simp [VR]⟩
          rw [q1]
          simp
        | some a =>
          obtain ⟨hs, f, hf, rfl⟩ := hx
          obtain ⟨hlt, hw, ho⟩ := h.at_ _ _ hf
          simp only [hs, Option.isSome_none, cond_false] at e
          cases hg : A.get a.block with
          | dead => rw [hg] at e; simp at e
          | resv => rw [hg] at e; simp at e
          | map es c => rw [hg] at e; simp at e
          | cells cs ro opn esz =>
            rw [hg] at e ho
            simp only at e
            obtain ⟨g1, g2, g3, g4, g5, rc, t2, fr, rs, g6, g7, g8, g9, g10⟩ := ho
            have hcap : cap ≤ (if a.off + cap * f.esz = f.n then cap + f.extra else cap) := by split <;> omega
            obtain ⟨q1, q2, q3, q4⟩ := start (some ⟨f.blk, f.off + a.off, none⟩) _ hcap
            cases opn with
            | false =>
              simp only [Bool.not_false, cond_true, Option.some.injEq, Prod.mk.injEq] at e
              obtain ⟨rfl, rfl⟩ := e
              have hx0 := g3 rfl
              have hc1 : (if a.off + cap * f.esz = f.n then cap + f.extra else cap) = cap := by rw [hx0]; simp
              rw [hc1] at q1 ⊢
              rw [hmm cap (.inl rfl) q3] at q1
              refine ⟨ρ, w, _, q1, Ext.refl _, h, ?_⟩
              by_cases hml : m = l
              · subst hml
                simp only [Nat.beq_refl, cond_true, if_true]
                refine ⟨hs, f, hf, ?_⟩
                rw [hx0]; simp
              · have : m.beq l = false := by
                  cases hb : m.beq l with
                  | false => rfl
                  | true => exact absurd (Nat.eq_of_beq_eq_true hb) hml
                simp only [this, cond_false, if_neg hml, Option.map_some]
                obtain ⟨k1, k2, k3⟩ := add_block hs (l * size)
                refine ⟨k3, f, by rw [k1]; exact hf, ?_⟩
                rw [addr_add, k2, hx0, Nat.add_assoc]; simp
            | true =>
              simp only [Bool.not_true, cond_false] at e
              simp only [bif_beq] at e
              cases hes : esz.beq size with
              | false => rw [hes] at e; simp at e
              | true =>
                have hes' : esz = size := Nat.eq_of_beq_eq_true hes
                rw [hes] at e
                simp only [Bool.not_true, cond_false] at e
                have hfs : f.esz = size := by rw [g2, hes']
                by_cases hml : m = l
                · rw [if_pos hml] at e
                  subst hml
                  cases hex : ((mx.isSome || !(Nat.beq (a.off + cap * size) cs.length)) && !(a.off.beq cs.length)) with
                  | true =>
                    rw [hex] at e
                    simp only [cond_true, Option.some.injEq, Prod.mk.injEq] at e
                    obtain ⟨rfl, rfl⟩ := e
                    simp only [Bool.and_eq_true, Bool.or_eq_true, Bool.not_eq_true'] at hex
                    have hoff : a.off ≠ cs.length := Nat.ne_of_beq_eq_false hex.2
                    have hcc : (if mx.isSome then m else (if a.off + cap * f.esz = f.n then cap + f.extra else cap)) = m := by
                      cases hmx2 : mx.isSome with
                      | true => simp
                      | false =>
                        have hne : a.off + cap * size ≠ cs.length := by
                          rcases hex.1 with h1 | h1
                          · rw [hmx2] at h1; simp at h1
                          · exact Nat.ne_of_beq_eq_false h1
                        rw [hfs, g1, if_neg hne]
                        simp [q3 hmx2]
                    rw [hcc] at q1
                    refine ⟨ρ, w, _, q1, Ext.refl _, h, ?_⟩
                    simp only [if_true]
                    refine ⟨hs, f, hf, ?_⟩
                    rw [g1, if_neg (by simpa using hoff)]
                  | false =>
                    rw [hex] at e
                    simp only [cond_false, Option.some.injEq, Prod.mk.injEq] at e
                    obtain ⟨rfl, rfl⟩ := e
                    have hz : hh - m = 0 := by omega
                    rw [hz] at q1
                    have hoff : a.off + cap * size ≤ cs.length ∨ True := .inr trivial
                    cases hms : mx.isSome with
                    | true =>
                      rw [hms] at q1
                      simp only [if_true, Nat.sub_self] at q1
                      have hI := h.alias false size 0 hf hg (f.off + a.off) (by
                        simp only [Bool.and_eq_false_iff, hms, Bool.true_or] at hex
                        rcases hex with h1 | h1
                        · simp at h1
                        · have : a.off = cs.length := by
                            have h2 : a.off.beq cs.length = true := by simpa using h1
                            exact Nat.eq_of_beq_eq_true h2
                          rw [this]; simp) (fun _ => rfl)
                      simp only [hms, Bool.true_or, Bool.not_true]
                      refine ⟨_, w, _, q1, place_ext h.free _, hI, ?_⟩
                      exact ⟨rfl, _, place_same _ _ _, by simp⟩
                    | false =>
                      rw [hms] at q1
                      have hmc := q3 hms
                      subst hmc
                      simp only [Bool.false_eq_true, if_false] at q1
                      cases hnx : Nat.beq (a.off + m * size) cs.length with
                      | true =>
                        have heq : a.off + m * size = cs.length := Nat.eq_of_beq_eq_true hnx
                        rw [hfs, g1, if_pos heq] at q1 ⊢
                        simp only [hms, Bool.false_or, Bool.not_true, Bool.not_false]
                        by_cases hx0 : f.extra = 0
                        · rw [hx0] at q1 ⊢
                          simp only [Nat.add_zero, if_true, Nat.sub_self] at q1
                          have hI := h.alias true size 0 hf hg (f.off + a.off) (by rw [Nat.zero_mul]; have : a.off ≤ cs.length := by rw [← heq]; exact Nat.le_add_right _ _
                                                                                   omega) (fun hc => by cases hc)
                          refine ⟨_, w, _, q1, place_ext h.free _, hI, ?_⟩
                          exact ⟨rfl, _, place_same _ _ _, by simp⟩
                        · rw [if_neg (by omega)] at q1
                          have hI := h.alias true size f.extra hf hg (f.off + a.off + m * size) (by rw [hes']; omega) (fun hc => by cases hc)
                          refine ⟨_, w, _, q1, place_ext h.free _, hI, ?_⟩
                          refine ⟨rfl, _, place_same _ _ _, ?_⟩
                          simp only [Option.map_some, addr_add]
                          simp
                      | false =>
                        have hne : a.off + m * size ≠ cs.length := Nat.ne_of_beq_eq_false hnx
                        rw [hfs, g1, if_neg hne] at q1 ⊢
                        simp only [hms, Bool.false_or, Bool.not_false, Bool.not_true]
                        simp only [if_true, Nat.sub_self] at q1
                        have haoff : a.off = cs.length := by
                          rw [hms, hnx] at hex
                          simp at hex
                          exact hex
                        have hI := h.alias false size 0 hf hg (f.off + a.off) (by rw [haoff]; simp) (fun _ => rfl)
                        refine ⟨_, w, _, q1, place_ext h.free _, hI, ?_⟩
                        exact ⟨rfl, _, place_same _ _ _, by simp⟩
                · rw [if_neg hml] at e
                  cases hmx2 : (mx.isSome && Nat.beq (a.off + m * size) cs.length) with
                  | true =>
                    rw [hmx2] at e
                    simp only [cond_true] at e
                    cases ro with
                    | true => simp at e
                    | false =>
                      simp only [cond_false, Option.some.injEq, Prod.mk.injEq] at e
                      obtain ⟨rfl, rfl⟩ := e
                      simp only [Bool.and_eq_true] at hmx2
                      rw [hmx2.1] at q1
                      simp only [if_true] at q1
                      rw [if_neg hml] at q1
                      refine ⟨_, w, _, q1, place_ext h.free _, h.shut hf hg, ?_⟩
                      simp only [Option.map_some]
                      refine ⟨rfl, _, place_same _ _ _, ?_⟩
                      rw [addr_add]
                      simp [Nat.add_assoc]
                  | false =>
                    rw [hmx2] at e
                    simp only [cond_false, Option.some.injEq, Prod.mk.injEq] at e
                    obtain ⟨rfl, rfl⟩ := e
                    obtain ⟨k1, k2, k3⟩ := add_block hs (l * size)
                    cases hms : mx.isSome with
                    | true =>
                      rw [hms] at hmx2 q1
                      simp only [if_true] at q1
                      simp only [Bool.true_and] at hmx2
                      have hne : a.off + m * size ≠ cs.length := Nat.ne_of_beq_eq_false hmx2
                      rw [if_neg hml] at q1
                      refine ⟨ρ, w, _, q1, Ext.refl _, h, ?_⟩
                      simp only [Option.map_some]
                      refine ⟨k3, f, by rw [k1]; exact hf, ?_⟩
                      rw [addr_add, k2, Nat.add_assoc, hfs, g1, if_neg]
                      rw [Nat.sub_mul]
                      have : l * size ≤ m * size := Nat.mul_le_mul_right _ (by omega)
                      omega
                    | false =>
                      rw [hms] at q1
                      have hmc := q3 hms
                      subst hmc
                      simp only [Bool.false_eq_true, if_false] at q1
                      have hlm : l * size ≤ m * size := Nat.mul_le_mul_right _ (by omega)
                      have hne : ¬ ((if a.off + m * f.esz = f.n then m + f.extra else m) = l) := by split <;> omega
                      rw [if_neg hne] at q1
                      refine ⟨ρ, w, _, q1, Ext.refl _, h, ?_⟩
                      simp only [Option.map_some]
                      refine ⟨k3, f, by rw [k1]; exact hf, ?_⟩
                      rw [addr_add, k2, Nat.add_assoc, hfs, g1, Nat.sub_mul]
                      by_cases hq : a.off + m * size = cs.length
                      · rw [if_pos hq, if_pos (by omega)]
                        congr 1
                        omega
                      · rw [if_neg hq, if_neg (by omega)]
end
end Go.Abs
