/- param: a token as bytes; small things. -/
import Derived.Test.YtioggedadamoaaaAbsVh
import Derived.Test.YtioggedadamoaaaTiPe
set_option autoImplicit false
set_option linter.unusedVariables false
set_option linter.unusedSimpArgs false
namespace Go.Abs
theorem argsCons {σ : Nat → Nat} {a v : Value} {xs vs : List Value} (h : ren σ a = v) (k : renL σ xs = vs) : renL σ (a :: xs) = v :: vs := by rw [← h, ← k]; rfl
end Go.Abs
namespace Go.Proofs.Ytioggedadamoaaa
open Go.Abs Go.RowKit
theorem rowTok {A : AW} {c : Nat} {vo vc : Value} {p : PN} {ro opn : Bool} (hg : A.get c = .cells (pcl vo vc p) ro opn 1) (hc : c < A.size) (hb : isByte p.tok) : RowV A (.slice (some ⟨c, 12, none⟩) 16 16) p.tok :=
  .inr ⟨c, 12, 16, rfl, hc, ⟨_, ro, opn, hg, Nat.le_of_ble_eq_true rfl, Nat.le_of_ble_eq_true rfl, rfl⟩, Nat.le_refl _, hb⟩
theorem ren_pcl {τ : Nat → Nat} {vo vc vo' vc' : Value} {p : PN} {ro opn : Bool} {esz : Nat} (h0 : ren τ vo = vo') (h1 : ren τ vc = vc') : renO τ (.cells (pcl vo vc p) ro opn esz) = .cells (pcl vo' vc' p) ro opn esz := by rw [← h0, ← h1]; rfl
theorem enc2_byte {id l : Int} (h : 0 ≤ id) (h2 : 0 ≤ l) : isByte (encL [id, l]) := by
  intro z hz
  simp only [encL, List.flatMap_cons, List.flatMap_nil, List.append_nil, List.mem_append] at hz
  rcases hz with hz | hz
  · exact shortOf_byte id h z hz
  · exact shortOf_byte l h2 z hz
theorem shortOf_ne {n : Int} (h : clsN n < 4) : shortOf n ≠ [] := by
  unfold shortOf
  rw [if_pos h]
  have : ∀ c, encC c n ≠ [] := fun c => by
    match c with
    | 0 => exact List.cons_ne_nil _ _
    | 1 => exact List.cons_ne_nil _ _
    | 2 => exact List.cons_ne_nil _ _
    | _ + 3 => exact List.cons_ne_nil _ _
  exact this _
theorem encL2_len (a b : Int) : (encL [a, b]).length ≤ 16 := by
  have h1 := shortOf_le a
  have h2 := shortOf_le b
  simp only [encL, List.flatMap_cons, List.flatMap_nil, List.append_nil, List.length_append]
  omega
theorem byte_app {a b : List Int} (h : isByte a) (k : isByte b) : isByte (a ++ b) := by
  intro z hz
  rcases List.mem_append.1 hz with q | q
  · exact h z q
  · exact k z q
theorem app_ne {a b : List Int} (h : b ≠ []) : a ++ b ≠ [] := by simp [h]
theorem encL2_ne {a b : Int} (h : clsN a < 4) : encL [a, b] ≠ [] := by
  simp [encL, shortOf_ne h]
theorem wrapLen {n : Nat} (h : n < 4611686018427387904) : IntKind.wrap .u64 ((n : Nat) : Int) = (n : Int) := wrap_u64 (by omega) (by omega)
theorem clsN_small {n : Int} (h : n ≤ 4611686018427387903) : clsN n < 4 := by
  unfold clsN
  split
  · decide
  · split
    · decide
    · split
      · decide
      · decide
end Go.Proofs.Ytioggedadamoaaa
