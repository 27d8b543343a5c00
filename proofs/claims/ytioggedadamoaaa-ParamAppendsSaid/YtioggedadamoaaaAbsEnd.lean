/- What a closed call comes to; what a law's row asks behind a call that leaves all old memory as it was. -/
import Derived.Test.YtioggedadamoaaaAbsDrawE
import Derived.ProofKit
import Derived.OpenShut
set_option autoImplicit false
set_option linter.unusedVariables false
set_option linter.unusedSimpArgs false
namespace Go.Abs
open Go.RowKit
def pre0 : FuncId → Option (List Value → AW → Option (Value × AW)) := fun _ => none
theorem pre0_sound (P : Program) (B : Nat → Prop) (w0 : World) : PreSound P B w0 pre0 := fun f args A v A1 ρ w args' e => by simp [pre0] at e
def isTrue (r : Option (Value × AW)) : Bool := match r with
  | some (.bool true, _) => true
  | _ => false
theorem isTrue_inv {r : Option (Value × AW)} (h : isTrue r = true) : ∃ A, r = some (.bool true, A) := by
  unfold isTrue at h
  split at h
  · exact ⟨_, rfl⟩
  · cases h
def namesOk : List Func → Bool
  | [] => true
  | f :: l => !(f.name == "runtime.NumGoroutine") && namesOk l
theorem namesOk_spec {P : Program} (h : namesOk P.funcs.toList = true) (f : FuncId) (fn : Func) (hf : P.funcs[f]? = some fn) : (fn.name == "runtime.NumGoroutine") = false := by
  have go : ∀ {l : List Func}, namesOk l = true → ∀ x ∈ l, (x.name == "runtime.NumGoroutine") = false := by
    intro l
    induction l with
    | nil => intro _ x hx; simp at hx
    | cons y l ih =>
      intro h x hx
      simp only [namesOk, Bool.and_eq_true, Bool.not_eq_true'] at h
      rcases List.mem_cons.1 hx with rfl | hx
      · exact h.1
      · exact ih h.2 x hx
  exact go h fn (by simpa using Array.mem_of_getElem? hf)
end Go.Abs
