/- What a closed call comes to; what a law's row asks behind a call that leaves all old memory as it was. -/
import Derived.Test.YtmgadeebncpaoaaAbsDrawE
import Derived.ProofKit
import Derived.OpenShut
set_option autoImplicit false
set_option linter.unusedVariables false
set_option linter.unusedSimpArgs false
namespace Go.Abs
open Go.RowKit

theorem inv_empty (w : World) : Inv w.heap.size w (fun _ => none) AW.empty w :=
  ⟨Below.refl _ _, Nat.le_refl _, fun b e h => by simp at h, fun b c e f _ h => by simp at h, fun _ _ => rfl, fun r h => by cases h⟩

/-- Nothing told. -/
def pre0 : FuncId → Option (List Value → AW → Option (Value × AW)) := fun _ => none

theorem pre0_sound (P : Program) (B : Nat) (w0 : World) : PreSound P B w0 pre0 := fun f args A v A1 ρ w args' e => by simp [pre0] at e

def isTrue (r : Option (Value × AW)) : Bool := match r with
  | some (.bool true, _) => true
  | _ => false

theorem isTrue_inv {r : Option (Value × AW)} (h : isTrue r = true) : ∃ A, r = some (.bool true, A) := by
  unfold isTrue at h
  split at h
  · exact ⟨_, rfl⟩
  · cases h

/-- No function bears the name that the model keeps for itself. -/
def namesOk : List Func → Bool
  | [] => true
  | f :: l => !(f.name == "runtime.NumGoroutine") && namesOk l

theorem namesOk_spec {P : Program} (h : namesOk P.funcs.toList = true) (f : FuncId) (fn : Func) (hf : P.funcs[f]? = some fn) : (fn.name == "runtime.NumGoroutine") = false := by
  have go : ∀ {l : List Func}, namesOk l = true → ∀ x ∈ l, (x.name == "runtime.NumGoroutine") = false := by
    intro l
    induction l with
    | nil => intro _ x hx; simp at hx
    | cons y l ih =>
      intro h x hx
      simp only [namesOk, Bool.and_eq_true, Bool.not_eq_true'] at h
      rcases List.mem_cons.1 hx with rfl | hx
      · exact h.1
      · exact ih h.2 x hx
  exact go h fn (by simpa using Array.mem_of_getElem? hf)

theorem closed_calls {P : Program} (hm : P.follows .mixedOrders = true) (hn : namesOk P.funcs.toList = true) {pre : FuncId → Option (List Value → AW → Option (Value × AW))} (hpre : ∀ B w0, PreSound P B w0 pre)
    {rounds n : Nat} {f : FuncId} (h : isTrue (acall P pre (adraw2 P) rounds n f [] AW.empty) = true) (w : World) :
    Calls P f #[] w fun e w' => e = .returned (.bool true) ∧ Below w.heap.size w w' := by
  obtain ⟨A, hA⟩ := isTrue_inv h
  have hs := acall_sound (hpre w.heap.size w) (fun call hc => adraw2_sound hm hc) (namesOk_spec hn) rounds n f [] AW.empty _ A (fun _ => none) w [] hA (inv_empty w) (by simp [VRL])
  refine Calls.mono hs.2 ?_
  rintro e w1 ⟨ρ1, v', rfl, h1, h2, h3⟩
  simp only [VR] at h3
  subst h3
  exact ⟨rfl, h2.below⟩

theorem post_of_below {H : Type} {enc : TypeId × Value → H} {P : Program} {f : Func} {s : ChangeSpec} {apart fresh handsOn : Bool} {W W' : World} {args : Array Value} {v : Value} {ds gs : List (DataW H)} {before pa pv : List MemPlace}
    (hW : DataW.Whole enc P f.params.toList s.vars apart W args.toList ds gs before)
    (hres : ∀ (b : Nat) (sp : Nat → Bool) (hd : Bool), DataW.TrodAll enc P W' b sp hd f.resultTypes.toList (v.resultList f.resultTypes.size) (s.fn H (ds ++ gs)).results [])
    (hargs : ∀ sp : Nat → Bool, DataW.TrodAll enc P W' 0 sp true f.params.toList args.toList (s.fn H (ds ++ gs)).args pa)
    (hvars : ∀ sp : Nat → Bool, DataW.TrodVars enc P W' sp s.vars (s.fn H (ds ++ gs)).vars pv)
    (hB : Below W.heap.size W W') : s.post enc P f apart fresh handsOn false W args v W' :=
  ⟨ds, gs, before, [], pa, pv, hW, hres _ _ _, hargs _, hvars _, hB.frame _, fun h => by cases h⟩
end Go.Abs
