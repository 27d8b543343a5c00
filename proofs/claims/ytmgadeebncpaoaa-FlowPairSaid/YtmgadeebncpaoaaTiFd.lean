/- flow: two flows made in one region. -/
import Derived.Test.YtmgadeebncpaoaaAbsJW
import Derived.Test.YtmgadeebncpaoaaTiFc
set_option autoImplicit false
set_option linter.unusedVariables false
set_option linter.unusedSimpArgs false
namespace Go.Abs
open Go.RowKit

theorem AW.keep_size : ∀ (k : Nat) (A : AW), (A.keep k).size = A.size + k
  | 0, A => rfl
  | k + 1, A => by
    show (AW.keep _ k).size = _
    rw [AW.keep_size k]
    show A.size + 1 + k = _
    omega
theorem AW.keep_nx : ∀ (k : Nat) (A : AW), A.nx = none → (A.keep k).nx = none
  | 0, A, h => h
  | k + 1, A, _ => AW.keep_nx k _ rfl
theorem AW.keep_get : ∀ (k : Nat) (A : AW) (c : Nat), (A.keep k).get c = if A.size ≤ c ∧ c < A.size + k then .resv else A.get c
  | 0, A, c => by rw [if_neg (by omega)]; rfl
  | k + 1, A, c => by
    show (AW.keep _ k).get c = _
    rw [AW.keep_get k]
    have hg : ({ size := A.size + 1, tr := A.tr.put (A.size + 1) A.size .resv, nx := none } : AW).get c = if c = A.size then .resv else A.get c := Tr.get_put _ _ _ _ _ (by omega)
    rw [hg]
    show (if A.size + 1 ≤ c ∧ c < A.size + 1 + k then _ else _) = _
    by_cases h1 : A.size + 1 ≤ c ∧ c < A.size + 1 + k
    · rw [if_pos h1, if_pos (by omega)]
    · rw [if_neg h1]
      by_cases h2 : c = A.size
      · rw [if_pos h2, if_pos (by omega)]
      · rw [if_neg h2, if_neg (by omega)]

def hset (b : Bool) (r : Nat) (x : AObj) (A : AW) : AW := bif b then A.set r x else A
theorem hset_get (b : Bool) (r : Nat) (x : AObj) (A : AW) (c : Nat) : (hset b r x A).get c = if b = true ∧ c = r then x else A.get c := by
  cases b with
  | false => simp [hset]
  | true =>
    show (A.set r x).get c = _
    rw [AW.get_set]
    simp
theorem hset_size (b : Bool) (r : Nat) (x : AObj) (A : AW) : (hset b r x A).size = A.size := by cases b <;> rfl
theorem hset_nx (b : Bool) (r : Nat) (x : AObj) (A : AW) : (hset b r x A).nx = A.nx := by cases b <;> rfl

/-- What is made at a number that is kept. -/
theorem at_push (A : AW) (r : Nat) (x : AObj) : (((A.at (some r)).push x).at none).size = A.size ∧ (((A.at (some r)).push x).at none).nx = none ∧ ∀ c, (((A.at (some r)).push x).at none).get c = if c = r then x else A.get c := by
  refine ⟨rfl, rfl, fun c => ?_⟩
  have := AW.get_push (A.at (some r)) c x
  exact this
end Go.Abs

namespace Go.Proofs.Ytmgadeebncpaoaa
open Go.Abs Go.RowKit

def cells1 (w : Int) : List Value := [.int .u64 w, .int .u64 0, .int .u64 0, .int .u64 0, .int .u64 0, .int .u64 0, .int .u64 0, .int .u64 0, .int .u64 0, .int .u64 0, .int .u64 0, .int .u64 0, .int .u64 0]
def cells2 (w : Int) : List Value := [.int .u64 0, .int .u64 0, .int .u64 w, .int .u64 0, .int .u64 0, .int .u64 0, .int .u64 0, .int .u64 0, .int .u64 0, .int .u64 0, .int .u64 0, .int .u64 0, .int .u64 0]

/-- The heap behind the operations of m. -/
def HF (A : AW) (w : Int) (m : Nat) : AW :=
  hset (m.testBit 9) (A.size + 3) (.cells [.pointer (bif m.testBit 11 then some ⟨A.size + 1, 0, none⟩ else none)] false false 1)
  (hset (m.testBit 8) (A.size + 2) (.cells [.pointer (bif m.testBit 10 then some ⟨A.size, 0, none⟩ else none)] false false 1)
  (hset (m.testBit 7) (A.size + 1) (.cells (cells2 w) false false 1)
  (hset (m.testBit 3) A.size (.cells (cells1 w) false false 1) (A.keep 4))))

theorem HF_size (A : AW) (w : Int) (m : Nat) : (HF A w m).size = A.size + 4 := by
  unfold HF
  rw [hset_size, hset_size, hset_size, hset_size, AW.keep_size]
theorem HF_nx (A : AW) (h : A.nx = none) (w : Int) (m : Nat) : (HF A w m).nx = none := by
  unfold HF
  rw [hset_nx, hset_nx, hset_nx, hset_nx, AW.keep_nx _ _ h]
theorem HF_get (A : AW) (w : Int) (m c : Nat) : (HF A w m).get c =
    if m.testBit 9 = true ∧ c = A.size + 3 then .cells [.pointer (bif m.testBit 11 then some ⟨A.size + 1, 0, none⟩ else none)] false false 1
    else if m.testBit 8 = true ∧ c = A.size + 2 then .cells [.pointer (bif m.testBit 10 then some ⟨A.size, 0, none⟩ else none)] false false 1
    else if m.testBit 7 = true ∧ c = A.size + 1 then .cells (cells2 w) false false 1
    else if m.testBit 3 = true ∧ c = A.size then .cells (cells1 w) false false 1
    else if A.size ≤ c ∧ c < A.size + 4 then .resv else A.get c := by
  unfold HF
  rw [hset_get, hset_get, hset_get, hset_get, AW.keep_get]
theorem HF_old (A : AW) (w : Int) (m c : Nat) (h : c < A.size) : (HF A w m).get c = A.get c := by
  rw [HF_get, if_neg (by omega), if_neg (by omega), if_neg (by omega), if_neg (by omega), if_neg (by omega)]

section
variable {P : Program} {A : AW} {w : Int} {m : Nat}
/-- A new block at one of the four numbers. -/
theorem HF_new (hnx : A.nx = none) {j : Nat} {d : Nat} {x : AObj} (hd : d < 4) (hj : m.testBit j = false) (hres : (HF A w m).get (A.size + d) = .resv) (hx : ∀ c, (HF A w (m ||| 2 ^ j)).get c = if c = A.size + d then x else (HF A w m).get c) :
    ((HF A w m).get (A.size + d)).isResv = true ∧ Nat.blt (A.size + d) (HF A w m).size = true ∧ AEq (((((HF A w m).at (some (A.size + d))).push x)).at none) (HF A w (m ||| 2 ^ j)) := by
  obtain ⟨h1, h2, h3⟩ := at_push (HF A w m) (A.size + d) x
  refine ⟨by rw [hres]; rfl, Nat.ble_eq_true_of_le (by rw [HF_size]; omega), ⟨by rw [h1, HF_size, HF_size], by rw [h2, HF_nx A hnx], fun c => by rw [h3, hx]⟩⟩
end
end Go.Proofs.Ytmgadeebncpaoaa
