/- flow: the pair, as it is made. -/
import Derived.Test.YtmgadeebncpaoaaTiFf
set_option autoImplicit false
set_option linter.unusedVariables false
set_option linter.unusedSimpArgs false
namespace Go.Proofs.Ytmgadeebncpaoaa
open Go.Abs Go.RowKit

theorem HF_ext {A : AW} (hnx : A.nx = none) (w : Int) (m : Nat) : AExt A (HF A w m) :=
  ⟨by rw [HF_size]; omega, fun b hb => HF_old A w m b hb, fun _ => HF_nx A hnx w m⟩

theorem two_made {A : AW} (hnx : A.nx = none) {b7 : Nat} {w : Int} (h7 : b7 < A.size) (hg7 : A.get b7 = .cells [.int .u64 w] false false 1) : Two (HF A w 3976) b7 A.size (A.size + 1) (A.size + 2) (A.size + 3) w w 0 w 0 0 := by
  have t3 : (3976 : Nat).testBit 3 = true := by decide
  have t7 : (3976 : Nat).testBit 7 = true := by decide
  have t8 : (3976 : Nat).testBit 8 = true := by decide
  have t9 : (3976 : Nat).testBit 9 = true := by decide
  have t10 : (3976 : Nat).testBit 10 = true := by decide
  have t11 : (3976 : Nat).testBit 11 = true := by decide
  refine ⟨HF_nx A hnx w _, ⟨by omega, by omega, by omega, by omega, by omega, by omega, by omega⟩, ⟨by rw [HF_size]; omega, by rw [HF_size]; omega, by rw [HF_size]; omega⟩, ?_, ?_, ?_, ⟨by rw [HF_size]; omega, ?_⟩, ⟨by rw [HF_size]; omega, ?_⟩⟩
  · rw [HF_old A w _ b7 h7]; exact hg7
  · rw [HF_get]; simp [t3, t7, t8, t9, t10, t11]
  · rw [HF_get]; simp [t3, t7, t8, t9, t10, t11]
  · refine ⟨[.int .u64 0, .int .u64 0, .int .u64 0, .int .u64 0, .int .u64 0, .int .u64 0, .int .u64 0, .int .u64 0], rfl, ?_⟩
    rw [HF_get]; simp [t3, t7, t8, t9, t10, t11, cells1]
  · refine ⟨[.int .u64 0, .int .u64 0, .int .u64 0, .int .u64 0, .int .u64 0, .int .u64 0, .int .u64 0, .int .u64 0], rfl, ?_⟩
    rw [HF_get]; simp [t3, t7, t8, t9, t10, t11, cells2]

theorem sumOf_one {n : Int} (h0 : 0 ≤ n) (h1 : n ≤ 4611686018427387903) : sumOf [n] = n := by
  have e : mnV n = n := by unfold mnV; rw [if_neg (by omega)]
  show mnV (0 + mnV n) = n
  rw [e, Int.zero_add, e]

/-- What Use does to what is read, all being small. -/
theorem useOf_small {re ca s : Int} (h0 : 0 ≤ re) (h1 : 0 ≤ s) (h2 : re + s ≤ 4611686018427387903) : useOf re ca s = if ca < re + s then ca else re + s := by
  have e1 : mnV re = re := by unfold mnV; rw [if_neg (by omega)]
  have e2 : mnV s = s := by unfold mnV; rw [if_neg (by omega)]
  have e3 : mnV (re + s) = re + s := by unfold mnV; rw [if_neg (by omega)]
  have e : sumOf [re, s] = re + s := by
    show mnV (mnV (0 + mnV re) + mnV s) = re + s
    rw [e1, Int.zero_add, e1, e2, e3]
  unfold useOf
  rw [e]

theorem wantOf_small {re w : Int} (h : 0 ≤ re + w) (h2 : re + w ≤ 4611686018427387903) : wantOf re w = re + w := by
  unfold wantOf mnV
  rw [if_neg (by omega)]

theorem allowOf_small {sm n : Int} (h0 : 0 ≤ n) (h1 : n ≤ 4611686018427387903) (h : sm < n) : allowOf sm n = n := by
  have e : mnV n = n := by unfold mnV; rw [if_neg (by omega)]
  unfold allowOf
  rw [e, if_pos (by omega)]

theorem freshOf_le {sm se : Int} (h : se ≤ sm) : freshOf sm se = sm - se := by
  unfold freshOf
  rw [if_neg (by omega)]
end Go.Proofs.Ytmgadeebncpaoaa
