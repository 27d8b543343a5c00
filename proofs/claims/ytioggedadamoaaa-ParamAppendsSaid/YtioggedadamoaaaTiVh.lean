/- varint.Size, hostlerref01.Size, Short. -/
import Derived.Test.YtioggedadamoaaaTiVg
set_option autoImplicit false
set_option linter.unusedVariables false
set_option linter.unusedSimpArgs false
namespace Go.Proofs.Ytioggedadamoaaa
open Go.Abs Go.RowKit
section
variable {pre : FuncId → Option (List Value → AW → Option (Value × AW))} {dr : CallF → Array Oper → Array Value → AW → Option (Array Value × AW)} {A : AW} {m : Nat}
def clsN (x : Int) : Nat := if x ≤ 63 then 0 else if x ≤ 16383 then 1 else if x ≤ 1073741823 then 2 else if x ≤ 4611686018427387903 then 3 else 4
theorem classOf_eq (x : Int) : classOf x = (clsN x : Int) := by
  unfold classOf clsN
  repeat' split
  all_goals rfl
def szOf (x : Int) : Nat := if clsN x < 4 then 2 ^ clsN x else 0
theorem clsN_le (x : Int) : clsN x = 0 ∨ clsN x = 1 ∨ clsN x = 2 ∨ clsN x = 3 ∨ clsN x = 4 := by
  unfold clsN
  repeat' split
  all_goals simp
theorem clsN_in {x : Int} {c : Nat} (h0 : 0 ≤ x) (h : clsN x = c) (hc : c < 4) : inC c x := by
  unfold clsN at h
  refine ⟨h0, ?_⟩
  have hc4 : c = 0 ∨ c = 1 ∨ c = 2 ∨ c = 3 := by omega
  rcases hc4 with rfl | rfl | rfl | rfl
  · show x < 64
    split at h <;> first | omega | (repeat' (split at h)) <;> omega
  · show x < 16384
    (repeat' (split at h)) <;> omega
  · show x < 1073741824
    (repeat' (split at h)) <;> omega
  · show x < 4611686018427387904
    (repeat' (split at h)) <;> omega
theorem f15_spec (hp : pre 15 = none) (x : Int) : acall Try.prog pre dr 100000 (m + 1) 15 [.int .u64 x] A = some (.int .i64 ((szOf x : Nat) : Int), A) := by
  suffices hs : ∃ v' A', acall Try.prog pre dr 100000 (m + 1) 15 [.int .u64 x] A = some (v', A') ∧ (v' = .int .i64 ((szOf x : Nat) : Int) ∧ A' = A) by
    obtain ⟨v', A', e, rfl, rfl⟩ := hs
    exact e
  refine J.fn (fn := Try.f15) hp Try.func15 rfl (bl rfl) ?_
  refine J.sr ?_
  refine EO.run 1 [0, 2] (S2 := [(0, .int .u64 x), (2, .int .i64 0)]) (A2 := A) rfl (by kernel_rfl) ?_
  refine EO.done rfl ?_
  refine J.seq ?_
  refine J.sr ?_
  refine EO.run 2 [0, 2, 4] (S2 := [(0, .int .u64 x), (2, .int .i64 0), (4, .bool (decide (x < 64)))]) (A2 := A) rfl (by kernel_rfl) ?_
  refine EO.done rfl ?_
  refine J.cond (decide (x < 64)) (by kernel_rfl) (fun h1 => ?_) (fun h1 => ?_)
  ·
    refine J.sr ?_
    refine EO.run 1 [0, 2, 4] (S2 := [(0, .int .u64 x), (2, .int .i64 1), (4, .bool (decide (x < 64)))]) (A2 := A) rfl (by kernel_rfl) ?_
    refine EO.done rfl ?_
    refine J.ret ?_
    refine thenJ_r ?_
    refine Ends_r (vs := [.int .i64 1]) (by kernel_rfl) ?_
    exact ⟨by rw [show szOf x = 1 from by simp only [decide_eq_false_iff_not, decide_eq_true_eq] at *; unfold szOf clsN; (repeat' split) <;> first | rfl | omega | (exfalso; omega)]; rfl, rfl⟩
  ·
    refine J.skip ?_
    refine thenJ_n ?_
    refine J.seq ?_
    refine J.sr ?_
    refine EO.run 2 [0, 2, 4, 6] (S2 := [(0, .int .u64 x), (2, .int .i64 0), (4, .bool (decide (x < 64))), (6, .bool (decide (x < 16384)))]) (A2 := A) rfl (by kernel_rfl) ?_
    refine EO.done rfl ?_
    refine J.cond (decide (x < 16384)) (by kernel_rfl) (fun h2 => ?_) (fun h2 => ?_)
    ·
      refine J.sr ?_
      refine EO.run 1 [0, 2, 4, 6] (S2 := [(0, .int .u64 x), (2, .int .i64 2), (4, .bool (decide (x < 64))), (6, .bool (decide (x < 16384)))]) (A2 := A) rfl (by kernel_rfl) ?_
      refine EO.done rfl ?_
      refine J.ret ?_
      refine thenJ_r ?_
      refine Ends_r (vs := [.int .i64 2]) (by kernel_rfl) ?_
      exact ⟨by rw [show szOf x = 2 from by simp only [decide_eq_false_iff_not, decide_eq_true_eq] at *; unfold szOf clsN; (repeat' split) <;> first | rfl | omega | (exfalso; omega)]; rfl, rfl⟩
    ·
      refine J.skip ?_
      refine thenJ_n ?_
      refine J.seq ?_
      refine J.sr ?_
      refine EO.run 2 [0, 2, 4, 6, 8] (S2 := [(0, .int .u64 x), (2, .int .i64 0), (4, .bool (decide (x < 64))), (6, .bool (decide (x < 16384))), (8, .bool (decide (x < 1073741824)))]) (A2 := A) rfl (by kernel_rfl) ?_
      refine EO.done rfl ?_
      refine J.cond (decide (x < 1073741824)) (by kernel_rfl) (fun h3 => ?_) (fun h3 => ?_)
      ·
        refine J.sr ?_
        refine EO.run 1 [0, 2, 4, 6, 8] (S2 := [(0, .int .u64 x), (2, .int .i64 4), (4, .bool (decide (x < 64))), (6, .bool (decide (x < 16384))), (8, .bool (decide (x < 1073741824)))]) (A2 := A) rfl (by kernel_rfl) ?_
        refine EO.done rfl ?_
        refine J.ret ?_
        refine thenJ_r ?_
        refine Ends_r (vs := [.int .i64 4]) (by kernel_rfl) ?_
        exact ⟨by rw [show szOf x = 4 from by simp only [decide_eq_false_iff_not, decide_eq_true_eq] at *; unfold szOf clsN; (repeat' split) <;> first | rfl | omega | (exfalso; omega)]; rfl, rfl⟩
      ·
        refine J.skip ?_
        refine thenJ_n ?_
        refine J.seq ?_
        refine J.sr ?_
        refine EO.run 2 [0, 2, 4, 6, 8, 10] (S2 := [(0, .int .u64 x), (2, .int .i64 0), (4, .bool (decide (x < 64))), (6, .bool (decide (x < 16384))), (8, .bool (decide (x < 1073741824))), (10, .bool (decide (x < 4611686018427387904)))]) (A2 := A) rfl (by kernel_rfl) ?_
        refine EO.done rfl ?_
        refine J.cond (decide (x < 4611686018427387904)) (by kernel_rfl) (fun h4 => ?_) (fun h4 => ?_)
        ·
          refine J.sr ?_
          refine EO.run 1 [0, 2, 4, 6, 8, 10] (S2 := [(0, .int .u64 x), (2, .int .i64 8), (4, .bool (decide (x < 64))), (6, .bool (decide (x < 16384))), (8, .bool (decide (x < 1073741824))), (10, .bool (decide (x < 4611686018427387904)))]) (A2 := A) rfl (by kernel_rfl) ?_
          refine EO.done rfl ?_
          refine J.ret ?_
          refine thenJ_r ?_
          refine Ends_r (vs := [.int .i64 8]) (by kernel_rfl) ?_
          exact ⟨by rw [show szOf x = 8 from by simp only [decide_eq_false_iff_not, decide_eq_true_eq] at *; unfold szOf clsN; (repeat' split) <;> first | rfl | omega | (exfalso; omega)]; rfl, rfl⟩
        ·
          refine J.skip ?_
          refine thenJ_n ?_
          refine J.sr ?_
          refine EO.run 1 [0, 2, 4, 6, 8, 10] (S2 := [(0, .int .u64 x), (2, .int .i64 0), (4, .bool (decide (x < 64))), (6, .bool (decide (x < 16384))), (8, .bool (decide (x < 1073741824))), (10, .bool (decide (x < 4611686018427387904)))]) (A2 := A) rfl (by kernel_rfl) ?_
          refine EO.done rfl ?_
          refine J.ret ?_
          refine Ends_r (vs := [.int .i64 0]) (by kernel_rfl) ?_
          exact ⟨by rw [show szOf x = 0 from by simp only [decide_eq_false_iff_not, decide_eq_true_eq] at *; unfold szOf clsN; (repeat' split) <;> first | rfl | omega | (exfalso; omega)]; rfl, rfl⟩
def shortOf (x : Int) : List Int := if clsN x < 4 then encC (clsN x) x else []
end
end Go.Proofs.Ytioggedadamoaaa
