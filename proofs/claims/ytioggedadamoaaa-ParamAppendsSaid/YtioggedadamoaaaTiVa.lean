/- The varint functions: classes, widths, sizes. -/
import Derived.Test.YtioggedadamoaaaAbsK
import Derived.Test.YtioggedadamoaaaAbsS
import Derived.Test.YtioggedadamoaaaProg
set_option autoImplicit false
set_option linter.unusedVariables false
set_option linter.unusedSimpArgs false
namespace Go.Proofs.Ytioggedadamoaaa
open Go.Abs Go.RowKit
section
variable {pre : FuncId → Option (List Value → AW → Option (Value × AW))} {dr : CallF → Array Oper → Array Value → AW → Option (Array Value × AW)} {A : AW} {m : Nat}
def classOf (x : Int) : Int := if x ≤ 63 then 0 else if x ≤ 16383 then 1 else if x ≤ 1073741823 then 2 else if x ≤ 4611686018427387903 then 3 else 4
theorem f27_spec (hp : pre 27 = none) (x : Int) : ∃ v A', acall Try.prog pre dr 100000 (m + 1) 27 [.int .u64 x] A = some (v, A') ∧ (v = .int .i64 (classOf x) ∧ A' = A) := by
  refine J.fn (fn := Try.f27) hp Try.func27 rfl (bl rfl) ?_
  refine J.sr ?_
  refine EO.run 1 [0, 2] (S2 := [(0, .int .u64 x), (2, .int .i64 0)]) (A2 := A) rfl (by kernel_rfl) ?_
  refine EO.done rfl ?_
  refine J.sr ?_
  refine EO.run 1 [0, 2, 3] (S2 := [(0, .int .u64 x), (2, .int .i64 0), (3, .int .i64 0)]) (A2 := A) rfl (by kernel_rfl) ?_
  refine EO.done rfl ?_
  refine J.seq ?_
  refine J.block ?_
  refine J.unroll ?_
  refine JL.step ?_
  refine J.seq ?_
  refine J.sr ?_
  refine EO.run 10 [0, 2, 3, 6, 13] (S2 := [(0, .int .u64 x), (2, .int .i64 0), (3, .int .i64 0), (6, .bool true), (13, .bool (decide (x > 63)))]) (A2 := A) rfl (by kernel_rfl) ?_
  generalize hb1 : (decide (x > 63)) = b1
  cases b1
  ·
    refine EO.run 34 [0, 2, 3, 37] (S2 := [(0, .int .u64 x), (2, .int .i64 0), (3, .int .i64 0), (37, .bool false)]) (A2 := A) rfl (by kernel_rfl) ?_
    refine EO.done rfl ?_
    refine J.cond false (by kernel_rfl) (fun h => Bool.noConfusion h) (fun _ => ?_)
    refine J.exit ?_
    refine thenJ_e ?_
    refine loopQ_e ?_
    refine blockQ_hit ?_
    refine thenJ_n ?_
    refine J.sr ?_
    refine EO.run 2 [0, 2, 3, 37] (S2 := [(0, .int .u64 x), (2, .int .i64 0), (3, .int .i64 0), (37, .bool false)]) (A2 := A) rfl (by kernel_rfl) ?_
    refine EO.done rfl ?_
    refine J.ret ?_
    refine Ends_r (vs := [.int .i64 0]) (by kernel_rfl) ?_
    exact ⟨by rw [show classOf x = 0 from by unfold classOf; (repeat' split) <;> first | rfl | (exfalso; simp only [decide_eq_false_iff_not, decide_eq_true_eq] at *; omega)]; rfl, rfl⟩
  ·
    refine EO.run 34 [0, 2, 3, 37] (S2 := [(0, .int .u64 x), (2, .int .i64 0), (3, .int .i64 0), (37, .bool true)]) (A2 := A) rfl (by kernel_rfl) ?_
    refine EO.done rfl ?_
    refine J.cond true (by kernel_rfl) (fun _ => ?_) (fun h => Bool.noConfusion h)
    refine J.skip ?_
    refine thenJ_n ?_
    refine J.block ?_
    refine J.region ?_
    refine EO.run 3 [0, 2, 3, 37] (S2 := [(0, .int .u64 x), (2, .int .i64 0), (3, .int .i64 1), (37, .bool true)]) (A2 := A) rfl (by kernel_rfl) ?_
    refine EO.done rfl ?_
    refine blockQ_n ?_
    refine loopQ_n ?_
    refine JL.step ?_
    refine J.seq ?_
    refine J.sr ?_
    refine EO.run 18 [0, 2, 3, 6, 21, 37] (S2 := [(0, .int .u64 x), (2, .int .i64 0), (3, .int .i64 1), (6, .bool true), (21, .bool (decide (x > 16383))), (37, .bool true)]) (A2 := A) rfl (by kernel_rfl) ?_
    generalize hb2 : (decide (x > 16383)) = b2
    cases b2
    ·
      refine EO.run 34 [0, 2, 3, 37] (S2 := [(0, .int .u64 x), (2, .int .i64 0), (3, .int .i64 1), (37, .bool false)]) (A2 := A) rfl (by kernel_rfl) ?_
      refine EO.done rfl ?_
      refine J.cond false (by kernel_rfl) (fun h => Bool.noConfusion h) (fun _ => ?_)
      refine J.exit ?_
      refine thenJ_e ?_
      refine loopQ_e ?_
      refine blockQ_hit ?_
      refine thenJ_n ?_
      refine J.sr ?_
      refine EO.run 2 [0, 2, 3, 37] (S2 := [(0, .int .u64 x), (2, .int .i64 1), (3, .int .i64 1), (37, .bool false)]) (A2 := A) rfl (by kernel_rfl) ?_
      refine EO.done rfl ?_
      refine J.ret ?_
      refine Ends_r (vs := [.int .i64 1]) (by kernel_rfl) ?_
      exact ⟨by rw [show classOf x = 1 from by unfold classOf; (repeat' split) <;> first | rfl | (exfalso; simp only [decide_eq_false_iff_not, decide_eq_true_eq] at *; omega)]; rfl, rfl⟩
    ·
      refine EO.run 34 [0, 2, 3, 37] (S2 := [(0, .int .u64 x), (2, .int .i64 0), (3, .int .i64 1), (37, .bool true)]) (A2 := A) rfl (by kernel_rfl) ?_
      refine EO.done rfl ?_
      refine J.cond true (by kernel_rfl) (fun _ => ?_) (fun h => Bool.noConfusion h)
      refine J.skip ?_
      refine thenJ_n ?_
      refine J.block ?_
      refine J.region ?_
      refine EO.run 3 [0, 2, 3, 37] (S2 := [(0, .int .u64 x), (2, .int .i64 0), (3, .int .i64 2), (37, .bool true)]) (A2 := A) rfl (by kernel_rfl) ?_
      refine EO.done rfl ?_
      refine blockQ_n ?_
      refine loopQ_n ?_
      refine JL.step ?_
      refine J.seq ?_
      refine J.sr ?_
      refine EO.run 26 [0, 2, 3, 6, 29, 37] (S2 := [(0, .int .u64 x), (2, .int .i64 0), (3, .int .i64 2), (6, .bool true), (29, .bool (decide (x > 1073741823))), (37, .bool true)]) (A2 := A) rfl (by kernel_rfl) ?_
      generalize hb3 : (decide (x > 1073741823)) = b3
      cases b3
      ·
        refine EO.run 34 [0, 2, 3, 37] (S2 := [(0, .int .u64 x), (2, .int .i64 0), (3, .int .i64 2), (37, .bool false)]) (A2 := A) rfl (by kernel_rfl) ?_
        refine EO.done rfl ?_
        refine J.cond false (by kernel_rfl) (fun h => Bool.noConfusion h) (fun _ => ?_)
        refine J.exit ?_
        refine thenJ_e ?_
        refine loopQ_e ?_
        refine blockQ_hit ?_
        refine thenJ_n ?_
        refine J.sr ?_
        refine EO.run 2 [0, 2, 3, 37] (S2 := [(0, .int .u64 x), (2, .int .i64 2), (3, .int .i64 2), (37, .bool false)]) (A2 := A) rfl (by kernel_rfl) ?_
        refine EO.done rfl ?_
        refine J.ret ?_
        refine Ends_r (vs := [.int .i64 2]) (by kernel_rfl) ?_
        exact ⟨by rw [show classOf x = 2 from by unfold classOf; (repeat' split) <;> first | rfl | (exfalso; simp only [decide_eq_false_iff_not, decide_eq_true_eq] at *; omega)]; rfl, rfl⟩
      ·
        refine EO.run 34 [0, 2, 3, 37] (S2 := [(0, .int .u64 x), (2, .int .i64 0), (3, .int .i64 2), (37, .bool true)]) (A2 := A) rfl (by kernel_rfl) ?_
        refine EO.done rfl ?_
        refine J.cond true (by kernel_rfl) (fun _ => ?_) (fun h => Bool.noConfusion h)
        refine J.skip ?_
        refine thenJ_n ?_
        refine J.block ?_
        refine J.region ?_
        refine EO.run 3 [0, 2, 3, 37] (S2 := [(0, .int .u64 x), (2, .int .i64 0), (3, .int .i64 3), (37, .bool true)]) (A2 := A) rfl (by kernel_rfl) ?_
        refine EO.done rfl ?_
        refine blockQ_n ?_
        refine loopQ_n ?_
        refine JL.step ?_
        refine J.seq ?_
        refine J.sr ?_
        refine EO.run 34 [0, 2, 3, 37] (S2 := [(0, .int .u64 x), (2, .int .i64 0), (3, .int .i64 3), (37, .bool (decide (x > 4611686018427387903)))]) (A2 := A) rfl (by kernel_rfl) ?_
        refine EO.done rfl ?_
        refine J.cond (decide (x > 4611686018427387903)) (by kernel_rfl) (fun h4 => ?_) (fun h4 => ?_)
        ·
          refine J.skip ?_
          refine thenJ_n ?_
          refine J.block ?_
          refine J.region ?_
          refine EO.run 3 [0, 2, 3, 37] (S2 := [(0, .int .u64 x), (2, .int .i64 0), (3, .int .i64 4), (37, .bool (decide (x > 4611686018427387903)))]) (A2 := A) rfl (by kernel_rfl) ?_
          refine EO.done rfl ?_
          refine blockQ_n ?_
          refine loopQ_n ?_
          refine JL.step ?_
          refine J.seq ?_
          refine J.sr ?_
          refine EO.run 34 [0, 2, 3, 37] (S2 := [(0, .int .u64 x), (2, .int .i64 0), (3, .int .i64 4), (37, .bool false)]) (A2 := A) rfl (by kernel_rfl) ?_
          refine EO.done rfl ?_
          refine J.cond false (by kernel_rfl) (fun h => Bool.noConfusion h) (fun _ => ?_)
          refine J.exit ?_
          refine thenJ_e ?_
          refine loopQ_e ?_
          refine blockQ_hit ?_
          refine thenJ_n ?_
          refine J.sr ?_
          refine EO.run 2 [0, 2, 3, 37] (S2 := [(0, .int .u64 x), (2, .int .i64 4), (3, .int .i64 4), (37, .bool false)]) (A2 := A) rfl (by kernel_rfl) ?_
          refine EO.done rfl ?_
          refine J.ret ?_
          refine Ends_r (vs := [.int .i64 4]) (by kernel_rfl) ?_
          exact ⟨by rw [show classOf x = 4 from by unfold classOf; (repeat' split) <;> first | rfl | (exfalso; simp only [decide_eq_false_iff_not, decide_eq_true_eq] at *; omega)]; rfl, rfl⟩
        ·
          refine J.exit ?_
          refine thenJ_e ?_
          refine loopQ_e ?_
          refine blockQ_hit ?_
          refine thenJ_n ?_
          refine J.sr ?_
          refine EO.run 2 [0, 2, 3, 37] (S2 := [(0, .int .u64 x), (2, .int .i64 3), (3, .int .i64 3), (37, .bool (decide (x > 4611686018427387903)))]) (A2 := A) rfl (by kernel_rfl) ?_
          refine EO.done rfl ?_
          refine J.ret ?_
          refine Ends_r (vs := [.int .i64 3]) (by kernel_rfl) ?_
          exact ⟨by rw [show classOf x = 3 from by unfold classOf; (repeat' split) <;> first | rfl | (exfalso; simp only [decide_eq_false_iff_not, decide_eq_true_eq] at *; omega)]; rfl, rfl⟩
theorem f25_spec (hp : pre 25 = none) (c : Nat) (hc : c < 4) : ∃ v A', acall Try.prog pre dr 100000 (m + 1) 25 [.int .i64 c] A = some (v, A') ∧ (v = .int .i64 ((2 ^ c : Nat) : Int) ∧ A' = A) := by
  have hc4 : c = 0 ∨ c = 1 ∨ c = 2 ∨ c = 3 := by omega
  rcases hc4 with rfl | rfl | rfl | rfl
  · refine J.fn (fn := Try.f25) hp Try.func25 rfl (bl rfl) ?_
    refine J.sr ?_
    refine EO.run 1 [0, 2] (S2 := [(0, .int .i64 0), (2, .int .i64 0)]) (A2 := A) rfl (by kernel_rfl) ?_
    refine EO.done rfl ?_
    refine J.sr ?_
    refine EO.run 3 [0, 2] (S2 := [(0, .int .i64 0), (2, .int .i64 1)]) (A2 := A) rfl (by kernel_rfl) ?_
    refine EO.done rfl ?_
    refine J.ret ?_
    refine Ends_r (vs := [.int .i64 1]) (by kernel_rfl) ?_
    exact ⟨rfl, rfl⟩
  · refine J.fn (fn := Try.f25) hp Try.func25 rfl (bl rfl) ?_
    refine J.sr ?_
    refine EO.run 1 [0, 2] (S2 := [(0, .int .i64 1), (2, .int .i64 0)]) (A2 := A) rfl (by kernel_rfl) ?_
    refine EO.done rfl ?_
    refine J.sr ?_
    refine EO.run 3 [0, 2] (S2 := [(0, .int .i64 1), (2, .int .i64 2)]) (A2 := A) rfl (by kernel_rfl) ?_
    refine EO.done rfl ?_
    refine J.ret ?_
    refine Ends_r (vs := [.int .i64 2]) (by kernel_rfl) ?_
    exact ⟨rfl, rfl⟩
  · refine J.fn (fn := Try.f25) hp Try.func25 rfl (bl rfl) ?_
    refine J.sr ?_
    refine EO.run 1 [0, 2] (S2 := [(0, .int .i64 2), (2, .int .i64 0)]) (A2 := A) rfl (by kernel_rfl) ?_
    refine EO.done rfl ?_
    refine J.sr ?_
    refine EO.run 3 [0, 2] (S2 := [(0, .int .i64 2), (2, .int .i64 4)]) (A2 := A) rfl (by kernel_rfl) ?_
    refine EO.done rfl ?_
    refine J.ret ?_
    refine Ends_r (vs := [.int .i64 4]) (by kernel_rfl) ?_
    exact ⟨rfl, rfl⟩
  · refine J.fn (fn := Try.f25) hp Try.func25 rfl (bl rfl) ?_
    refine J.sr ?_
    refine EO.run 1 [0, 2] (S2 := [(0, .int .i64 3), (2, .int .i64 0)]) (A2 := A) rfl (by kernel_rfl) ?_
    refine EO.done rfl ?_
    refine J.sr ?_
    refine EO.run 3 [0, 2] (S2 := [(0, .int .i64 3), (2, .int .i64 8)]) (A2 := A) rfl (by kernel_rfl) ?_
    refine EO.done rfl ?_
    refine J.ret ?_
    refine Ends_r (vs := [.int .i64 8]) (by kernel_rfl) ?_
    exact ⟨rfl, rfl⟩
theorem f25_spec_eq (hp : pre 25 = none) (c : Nat) (hc : c < 4) : acall Try.prog pre dr 100000 (m + 1) 25 [.int .i64 c] A = some (.int .i64 ((2 ^ c : Nat) : Int), A) := by
  obtain ⟨v, A', h, rfl, rfl⟩ := f25_spec (pre := pre) (dr := dr) (A := A) (m := m) hp c hc
  exact h
theorem f27_spec_eq (hp : pre 27 = none) (x : Int) : acall Try.prog pre dr 100000 (m + 1) 27 [.int .u64 x] A = some (.int .i64 (classOf x), A) := by
  obtain ⟨v, A', h, rfl, rfl⟩ := f27_spec (pre := pre) (dr := dr) (A := A) (m := m) hp x
  exact h
end
end Go.Proofs.Ytioggedadamoaaa
