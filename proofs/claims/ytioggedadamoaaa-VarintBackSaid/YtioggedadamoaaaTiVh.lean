/- varint.Size, hostlerref01.Size, Short. -/
import Derived.Test.YtioggedadamoaaaTiVg
set_option autoImplicit false
set_option linter.unusedVariables false
set_option linter.unusedSimpArgs false
namespace Go.Proofs.Ytioggedadamoaaa
open Go.Abs Go.RowKit

section
variable {pre : FuncId → Option (List Value → AW → Option (Value × AW))} {dr : CallF → Array Oper → Array Value → AW → Option (Array Value × AW)} {A : AW} {m : Nat}


/-- A number's class; 4: it has none. -/
def clsN (x : Int) : Nat := if x ≤ 63 then 0 else if x ≤ 16383 then 1 else if x ≤ 1073741823 then 2 else if x ≤ 4611686018427387903 then 3 else 4
theorem classOf_eq (x : Int) : classOf x = (clsN x : Int) := by
  unfold classOf clsN
  repeat' split
  all_goals rfl
/-- How many bytes it has; none: 0. -/
def szOf (x : Int) : Nat := if clsN x < 4 then 2 ^ clsN x else 0
theorem clsN_le (x : Int) : clsN x = 0 ∨ clsN x = 1 ∨ clsN x = 2 ∨ clsN x = 3 ∨ clsN x = 4 := by
  unfold clsN
  repeat' split
  all_goals simp
theorem clsN_in {x : Int} {c : Nat} (h0 : 0 ≤ x) (h : clsN x = c) (hc : c < 4) : inC c x := by
  unfold clsN at h
  refine ⟨h0, ?_⟩
  have hc4 : c = 0 ∨ c = 1 ∨ c = 2 ∨ c = 3 := by omega
  rcases hc4 with rfl | rfl | rfl | rfl
  · show x < 64
    split at h <;> first | omega | (repeat' (split at h)) <;> omega
  · show x < 16384
    (repeat' (split at h)) <;> omega
  · show x < 1073741824
    (repeat' (split at h)) <;> omega
  · show x < 4611686018427387904
    (repeat' (split at h)) <;> omega
theorem szOf_pos {x : Int} : (0 < szOf x) ↔ clsN x < 4 := by
  unfold szOf
  split
  · rename_i h
    exact ⟨fun _ => h, fun _ => Nat.two_pow_pos _⟩
  · rename_i h
    exact ⟨fun k => by omega, fun k => absurd k h⟩

theorem f15_spec (hp : pre 15 = none) (x : Int) : acall Try.prog pre dr 100000 (m + 1) 15 [.int .u64 x] A = some (.int .i64 ((szOf x : Nat) : Int), A) := by
  suffices hs : ∃ v' A', acall Try.prog pre dr 100000 (m + 1) 15 [.int .u64 x] A = some (v', A') ∧ (v' = .int .i64 ((szOf x : Nat) : Int) ∧ A' = A) by
    obtain ⟨v', A', e, rfl, rfl⟩ := hs
    exact e
  refine J.fn (fn := Try.f15) hp Try.func15 rfl (Nat.le_of_ble_eq_true rfl) ?_
  refine J.sr ?_
  refine EO.run 1 [0, 2] (S2 := [(0, .int .u64 x), (2, .int .i64 0)]) (A2 := A) rfl (by kernel_rfl) ?_
  refine EO.done rfl ?_
  refine J.seq ?_
  refine J.sr ?_
  refine EO.run 2 [0, 2, 4] (S2 := [(0, .int .u64 x), (2, .int .i64 0), (4, .bool (decide (x < 64)))]) (A2 := A) rfl (by kernel_rfl) ?_
  refine EO.done rfl ?_
  refine J.cond (decide (x < 64)) (by kernel_rfl) (fun h1 => ?_) (fun h1 => ?_)
  ·
    refine J.sr ?_
    refine EO.run 1 [0, 2, 4] (S2 := [(0, .int .u64 x), (2, .int .i64 1), (4, .bool (decide (x < 64)))]) (A2 := A) rfl (by kernel_rfl) ?_
    refine EO.done rfl ?_
    refine J.ret ?_
    refine thenJ_r ?_
    refine Ends_r (vs := [.int .i64 1]) (by kernel_rfl) ?_
    exact ⟨by rw [show szOf x = 1 from by simp only [decide_eq_false_iff_not, decide_eq_true_eq] at *; unfold szOf clsN; (repeat' split) <;> first | rfl | omega | (exfalso; omega)]; rfl, rfl⟩
  ·
    refine J.skip ?_
    refine thenJ_n ?_
    refine J.seq ?_
    refine J.sr ?_
    refine EO.run 2 [0, 2, 4, 6] (S2 := [(0, .int .u64 x), (2, .int .i64 0), (4, .bool (decide (x < 64))), (6, .bool (decide (x < 16384)))]) (A2 := A) rfl (by kernel_rfl) ?_
    refine EO.done rfl ?_
    refine J.cond (decide (x < 16384)) (by kernel_rfl) (fun h2 => ?_) (fun h2 => ?_)
    ·
      refine J.sr ?_
      refine EO.run 1 [0, 2, 4, 6] (S2 := [(0, .int .u64 x), (2, .int .i64 2), (4, .bool (decide (x < 64))), (6, .bool (decide (x < 16384)))]) (A2 := A) rfl (by kernel_rfl) ?_
      refine EO.done rfl ?_
      refine J.ret ?_
      refine thenJ_r ?_
      refine Ends_r (vs := [.int .i64 2]) (by kernel_rfl) ?_
      exact ⟨by rw [show szOf x = 2 from by simp only [decide_eq_false_iff_not, decide_eq_true_eq] at *; unfold szOf clsN; (repeat' split) <;> first | rfl | omega | (exfalso; omega)]; rfl, rfl⟩
    ·
      refine J.skip ?_
      refine thenJ_n ?_
      refine J.seq ?_
      refine J.sr ?_
      refine EO.run 2 [0, 2, 4, 6, 8] (S2 := [(0, .int .u64 x), (2, .int .i64 0), (4, .bool (decide (x < 64))), (6, .bool (decide (x < 16384))), (8, .bool (decide (x < 1073741824)))]) (A2 := A) rfl (by kernel_rfl) ?_
      refine EO.done rfl ?_
      refine J.cond (decide (x < 1073741824)) (by kernel_rfl) (fun h3 => ?_) (fun h3 => ?_)
      ·
        refine J.sr ?_
        refine EO.run 1 [0, 2, 4, 6, 8] (S2 := [(0, .int .u64 x), (2, .int .i64 4), (4, .bool (decide (x < 64))), (6, .bool (decide (x < 16384))), (8, .bool (decide (x < 1073741824)))]) (A2 := A) rfl (by kernel_rfl) ?_
        refine EO.done rfl ?_
        refine J.ret ?_
        refine thenJ_r ?_
        refine Ends_r (vs := [.int .i64 4]) (by kernel_rfl) ?_
        exact ⟨by rw [show szOf x = 4 from by simp only [decide_eq_false_iff_not, decide_eq_true_eq] at *; unfold szOf clsN; (repeat' split) <;> first | rfl | omega | (exfalso; omega)]; rfl, rfl⟩
      ·
        refine J.skip ?_
        refine thenJ_n ?_
        refine J.seq ?_
        refine J.sr ?_
        refine EO.run 2 [0, 2, 4, 6, 8, 10] (S2 := [(0, .int .u64 x), (2, .int .i64 0), (4, .bool (decide (x < 64))), (6, .bool (decide (x < 16384))), (8, .bool (decide (x < 1073741824))), (10, .bool (decide (x < 4611686018427387904)))]) (A2 := A) rfl (by kernel_rfl) ?_
        refine EO.done rfl ?_
        refine J.cond (decide (x < 4611686018427387904)) (by kernel_rfl) (fun h4 => ?_) (fun h4 => ?_)
        ·
          refine J.sr ?_
          refine EO.run 1 [0, 2, 4, 6, 8, 10] (S2 := [(0, .int .u64 x), (2, .int .i64 8), (4, .bool (decide (x < 64))), (6, .bool (decide (x < 16384))), (8, .bool (decide (x < 1073741824))), (10, .bool (decide (x < 4611686018427387904)))]) (A2 := A) rfl (by kernel_rfl) ?_
          refine EO.done rfl ?_
          refine J.ret ?_
          refine thenJ_r ?_
          refine Ends_r (vs := [.int .i64 8]) (by kernel_rfl) ?_
          exact ⟨by rw [show szOf x = 8 from by simp only [decide_eq_false_iff_not, decide_eq_true_eq] at *; unfold szOf clsN; (repeat' split) <;> first | rfl | omega | (exfalso; omega)]; rfl, rfl⟩
        ·
          refine J.skip ?_
          refine thenJ_n ?_
          refine J.sr ?_
          refine EO.run 1 [0, 2, 4, 6, 8, 10] (S2 := [(0, .int .u64 x), (2, .int .i64 0), (4, .bool (decide (x < 64))), (6, .bool (decide (x < 16384))), (8, .bool (decide (x < 1073741824))), (10, .bool (decide (x < 4611686018427387904)))]) (A2 := A) rfl (by kernel_rfl) ?_
          refine EO.done rfl ?_
          refine J.ret ?_
          refine Ends_r (vs := [.int .i64 0]) (by kernel_rfl) ?_
          exact ⟨by rw [show szOf x = 0 from by simp only [decide_eq_false_iff_not, decide_eq_true_eq] at *; unfold szOf clsN; (repeat' split) <;> first | rfl | omega | (exfalso; omega)]; rfl, rfl⟩

theorem f14_spec (hp : pre 14 = none) (hp25 : pre 25 = none) (hp27 : pre 27 = none) (x : Int) : acall Try.prog pre dr 100000 (m + 2) 14 [.int .u64 x] A = some (.int .i64 ((szOf x : Nat) : Int), A) := by
  suffices hs : ∃ v' A', acall Try.prog pre dr 100000 (m + 1 + 1) 14 [.int .u64 x] A = some (v', A') ∧ (v' = .int .i64 ((szOf x : Nat) : Int) ∧ A' = A) by
    obtain ⟨v', A', e, rfl, rfl⟩ := hs
    exact e
  have e27 := f27_spec_eq (pre := pre) (dr := dr) (A := A) (m := m) hp27 x
  rw [classOf_eq] at e27
  rcases clsN_le x with hc | hc | hc | hc | hc
  · rw [hc] at e27
    have hs : szOf x = 1 := by unfold szOf; rw [hc]; rfl
    refine J.fn (fn := Try.f14) hp Try.func14 rfl (Nat.le_of_ble_eq_true rfl) ?_
    refine J.sr ?_
    refine EO.run 1 [0, 2] (S2 := [(0, .int .u64 x), (2, .int .i64 0)]) (A2 := A) rfl (by kernel_rfl) ?_
    refine EO.done rfl ?_
    refine J.seq ?_
    refine J.sr ?_
    refine EO.run 1 [0, 2, 4] (S2 := [(0, .int .u64 x), (2, .int .i64 0), (4, .int .u64 x)]) (A2 := A) rfl (by kernel_rfl) ?_
    refine EO.fcall (f := 27) (vs := [.int .u64 x]) (v := .int .i64 0) (A1 := A) rfl rfl rfl rfl (by kernel_rfl) (by kernel_rfl) (e27) ?_
    refine EO.run 3 [0, 2, 3] (S2 := [(0, .int .u64 x), (2, .int .i64 0), (3, .int .i64 0)]) (A2 := A) rfl (by kernel_rfl) ?_
    refine EO.done rfl ?_
    refine J.sr ?_
    refine EO.run 2 [0, 2, 3, 7] (S2 := [(0, .int .u64 x), (2, .int .i64 0), (3, .int .i64 0), (7, .bool true)]) (A2 := A) rfl (by kernel_rfl) ?_
    refine EO.done rfl ?_
    refine J.cond true (by kernel_rfl) (fun _ => ?_) (fun h => Bool.noConfusion h)
    refine J.sr ?_
    refine EO.run 1 [0, 2, 3, 7, 8] (S2 := [(0, .int .u64 x), (2, .int .i64 0), (3, .int .i64 0), (7, .bool true), (8, .int .i64 0)]) (A2 := A) rfl (by kernel_rfl) ?_
    refine EO.fcall (f := 25) (vs := [.int .i64 0]) (v := .int .i64 1) (A1 := A) rfl rfl rfl rfl (by kernel_rfl) (by kernel_rfl) (f25_spec_eq hp25 0 (by decide)) ?_
    refine EO.run 3 [0, 2, 3, 7] (S2 := [(0, .int .u64 x), (2, .int .i64 1), (3, .int .i64 0), (7, .bool true)]) (A2 := A) rfl (by kernel_rfl) ?_
    refine EO.done rfl ?_
    refine J.ret ?_
    refine thenJ_r ?_
    refine Ends_r (vs := [.int .i64 1]) (by kernel_rfl) ?_
    exact ⟨by rw [hs]; rfl, rfl⟩
  · rw [hc] at e27
    have hs : szOf x = 2 := by unfold szOf; rw [hc]; rfl
    refine J.fn (fn := Try.f14) hp Try.func14 rfl (Nat.le_of_ble_eq_true rfl) ?_
    refine J.sr ?_
    refine EO.run 1 [0, 2] (S2 := [(0, .int .u64 x), (2, .int .i64 0)]) (A2 := A) rfl (by kernel_rfl) ?_
    refine EO.done rfl ?_
    refine J.seq ?_
    refine J.sr ?_
    refine EO.run 1 [0, 2, 4] (S2 := [(0, .int .u64 x), (2, .int .i64 0), (4, .int .u64 x)]) (A2 := A) rfl (by kernel_rfl) ?_
    refine EO.fcall (f := 27) (vs := [.int .u64 x]) (v := .int .i64 1) (A1 := A) rfl rfl rfl rfl (by kernel_rfl) (by kernel_rfl) (e27) ?_
    refine EO.run 3 [0, 2, 3] (S2 := [(0, .int .u64 x), (2, .int .i64 0), (3, .int .i64 1)]) (A2 := A) rfl (by kernel_rfl) ?_
    refine EO.done rfl ?_
    refine J.sr ?_
    refine EO.run 2 [0, 2, 3, 7] (S2 := [(0, .int .u64 x), (2, .int .i64 0), (3, .int .i64 1), (7, .bool true)]) (A2 := A) rfl (by kernel_rfl) ?_
    refine EO.done rfl ?_
    refine J.cond true (by kernel_rfl) (fun _ => ?_) (fun h => Bool.noConfusion h)
    refine J.sr ?_
    refine EO.run 1 [0, 2, 3, 7, 8] (S2 := [(0, .int .u64 x), (2, .int .i64 0), (3, .int .i64 1), (7, .bool true), (8, .int .i64 1)]) (A2 := A) rfl (by kernel_rfl) ?_
    refine EO.fcall (f := 25) (vs := [.int .i64 1]) (v := .int .i64 2) (A1 := A) rfl rfl rfl rfl (by kernel_rfl) (by kernel_rfl) (f25_spec_eq hp25 1 (by decide)) ?_
    refine EO.run 3 [0, 2, 3, 7] (S2 := [(0, .int .u64 x), (2, .int .i64 2), (3, .int .i64 1), (7, .bool true)]) (A2 := A) rfl (by kernel_rfl) ?_
    refine EO.done rfl ?_
    refine J.ret ?_
    refine thenJ_r ?_
    refine Ends_r (vs := [.int .i64 2]) (by kernel_rfl) ?_
    exact ⟨by rw [hs]; rfl, rfl⟩
  · rw [hc] at e27
    have hs : szOf x = 4 := by unfold szOf; rw [hc]; rfl
    refine J.fn (fn := Try.f14) hp Try.func14 rfl (Nat.le_of_ble_eq_true rfl) ?_
    refine J.sr ?_
    refine EO.run 1 [0, 2] (S2 := [(0, .int .u64 x), (2, .int .i64 0)]) (A2 := A) rfl (by kernel_rfl) ?_
    refine EO.done rfl ?_
    refine J.seq ?_
    refine J.sr ?_
    refine EO.run 1 [0, 2, 4] (S2 := [(0, .int .u64 x), (2, .int .i64 0), (4, .int .u64 x)]) (A2 := A) rfl (by kernel_rfl) ?_
    refine EO.fcall (f := 27) (vs := [.int .u64 x]) (v := .int .i64 2) (A1 := A) rfl rfl rfl rfl (by kernel_rfl) (by kernel_rfl) (e27) ?_
    refine EO.run 3 [0, 2, 3] (S2 := [(0, .int .u64 x), (2, .int .i64 0), (3, .int .i64 2)]) (A2 := A) rfl (by kernel_rfl) ?_
    refine EO.done rfl ?_
    refine J.sr ?_
    refine EO.run 2 [0, 2, 3, 7] (S2 := [(0, .int .u64 x), (2, .int .i64 0), (3, .int .i64 2), (7, .bool true)]) (A2 := A) rfl (by kernel_rfl) ?_
    refine EO.done rfl ?_
    refine J.cond true (by kernel_rfl) (fun _ => ?_) (fun h => Bool.noConfusion h)
    refine J.sr ?_
    refine EO.run 1 [0, 2, 3, 7, 8] (S2 := [(0, .int .u64 x), (2, .int .i64 0), (3, .int .i64 2), (7, .bool true), (8, .int .i64 2)]) (A2 := A) rfl (by kernel_rfl) ?_
    refine EO.fcall (f := 25) (vs := [.int .i64 2]) (v := .int .i64 4) (A1 := A) rfl rfl rfl rfl (by kernel_rfl) (by kernel_rfl) (f25_spec_eq hp25 2 (by decide)) ?_
    refine EO.run 3 [0, 2, 3, 7] (S2 := [(0, .int .u64 x), (2, .int .i64 4), (3, .int .i64 2), (7, .bool true)]) (A2 := A) rfl (by kernel_rfl) ?_
    refine EO.done rfl ?_
    refine J.ret ?_
    refine thenJ_r ?_
    refine Ends_r (vs := [.int .i64 4]) (by kernel_rfl) ?_
    exact ⟨by rw [hs]; rfl, rfl⟩
  · rw [hc] at e27
    have hs : szOf x = 8 := by unfold szOf; rw [hc]; rfl
    refine J.fn (fn := Try.f14) hp Try.func14 rfl (Nat.le_of_ble_eq_true rfl) ?_
    refine J.sr ?_
    refine EO.run 1 [0, 2] (S2 := [(0, .int .u64 x), (2, .int .i64 0)]) (A2 := A) rfl (by kernel_rfl) ?_
    refine EO.done rfl ?_
    refine J.seq ?_
    refine J.sr ?_
    refine EO.run 1 [0, 2, 4] (S2 := [(0, .int .u64 x), (2, .int .i64 0), (4, .int .u64 x)]) (A2 := A) rfl (by kernel_rfl) ?_
    refine EO.fcall (f := 27) (vs := [.int .u64 x]) (v := .int .i64 3) (A1 := A) rfl rfl rfl rfl (by kernel_rfl) (by kernel_rfl) (e27) ?_
    refine EO.run 3 [0, 2, 3] (S2 := [(0, .int .u64 x), (2, .int .i64 0), (3, .int .i64 3)]) (A2 := A) rfl (by kernel_rfl) ?_
    refine EO.done rfl ?_
    refine J.sr ?_
    refine EO.run 2 [0, 2, 3, 7] (S2 := [(0, .int .u64 x), (2, .int .i64 0), (3, .int .i64 3), (7, .bool true)]) (A2 := A) rfl (by kernel_rfl) ?_
    refine EO.done rfl ?_
    refine J.cond true (by kernel_rfl) (fun _ => ?_) (fun h => Bool.noConfusion h)
    refine J.sr ?_
    refine EO.run 1 [0, 2, 3, 7, 8] (S2 := [(0, .int .u64 x), (2, .int .i64 0), (3, .int .i64 3), (7, .bool true), (8, .int .i64 3)]) (A2 := A) rfl (by kernel_rfl) ?_
    refine EO.fcall (f := 25) (vs := [.int .i64 3]) (v := .int .i64 8) (A1 := A) rfl rfl rfl rfl (by kernel_rfl) (by kernel_rfl) (f25_spec_eq hp25 3 (by decide)) ?_
    refine EO.run 3 [0, 2, 3, 7] (S2 := [(0, .int .u64 x), (2, .int .i64 8), (3, .int .i64 3), (7, .bool true)]) (A2 := A) rfl (by kernel_rfl) ?_
    refine EO.done rfl ?_
    refine J.ret ?_
    refine thenJ_r ?_
    refine Ends_r (vs := [.int .i64 8]) (by kernel_rfl) ?_
    exact ⟨by rw [hs]; rfl, rfl⟩
  · rw [hc] at e27
    have hs : szOf x = 0 := by unfold szOf; rw [hc]; rfl
    refine J.fn (fn := Try.f14) hp Try.func14 rfl (Nat.le_of_ble_eq_true rfl) ?_
    refine J.sr ?_
    refine EO.run 1 [0, 2] (S2 := [(0, .int .u64 x), (2, .int .i64 0)]) (A2 := A) rfl (by kernel_rfl) ?_
    refine EO.done rfl ?_
    refine J.seq ?_
    refine J.sr ?_
    refine EO.run 1 [0, 2, 4] (S2 := [(0, .int .u64 x), (2, .int .i64 0), (4, .int .u64 x)]) (A2 := A) rfl (by kernel_rfl) ?_
    refine EO.fcall (f := 27) (vs := [.int .u64 x]) (v := .int .i64 4) (A1 := A) rfl rfl rfl rfl (by kernel_rfl) (by kernel_rfl) (e27) ?_
    refine EO.run 3 [0, 2, 3] (S2 := [(0, .int .u64 x), (2, .int .i64 0), (3, .int .i64 4)]) (A2 := A) rfl (by kernel_rfl) ?_
    refine EO.done rfl ?_
    refine J.sr ?_
    refine EO.run 2 [0, 2, 3, 7] (S2 := [(0, .int .u64 x), (2, .int .i64 0), (3, .int .i64 4), (7, .bool false)]) (A2 := A) rfl (by kernel_rfl) ?_
    refine EO.done rfl ?_
    refine J.cond false (by kernel_rfl) (fun h => Bool.noConfusion h) (fun _ => ?_)
    refine J.skip ?_
    refine thenJ_n ?_
    refine J.sr ?_
    refine EO.run 1 [0, 2, 3, 7] (S2 := [(0, .int .u64 x), (2, .int .i64 0), (3, .int .i64 4), (7, .bool false)]) (A2 := A) rfl (by kernel_rfl) ?_
    refine EO.done rfl ?_
    refine J.ret ?_
    refine Ends_r (vs := [.int .i64 0]) (by kernel_rfl) ?_
    exact ⟨by rw [hs]; rfl, rfl⟩

/-- A number's shortest bytes; none: it has none. -/
def shortOf (x : Int) : List Int := if clsN x < 4 then encC (clsN x) x else []
theorem f16_spec (hp : pre 16 = none) (hp15 : pre 15 = none) (hp28 : pre 28 = none) (x : Int) (h0 : 0 ≤ x) (hnx : A.nx = none) :
    ∃ w A', acall Try.prog pre dr 100000 (m + 2) 16 [.int .u64 x] A = some (w, A') ∧ RowV A' w (shortOf x) ∧ AExt A A' ∧ A'.nx = none := by
  have e15 := f15_spec (pre := pre) (dr := dr) (A := A) (m := m) hp15 x
  rcases clsN_le x with hc | hc | hc | hc | hc
  · have hs : szOf x = 1 := by unfold szOf; rw [hc]; rfl
    rw [hs] at e15
    have hsh : shortOf x = encC 0 x := by unfold shortOf; rw [hc]; rfl
    obtain ⟨A2, e28, hO, hx2, hn2⟩ := f28_spec0 (pre := pre) (dr := dr) (A := A) (m := m) hp28 x (clsN_in h0 hc (by decide)) hnx
    have hlen : (encC 0 x).length = 1 := rfl
    rw [hsh]
    refine J.fn (fn := Try.f16) hp Try.func16 rfl (Nat.le_of_ble_eq_true rfl) ?_
    refine J.sr ?_
    refine EO.run 1 [0, 2] (S2 := [(0, .int .u64 x), (2, .slice none 0 0)]) (A2 := A) rfl (by kernel_rfl) ?_
    refine EO.done rfl ?_
    refine J.sr ?_
    refine EO.run 1 [0, 2, 4] (S2 := [(0, .int .u64 x), (2, .slice none 0 0), (4, .int .u64 x)]) (A2 := A) rfl (by kernel_rfl) ?_
    refine EO.fcall (f := 15) (vs := [.int .u64 x]) (v := .int .i64 1) (A1 := A) rfl rfl rfl rfl (by kernel_rfl) (by kernel_rfl) (e15) ?_
    refine EO.run 3 [0, 2, 3] (S2 := [(0, .int .u64 x), (2, .slice none 0 0), (3, .int .i64 1)]) (A2 := A) rfl (by kernel_rfl) ?_
    refine EO.done rfl ?_
    refine J.seq ?_
    refine J.sr ?_
    refine EO.run 2 [0, 2, 3, 7] (S2 := [(0, .int .u64 x), (2, .slice none 0 0), (3, .int .i64 1), (7, .bool false)]) (A2 := A) rfl (by kernel_rfl) ?_
    refine EO.done rfl ?_
    refine J.cond false (by kernel_rfl) (fun h => Bool.noConfusion h) (fun _ => ?_)
    refine J.skip ?_
    refine thenJ_n ?_
    refine J.sr ?_
    refine EO.run 2 [0, 2, 3, 7, 8, 9] (S2 := [(0, .int .u64 x), (2, .slice none 0 0), (3, .int .i64 1), (7, .bool false), (8, .int .u64 x), (9, .int .i64 1)]) (A2 := A) rfl (by kernel_rfl) ?_
    refine EO.fcall (f := 28) (vs := [.int .u64 x, .int .i64 1]) (v := .slice (some ⟨A.nid, 0, none⟩) 1 1) (A1 := A2) rfl rfl rfl rfl (by kernel_rfl) (by kernel_rfl) (e28) ?_
    refine EO.run 4 [0, 2, 3, 7] (S2 := [(0, .int .u64 x), (2, .slice (some ⟨A.nid, 0, none⟩) 1 1), (3, .int .i64 1), (7, .bool false)]) (A2 := A2) rfl (by kernel_rfl) ?_
    refine EO.done rfl ?_
    refine J.ret ?_
    refine Ends_r (vs := [.slice (some ⟨A.nid, 0, none⟩) 1 1]) (by kernel_rfl) ?_
    exact ⟨.inr ⟨A.nid, 0, 1, rfl, hO.row⟩, hx2, hn2⟩
  · have hs : szOf x = 2 := by unfold szOf; rw [hc]; rfl
    rw [hs] at e15
    have hsh : shortOf x = encC 1 x := by unfold shortOf; rw [hc]; rfl
    obtain ⟨A2, e28, hO, hx2, hn2⟩ := f28_spec1 (pre := pre) (dr := dr) (A := A) (m := m) hp28 x (clsN_in h0 hc (by decide)) hnx
    have hlen : (encC 1 x).length = 2 := rfl
    rw [hsh]
    refine J.fn (fn := Try.f16) hp Try.func16 rfl (Nat.le_of_ble_eq_true rfl) ?_
    refine J.sr ?_
    refine EO.run 1 [0, 2] (S2 := [(0, .int .u64 x), (2, .slice none 0 0)]) (A2 := A) rfl (by kernel_rfl) ?_
    refine EO.done rfl ?_
    refine J.sr ?_
    refine EO.run 1 [0, 2, 4] (S2 := [(0, .int .u64 x), (2, .slice none 0 0), (4, .int .u64 x)]) (A2 := A) rfl (by kernel_rfl) ?_
    refine EO.fcall (f := 15) (vs := [.int .u64 x]) (v := .int .i64 2) (A1 := A) rfl rfl rfl rfl (by kernel_rfl) (by kernel_rfl) (e15) ?_
    refine EO.run 3 [0, 2, 3] (S2 := [(0, .int .u64 x), (2, .slice none 0 0), (3, .int .i64 2)]) (A2 := A) rfl (by kernel_rfl) ?_
    refine EO.done rfl ?_
    refine J.seq ?_
    refine J.sr ?_
    refine EO.run 2 [0, 2, 3, 7] (S2 := [(0, .int .u64 x), (2, .slice none 0 0), (3, .int .i64 2), (7, .bool false)]) (A2 := A) rfl (by kernel_rfl) ?_
    refine EO.done rfl ?_
    refine J.cond false (by kernel_rfl) (fun h => Bool.noConfusion h) (fun _ => ?_)
    refine J.skip ?_
    refine thenJ_n ?_
    refine J.sr ?_
    refine EO.run 2 [0, 2, 3, 7, 8, 9] (S2 := [(0, .int .u64 x), (2, .slice none 0 0), (3, .int .i64 2), (7, .bool false), (8, .int .u64 x), (9, .int .i64 2)]) (A2 := A) rfl (by kernel_rfl) ?_
    refine EO.fcall (f := 28) (vs := [.int .u64 x, .int .i64 2]) (v := .slice (some ⟨A.nid, 0, none⟩) 2 2) (A1 := A2) rfl rfl rfl rfl (by kernel_rfl) (by kernel_rfl) (e28) ?_
    refine EO.run 4 [0, 2, 3, 7] (S2 := [(0, .int .u64 x), (2, .slice (some ⟨A.nid, 0, none⟩) 2 2), (3, .int .i64 2), (7, .bool false)]) (A2 := A2) rfl (by kernel_rfl) ?_
    refine EO.done rfl ?_
    refine J.ret ?_
    refine Ends_r (vs := [.slice (some ⟨A.nid, 0, none⟩) 2 2]) (by kernel_rfl) ?_
    exact ⟨.inr ⟨A.nid, 0, 2, rfl, hO.row⟩, hx2, hn2⟩
  · have hs : szOf x = 4 := by unfold szOf; rw [hc]; rfl
    rw [hs] at e15
    have hsh : shortOf x = encC 2 x := by unfold shortOf; rw [hc]; rfl
    obtain ⟨A2, e28, hO, hx2, hn2⟩ := f28_spec2 (pre := pre) (dr := dr) (A := A) (m := m) hp28 x (clsN_in h0 hc (by decide)) hnx
    have hlen : (encC 2 x).length = 4 := rfl
    rw [hsh]
    refine J.fn (fn := Try.f16) hp Try.func16 rfl (Nat.le_of_ble_eq_true rfl) ?_
    refine J.sr ?_
    refine EO.run 1 [0, 2] (S2 := [(0, .int .u64 x), (2, .slice none 0 0)]) (A2 := A) rfl (by kernel_rfl) ?_
    refine EO.done rfl ?_
    refine J.sr ?_
    refine EO.run 1 [0, 2, 4] (S2 := [(0, .int .u64 x), (2, .slice none 0 0), (4, .int .u64 x)]) (A2 := A) rfl (by kernel_rfl) ?_
    refine EO.fcall (f := 15) (vs := [.int .u64 x]) (v := .int .i64 4) (A1 := A) rfl rfl rfl rfl (by kernel_rfl) (by kernel_rfl) (e15) ?_
    refine EO.run 3 [0, 2, 3] (S2 := [(0, .int .u64 x), (2, .slice none 0 0), (3, .int .i64 4)]) (A2 := A) rfl (by kernel_rfl) ?_
    refine EO.done rfl ?_
    refine J.seq ?_
    refine J.sr ?_
    refine EO.run 2 [0, 2, 3, 7] (S2 := [(0, .int .u64 x), (2, .slice none 0 0), (3, .int .i64 4), (7, .bool false)]) (A2 := A) rfl (by kernel_rfl) ?_
    refine EO.done rfl ?_
    refine J.cond false (by kernel_rfl) (fun h => Bool.noConfusion h) (fun _ => ?_)
    refine J.skip ?_
    refine thenJ_n ?_
    refine J.sr ?_
    refine EO.run 2 [0, 2, 3, 7, 8, 9] (S2 := [(0, .int .u64 x), (2, .slice none 0 0), (3, .int .i64 4), (7, .bool false), (8, .int .u64 x), (9, .int .i64 4)]) (A2 := A) rfl (by kernel_rfl) ?_
    refine EO.fcall (f := 28) (vs := [.int .u64 x, .int .i64 4]) (v := .slice (some ⟨A.nid, 0, none⟩) 4 4) (A1 := A2) rfl rfl rfl rfl (by kernel_rfl) (by kernel_rfl) (e28) ?_
    refine EO.run 4 [0, 2, 3, 7] (S2 := [(0, .int .u64 x), (2, .slice (some ⟨A.nid, 0, none⟩) 4 4), (3, .int .i64 4), (7, .bool false)]) (A2 := A2) rfl (by kernel_rfl) ?_
    refine EO.done rfl ?_
    refine J.ret ?_
    refine Ends_r (vs := [.slice (some ⟨A.nid, 0, none⟩) 4 4]) (by kernel_rfl) ?_
    exact ⟨.inr ⟨A.nid, 0, 4, rfl, hO.row⟩, hx2, hn2⟩
  · have hs : szOf x = 8 := by unfold szOf; rw [hc]; rfl
    rw [hs] at e15
    have hsh : shortOf x = encC 3 x := by unfold shortOf; rw [hc]; rfl
    obtain ⟨A2, e28, hO, hx2, hn2⟩ := f28_spec3 (pre := pre) (dr := dr) (A := A) (m := m) hp28 x (clsN_in h0 hc (by decide)) hnx
    have hlen : (encC 3 x).length = 8 := rfl
    rw [hsh]
    refine J.fn (fn := Try.f16) hp Try.func16 rfl (Nat.le_of_ble_eq_true rfl) ?_
    refine J.sr ?_
    refine EO.run 1 [0, 2] (S2 := [(0, .int .u64 x), (2, .slice none 0 0)]) (A2 := A) rfl (by kernel_rfl) ?_
    refine EO.done rfl ?_
    refine J.sr ?_
    refine EO.run 1 [0, 2, 4] (S2 := [(0, .int .u64 x), (2, .slice none 0 0), (4, .int .u64 x)]) (A2 := A) rfl (by kernel_rfl) ?_
    refine EO.fcall (f := 15) (vs := [.int .u64 x]) (v := .int .i64 8) (A1 := A) rfl rfl rfl rfl (by kernel_rfl) (by kernel_rfl) (e15) ?_
    refine EO.run 3 [0, 2, 3] (S2 := [(0, .int .u64 x), (2, .slice none 0 0), (3, .int .i64 8)]) (A2 := A) rfl (by kernel_rfl) ?_
    refine EO.done rfl ?_
    refine J.seq ?_
    refine J.sr ?_
    refine EO.run 2 [0, 2, 3, 7] (S2 := [(0, .int .u64 x), (2, .slice none 0 0), (3, .int .i64 8), (7, .bool false)]) (A2 := A) rfl (by kernel_rfl) ?_
    refine EO.done rfl ?_
    refine J.cond false (by kernel_rfl) (fun h => Bool.noConfusion h) (fun _ => ?_)
    refine J.skip ?_
    refine thenJ_n ?_
    refine J.sr ?_
    refine EO.run 2 [0, 2, 3, 7, 8, 9] (S2 := [(0, .int .u64 x), (2, .slice none 0 0), (3, .int .i64 8), (7, .bool false), (8, .int .u64 x), (9, .int .i64 8)]) (A2 := A) rfl (by kernel_rfl) ?_
    refine EO.fcall (f := 28) (vs := [.int .u64 x, .int .i64 8]) (v := .slice (some ⟨A.nid, 0, none⟩) 8 8) (A1 := A2) rfl rfl rfl rfl (by kernel_rfl) (by kernel_rfl) (e28) ?_
    refine EO.run 4 [0, 2, 3, 7] (S2 := [(0, .int .u64 x), (2, .slice (some ⟨A.nid, 0, none⟩) 8 8), (3, .int .i64 8), (7, .bool false)]) (A2 := A2) rfl (by kernel_rfl) ?_
    refine EO.done rfl ?_
    refine J.ret ?_
    refine Ends_r (vs := [.slice (some ⟨A.nid, 0, none⟩) 8 8]) (by kernel_rfl) ?_
    exact ⟨.inr ⟨A.nid, 0, 8, rfl, hO.row⟩, hx2, hn2⟩
  · have hs : szOf x = 0 := by unfold szOf; rw [hc]; rfl
    rw [hs] at e15
    have hsh : shortOf x = [] := by unfold shortOf; rw [hc]; rfl
    rw [hsh]
    refine J.fn (fn := Try.f16) hp Try.func16 rfl (Nat.le_of_ble_eq_true rfl) ?_
    refine J.sr ?_
    refine EO.run 1 [0, 2] (S2 := [(0, .int .u64 x), (2, .slice none 0 0)]) (A2 := A) rfl (by kernel_rfl) ?_
    refine EO.done rfl ?_
    refine J.sr ?_
    refine EO.run 1 [0, 2, 4] (S2 := [(0, .int .u64 x), (2, .slice none 0 0), (4, .int .u64 x)]) (A2 := A) rfl (by kernel_rfl) ?_
    refine EO.fcall (f := 15) (vs := [.int .u64 x]) (v := .int .i64 0) (A1 := A) rfl rfl rfl rfl (by kernel_rfl) (by kernel_rfl) (e15) ?_
    refine EO.run 3 [0, 2, 3] (S2 := [(0, .int .u64 x), (2, .slice none 0 0), (3, .int .i64 0)]) (A2 := A) rfl (by kernel_rfl) ?_
    refine EO.done rfl ?_
    refine J.seq ?_
    refine J.sr ?_
    refine EO.run 2 [0, 2, 3, 7] (S2 := [(0, .int .u64 x), (2, .slice none 0 0), (3, .int .i64 0), (7, .bool true)]) (A2 := A) rfl (by kernel_rfl) ?_
    refine EO.done rfl ?_
    refine J.cond true (by kernel_rfl) (fun _ => ?_) (fun h => Bool.noConfusion h)
    refine J.sr ?_
    refine EO.run 1 [0, 2, 3, 7] (S2 := [(0, .int .u64 x), (2, .slice none 0 0), (3, .int .i64 0), (7, .bool true)]) (A2 := A) rfl (by kernel_rfl) ?_
    refine EO.done rfl ?_
    refine J.ret ?_
    refine thenJ_r ?_
    refine Ends_r (vs := [.slice none 0 0]) (by kernel_rfl) ?_
    exact ⟨.inl ⟨rfl, rfl⟩, AExt.refl _, hnx⟩
end
end Go.Proofs.Ytioggedadamoaaa
