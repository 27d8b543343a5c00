/- param: may, fits. -/
import Derived.Test.YtioggedadamoaaaTiPa
set_option autoImplicit false
set_option linter.unusedVariables false
set_option linter.unusedSimpArgs false
namespace Go.Proofs.Ytioggedadamoaaa
open Go.Abs Go.RowKit
def fitsN (id n : Int) : Bool :=
 if id = 8 ∨ id = 9 then decide (n ≤ 1152921504606846976) else if id = 11 then decide (n < 16384) else if id = 14 then decide (n > 1) && decide (n < 4611686018427387904) else decide (n < 4611686018427387904)
theorem fitsN_eq (id n : Int) : fitsN id n = mayN id n := by
 have e : ∀ a b : Int, decide (a < b + 1) = decide (a ≤ b) := fun a b => by simp [Int.lt_add_one_iff]
 have e2 : decide (n > 1) = decide (n ≥ 2) := by simp only [decide_eq_decide]; omega
 unfold fitsN mayN
 rw [e2, show (16384 : Int) = 16383 + 1 from rfl, show (4611686018427387904 : Int) = 4611686018427387903 + 1 from rfl, e, e]
theorem f34_spec {pre : FuncId → Option (List Value → AW → Option (Value × AW))} {dr : CallF → Array Oper → Array Value → AW → Option (Array Value × AW)} {A : AW} {m : Nat} (hp : pre 34 = none) (id n : Int) : acall Try.prog pre dr 100000 (m + 1) 34 [.int .u64 id, .int .u64 n] A = some (.bool (mayN id n), A) := by
 suffices hs : ∃ v' A', acall Try.prog pre dr 100000 (m + 1) 34 [.int .u64 id, .int .u64 n] A = some (v', A') ∧ (v' = .bool (mayN id n) ∧ A' = A) by
  obtain ⟨v', A', e, rfl, rfl⟩ := hs
  exact e
 refine J.fn (fn := Try.f34) hp Try.func34 rfl (bl rfl) ?_
 refine J.sr ?_
 refine EO.run 1 [0, 1, 4] (S2 := [(0, .int .u64 id), (1, .int .u64 n), (4, .bool false)]) (A2 := A) rfl (by kernel_rfl) ?_
 refine EO.done rfl ?_
 refine J.seq ?_
 refine J.sr ?_
 refine EO.run 1 [0, 1, 4, 5] (S2 := [(0, .int .u64 id), (1, .int .u64 n), (4, .bool false), (5, .int .u64 id)]) (A2 := A) rfl (by kernel_rfl) ?_
 refine EO.done rfl ?_
 refine J.block ?_
 refine J.seq ?_
 refine J.sr ?_
 refine EO.run 2 [0, 1, 4, 5, 6] (S2 := [(0, .int .u64 id), (1, .int .u64 n), (4, .bool false), (5, .int .u64 id), (6, .bool (id == 8))]) (A2 := A) rfl (by kernel_rfl) ?_
 refine EO.done rfl ?_
 refine J.cond (id == 8) (by kernel_rfl) (fun h1 => ?_) (fun h1 => ?_)
 ·
  refine J.skip ?_
  refine thenJ_n ?_
  refine J.cond (id == 8) (by kernel_rfl) (fun h2 => ?_) (fun h2 => ?_)
  ·
   refine J.sr ?_
   refine EO.run 3 [0, 1, 4, 5, 6] (S2 := [(0, .int .u64 id), (1, .int .u64 n), (4, .bool (decide (n ≤ 1152921504606846976))), (5, .int .u64 id), (6, .bool (id == 8))]) (A2 := A) rfl (by kernel_rfl) ?_
   refine EO.done rfl ?_
   refine J.ret ?_
   refine blockQ_r ?_
   refine thenJ_r ?_
   refine Ends_r (vs := [.bool (decide (n ≤ 1152921504606846976))]) (by kernel_rfl) ?_
   refine ⟨?_, rfl⟩
   congr 1
   simp only [atuple, mayN]
   (try simp_all) <;> (try omega)
  ·
   refine J.sr ?_
   refine EO.run 2 [0, 1, 4, 5, 6, 11] (S2 := [(0, .int .u64 id), (1, .int .u64 n), (4, .bool false), (5, .int .u64 id), (6, .bool (id == 8)), (11, .bool (id == 11))]) (A2 := A) rfl (by kernel_rfl) ?_
   refine EO.done rfl ?_
   refine J.cond (id == 11) (by kernel_rfl) (fun h3 => ?_) (fun h3 => ?_)
   ·
    refine J.sr ?_
    refine EO.run 3 [0, 1, 4, 5, 6, 11] (S2 := [(0, .int .u64 id), (1, .int .u64 n), (4, .bool (decide (n ≤ 16383))), (5, .int .u64 id), (6, .bool (id == 8)), (11, .bool (id == 11))]) (A2 := A) rfl (by kernel_rfl) ?_
    refine EO.done rfl ?_
    refine J.ret ?_
    refine blockQ_r ?_
    refine thenJ_r ?_
    refine Ends_r (vs := [.bool (decide (n ≤ 16383))]) (by kernel_rfl) ?_
    refine ⟨?_, rfl⟩
    congr 1
    simp only [atuple, mayN]
    (try simp_all) <;> (try omega)
   ·
    refine J.sr ?_
    refine EO.run 2 [0, 1, 4, 5, 6, 11, 15] (S2 := [(0, .int .u64 id), (1, .int .u64 n), (4, .bool false), (5, .int .u64 id), (6, .bool (id == 8)), (11, .bool (id == 11)), (15, .bool (id == 14))]) (A2 := A) rfl (by kernel_rfl) ?_
    refine EO.done rfl ?_
    refine J.cond (id == 14) (by kernel_rfl) (fun h4 => ?_) (fun h4 => ?_)
    ·
     refine J.sr ?_
     refine EO.run 3 [0, 1, 4, 5, 6, 11, 15, 19] (S2 := [(0, .int .u64 id), (1, .int .u64 n), (4, .bool false), (5, .int .u64 id), (6, .bool (id == 8)), (11, .bool (id == 11)), (15, .bool (id == 14)), (19, .bool (decide (n ≥ 2)))]) (A2 := A) rfl (by kernel_rfl) ?_
     generalize hb5 : (decide (n ≥ 2)) = b5
     cases b5
     ·
      refine EO.run 7 [0, 1, 4, 5, 6, 11, 15] (S2 := [(0, .int .u64 id), (1, .int .u64 n), (4, .bool false), (5, .int .u64 id), (6, .bool (id == 8)), (11, .bool (id == 11)), (15, .bool (id == 14))]) (A2 := A) rfl (by kernel_rfl) ?_
      refine EO.done rfl ?_
      refine J.ret ?_
      refine blockQ_r ?_
      refine thenJ_r ?_
      refine Ends_r (vs := [.bool false]) (by kernel_rfl) ?_
      refine ⟨?_, rfl⟩
      congr 1
      simp only [atuple, mayN]
      (try simp_all) <;> (try omega)
     ·
      refine EO.run 7 [0, 1, 4, 5, 6, 11, 15] (S2 := [(0, .int .u64 id), (1, .int .u64 n), (4, .bool (decide (n ≤ 4611686018427387903))), (5, .int .u64 id), (6, .bool (id == 8)), (11, .bool (id == 11)), (15, .bool (id == 14))]) (A2 := A) rfl (by kernel_rfl) ?_
      refine EO.done rfl ?_
      refine J.ret ?_
      refine blockQ_r ?_
      refine thenJ_r ?_
      refine Ends_r (vs := [.bool (decide (n ≤ 4611686018427387903))]) (by kernel_rfl) ?_
      refine ⟨?_, rfl⟩
      congr 1
      simp only [atuple, mayN]
      (try simp_all) <;> (try omega)
    ·
     refine J.skip ?_
     refine blockQ_n ?_
     refine thenJ_n ?_
     refine J.sr ?_
     refine EO.run 3 [0, 1, 4, 5, 6, 11, 15] (S2 := [(0, .int .u64 id), (1, .int .u64 n), (4, .bool (decide (n ≤ 4611686018427387903))), (5, .int .u64 id), (6, .bool (id == 8)), (11, .bool (id == 11)), (15, .bool (id == 14))]) (A2 := A) rfl (by kernel_rfl) ?_
     refine EO.done rfl ?_
     refine J.ret ?_
     refine Ends_r (vs := [.bool (decide (n ≤ 4611686018427387903))]) (by kernel_rfl) ?_
     refine ⟨?_, rfl⟩
     congr 1
     simp only [atuple, mayN]
     (try simp_all) <;> (try omega)
 ·
  refine J.region ?_
  refine EO.run 2 [0, 1, 4, 5, 6] (S2 := [(0, .int .u64 id), (1, .int .u64 n), (4, .bool false), (5, .int .u64 id), (6, .bool (id == 9))]) (A2 := A) rfl (by kernel_rfl) ?_
  refine EO.done rfl ?_
  refine thenJ_n ?_
  refine J.cond (id == 9) (by kernel_rfl) (fun h6 => ?_) (fun h6 => ?_)
  ·
   refine J.sr ?_
   refine EO.run 3 [0, 1, 4, 5, 6] (S2 := [(0, .int .u64 id), (1, .int .u64 n), (4, .bool (decide (n ≤ 1152921504606846976))), (5, .int .u64 id), (6, .bool (id == 9))]) (A2 := A) rfl (by kernel_rfl) ?_
   refine EO.done rfl ?_
   refine J.ret ?_
   refine blockQ_r ?_
   refine thenJ_r ?_
   refine Ends_r (vs := [.bool (decide (n ≤ 1152921504606846976))]) (by kernel_rfl) ?_
   refine ⟨?_, rfl⟩
   congr 1
   simp only [atuple, mayN]
   (try simp_all) <;> (try omega)
  ·
   refine J.sr ?_
   refine EO.run 2 [0, 1, 4, 5, 6, 11] (S2 := [(0, .int .u64 id), (1, .int .u64 n), (4, .bool false), (5, .int .u64 id), (6, .bool (id == 9)), (11, .bool (id == 11))]) (A2 := A) rfl (by kernel_rfl) ?_
   refine EO.done rfl ?_
   refine J.cond (id == 11) (by kernel_rfl) (fun h7 => ?_) (fun h7 => ?_)
   ·
    refine J.sr ?_
    refine EO.run 3 [0, 1, 4, 5, 6, 11] (S2 := [(0, .int .u64 id), (1, .int .u64 n), (4, .bool (decide (n ≤ 16383))), (5, .int .u64 id), (6, .bool (id == 9)), (11, .bool (id == 11))]) (A2 := A) rfl (by kernel_rfl) ?_
    refine EO.done rfl ?_
    refine J.ret ?_
    refine blockQ_r ?_
    refine thenJ_r ?_
    refine Ends_r (vs := [.bool (decide (n ≤ 16383))]) (by kernel_rfl) ?_
    refine ⟨?_, rfl⟩
    congr 1
    simp only [atuple, mayN]
    (try simp_all) <;> (try omega)
   ·
    refine J.sr ?_
    refine EO.run 2 [0, 1, 4, 5, 6, 11, 15] (S2 := [(0, .int .u64 id), (1, .int .u64 n), (4, .bool false), (5, .int .u64 id), (6, .bool (id == 9)), (11, .bool (id == 11)), (15, .bool (id == 14))]) (A2 := A) rfl (by kernel_rfl) ?_
    refine EO.done rfl ?_
    refine J.cond (id == 14) (by kernel_rfl) (fun h8 => ?_) (fun h8 => ?_)
    ·
     refine J.sr ?_
     refine EO.run 3 [0, 1, 4, 5, 6, 11, 15, 19] (S2 := [(0, .int .u64 id), (1, .int .u64 n), (4, .bool false), (5, .int .u64 id), (6, .bool (id == 9)), (11, .bool (id == 11)), (15, .bool (id == 14)), (19, .bool (decide (n ≥ 2)))]) (A2 := A) rfl (by kernel_rfl) ?_
     generalize hb9 : (decide (n ≥ 2)) = b9
     cases b9
     ·
      refine EO.run 7 [0, 1, 4, 5, 6, 11, 15] (S2 := [(0, .int .u64 id), (1, .int .u64 n), (4, .bool false), (5, .int .u64 id), (6, .bool (id == 9)), (11, .bool (id == 11)), (15, .bool (id == 14))]) (A2 := A) rfl (by kernel_rfl) ?_
      refine EO.done rfl ?_
      refine J.ret ?_
      refine blockQ_r ?_
      refine thenJ_r ?_
      refine Ends_r (vs := [.bool false]) (by kernel_rfl) ?_
      refine ⟨?_, rfl⟩
      congr 1
      simp only [atuple, mayN]
      (try simp_all) <;> (try omega)
     ·
      refine EO.run 7 [0, 1, 4, 5, 6, 11, 15] (S2 := [(0, .int .u64 id), (1, .int .u64 n), (4, .bool (decide (n ≤ 4611686018427387903))), (5, .int .u64 id), (6, .bool (id == 9)), (11, .bool (id == 11)), (15, .bool (id == 14))]) (A2 := A) rfl (by kernel_rfl) ?_
      refine EO.done rfl ?_
      refine J.ret ?_
      refine blockQ_r ?_
      refine thenJ_r ?_
      refine Ends_r (vs := [.bool (decide (n ≤ 4611686018427387903))]) (by kernel_rfl) ?_
      refine ⟨?_, rfl⟩
      congr 1
      simp only [atuple, mayN]
      (try simp_all) <;> (try omega)
    ·
     refine J.skip ?_
     refine blockQ_n ?_
     refine thenJ_n ?_
     refine J.sr ?_
     refine EO.run 3 [0, 1, 4, 5, 6, 11, 15] (S2 := [(0, .int .u64 id), (1, .int .u64 n), (4, .bool (decide (n ≤ 4611686018427387903))), (5, .int .u64 id), (6, .bool (id == 9)), (11, .bool (id == 11)), (15, .bool (id == 14))]) (A2 := A) rfl (by kernel_rfl) ?_
     refine EO.done rfl ?_
     refine J.ret ?_
     refine Ends_r (vs := [.bool (decide (n ≤ 4611686018427387903))]) (by kernel_rfl) ?_
     refine ⟨?_, rfl⟩
     congr 1
     simp only [atuple, mayN]
     (try simp_all) <;> (try omega)
theorem f33_spec {pre : FuncId → Option (List Value → AW → Option (Value × AW))} {dr : CallF → Array Oper → Array Value → AW → Option (Array Value × AW)} {A : AW} {m : Nat} (hp : pre 33 = none) (id n : Int) : acall Try.prog pre dr 100000 (m + 1) 33 [.int .i64 id, .int .u64 n] A = some (.bool (fitsN id n), A) := by
 suffices hs : ∃ v' A', acall Try.prog pre dr 100000 (m + 1) 33 [.int .i64 id, .int .u64 n] A = some (v', A') ∧ (v' = .bool (fitsN id n) ∧ A' = A) by
  obtain ⟨v', A', e, rfl, rfl⟩ := hs
  exact e
 refine J.fn (fn := Try.f33) hp Try.func33 rfl (bl rfl) ?_
 refine J.sr ?_
 refine EO.run 1 [0, 1, 4] (S2 := [(0, .int .i64 id), (1, .int .u64 n), (4, .bool false)]) (A2 := A) rfl (by kernel_rfl) ?_
 refine EO.done rfl ?_
 refine J.seq ?_
 refine J.sr ?_
 refine EO.run 1 [0, 1, 4, 5] (S2 := [(0, .int .i64 id), (1, .int .u64 n), (4, .bool false), (5, .int .i64 id)]) (A2 := A) rfl (by kernel_rfl) ?_
 refine EO.done rfl ?_
 refine J.block ?_
 refine J.seq ?_
 refine J.sr ?_
 refine EO.run 2 [0, 1, 4, 5, 6] (S2 := [(0, .int .i64 id), (1, .int .u64 n), (4, .bool false), (5, .int .i64 id), (6, .bool (id == 8))]) (A2 := A) rfl (by kernel_rfl) ?_
 refine EO.done rfl ?_
 refine J.cond (id == 8) (by kernel_rfl) (fun h1 => ?_) (fun h1 => ?_)
 ·
  refine J.skip ?_
  refine thenJ_n ?_
  refine J.cond (id == 8) (by kernel_rfl) (fun h2 => ?_) (fun h2 => ?_)
  ·
   refine J.sr ?_
   refine EO.run 3 [0, 1, 4, 5, 6] (S2 := [(0, .int .i64 id), (1, .int .u64 n), (4, .bool (decide (n ≤ 1152921504606846976))), (5, .int .i64 id), (6, .bool (id == 8))]) (A2 := A) rfl (by kernel_rfl) ?_
   refine EO.done rfl ?_
   refine J.ret ?_
   refine blockQ_r ?_
   refine thenJ_r ?_
   refine Ends_r (vs := [.bool (decide (n ≤ 1152921504606846976))]) (by kernel_rfl) ?_
   refine ⟨?_, rfl⟩
   congr 1
   simp only [atuple, fitsN]
   (try simp_all) <;> (try omega)
  ·
   refine J.sr ?_
   refine EO.run 2 [0, 1, 4, 5, 6, 11] (S2 := [(0, .int .i64 id), (1, .int .u64 n), (4, .bool false), (5, .int .i64 id), (6, .bool (id == 8)), (11, .bool (id == 11))]) (A2 := A) rfl (by kernel_rfl) ?_
   refine EO.done rfl ?_
   refine J.cond (id == 11) (by kernel_rfl) (fun h3 => ?_) (fun h3 => ?_)
   ·
    refine J.sr ?_
    refine EO.run 3 [0, 1, 4, 5, 6, 11] (S2 := [(0, .int .i64 id), (1, .int .u64 n), (4, .bool (decide (n < 16384))), (5, .int .i64 id), (6, .bool (id == 8)), (11, .bool (id == 11))]) (A2 := A) rfl (by kernel_rfl) ?_
    refine EO.done rfl ?_
    refine J.ret ?_
    refine blockQ_r ?_
    refine thenJ_r ?_
    refine Ends_r (vs := [.bool (decide (n < 16384))]) (by kernel_rfl) ?_
    refine ⟨?_, rfl⟩
    congr 1
    simp only [atuple, fitsN]
    (try simp_all) <;> (try omega)
   ·
    refine J.sr ?_
    refine EO.run 2 [0, 1, 4, 5, 6, 11, 15] (S2 := [(0, .int .i64 id), (1, .int .u64 n), (4, .bool false), (5, .int .i64 id), (6, .bool (id == 8)), (11, .bool (id == 11)), (15, .bool (id == 14))]) (A2 := A) rfl (by kernel_rfl) ?_
    refine EO.done rfl ?_
    refine J.cond (id == 14) (by kernel_rfl) (fun h4 => ?_) (fun h4 => ?_)
    ·
     refine J.sr ?_
     refine EO.run 3 [0, 1, 4, 5, 6, 11, 15, 19] (S2 := [(0, .int .i64 id), (1, .int .u64 n), (4, .bool false), (5, .int .i64 id), (6, .bool (id == 8)), (11, .bool (id == 11)), (15, .bool (id == 14)), (19, .bool (decide (n > 1)))]) (A2 := A) rfl (by kernel_rfl) ?_
     generalize hb5 : (decide (n > 1)) = b5
     cases b5
     ·
      refine EO.run 7 [0, 1, 4, 5, 6, 11, 15] (S2 := [(0, .int .i64 id), (1, .int .u64 n), (4, .bool false), (5, .int .i64 id), (6, .bool (id == 8)), (11, .bool (id == 11)), (15, .bool (id == 14))]) (A2 := A) rfl (by kernel_rfl) ?_
      refine EO.done rfl ?_
      refine J.ret ?_
      refine blockQ_r ?_
      refine thenJ_r ?_
      refine Ends_r (vs := [.bool false]) (by kernel_rfl) ?_
      refine ⟨?_, rfl⟩
      congr 1
      simp only [atuple, fitsN]
      (try simp_all) <;> (try omega)
     ·
      refine EO.run 7 [0, 1, 4, 5, 6, 11, 15] (S2 := [(0, .int .i64 id), (1, .int .u64 n), (4, .bool (decide (n < 4611686018427387904))), (5, .int .i64 id), (6, .bool (id == 8)), (11, .bool (id == 11)), (15, .bool (id == 14))]) (A2 := A) rfl (by kernel_rfl) ?_
      refine EO.done rfl ?_
      refine J.ret ?_
      refine blockQ_r ?_
      refine thenJ_r ?_
      refine Ends_r (vs := [.bool (decide (n < 4611686018427387904))]) (by kernel_rfl) ?_
      refine ⟨?_, rfl⟩
      congr 1
      simp only [atuple, fitsN]
      (try simp_all) <;> (try omega)
    ·
     refine J.skip ?_
     refine blockQ_n ?_
     refine thenJ_n ?_
     refine J.sr ?_
     refine EO.run 3 [0, 1, 4, 5, 6, 11, 15] (S2 := [(0, .int .i64 id), (1, .int .u64 n), (4, .bool (decide (n < 4611686018427387904))), (5, .int .i64 id), (6, .bool (id == 8)), (11, .bool (id == 11)), (15, .bool (id == 14))]) (A2 := A) rfl (by kernel_rfl) ?_
     refine EO.done rfl ?_
     refine J.ret ?_
     refine Ends_r (vs := [.bool (decide (n < 4611686018427387904))]) (by kernel_rfl) ?_
     refine ⟨?_, rfl⟩
     congr 1
     simp only [atuple, fitsN]
     (try simp_all) <;> (try omega)
 ·
  refine J.region ?_
  refine EO.run 2 [0, 1, 4, 5, 6] (S2 := [(0, .int .i64 id), (1, .int .u64 n), (4, .bool false), (5, .int .i64 id), (6, .bool (id == 9))]) (A2 := A) rfl (by kernel_rfl) ?_
  refine EO.done rfl ?_
  refine thenJ_n ?_
  refine J.cond (id == 9) (by kernel_rfl) (fun h6 => ?_) (fun h6 => ?_)
  ·
   refine J.sr ?_
   refine EO.run 3 [0, 1, 4, 5, 6] (S2 := [(0, .int .i64 id), (1, .int .u64 n), (4, .bool (decide (n ≤ 1152921504606846976))), (5, .int .i64 id), (6, .bool (id == 9))]) (A2 := A) rfl (by kernel_rfl) ?_
   refine EO.done rfl ?_
   refine J.ret ?_
   refine blockQ_r ?_
   refine thenJ_r ?_
   refine Ends_r (vs := [.bool (decide (n ≤ 1152921504606846976))]) (by kernel_rfl) ?_
   refine ⟨?_, rfl⟩
   congr 1
   simp only [atuple, fitsN]
   (try simp_all) <;> (try omega)
  ·
   refine J.sr ?_
   refine EO.run 2 [0, 1, 4, 5, 6, 11] (S2 := [(0, .int .i64 id), (1, .int .u64 n), (4, .bool false), (5, .int .i64 id), (6, .bool (id == 9)), (11, .bool (id == 11))]) (A2 := A) rfl (by kernel_rfl) ?_
   refine EO.done rfl ?_
   refine J.cond (id == 11) (by kernel_rfl) (fun h7 => ?_) (fun h7 => ?_)
   ·
    refine J.sr ?_
    refine EO.run 3 [0, 1, 4, 5, 6, 11] (S2 := [(0, .int .i64 id), (1, .int .u64 n), (4, .bool (decide (n < 16384))), (5, .int .i64 id), (6, .bool (id == 9)), (11, .bool (id == 11))]) (A2 := A) rfl (by kernel_rfl) ?_
    refine EO.done rfl ?_
    refine J.ret ?_
    refine blockQ_r ?_
    refine thenJ_r ?_
    refine Ends_r (vs := [.bool (decide (n < 16384))]) (by kernel_rfl) ?_
    refine ⟨?_, rfl⟩
    congr 1
    simp only [atuple, fitsN]
    (try simp_all) <;> (try omega)
   ·
    refine J.sr ?_
    refine EO.run 2 [0, 1, 4, 5, 6, 11, 15] (S2 := [(0, .int .i64 id), (1, .int .u64 n), (4, .bool false), (5, .int .i64 id), (6, .bool (id == 9)), (11, .bool (id == 11)), (15, .bool (id == 14))]) (A2 := A) rfl (by kernel_rfl) ?_
    refine EO.done rfl ?_
    refine J.cond (id == 14) (by kernel_rfl) (fun h8 => ?_) (fun h8 => ?_)
    ·
     refine J.sr ?_
     refine EO.run 3 [0, 1, 4, 5, 6, 11, 15, 19] (S2 := [(0, .int .i64 id), (1, .int .u64 n), (4, .bool false), (5, .int .i64 id), (6, .bool (id == 9)), (11, .bool (id == 11)), (15, .bool (id == 14)), (19, .bool (decide (n > 1)))]) (A2 := A) rfl (by kernel_rfl) ?_
     generalize hb9 : (decide (n > 1)) = b9
     cases b9
     ·
      refine EO.run 7 [0, 1, 4, 5, 6, 11, 15] (S2 := [(0, .int .i64 id), (1, .int .u64 n), (4, .bool false), (5, .int .i64 id), (6, .bool (id == 9)), (11, .bool (id == 11)), (15, .bool (id == 14))]) (A2 := A) rfl (by kernel_rfl) ?_
      refine EO.done rfl ?_
      refine J.ret ?_
      refine blockQ_r ?_
      refine thenJ_r ?_
      refine Ends_r (vs := [.bool false]) (by kernel_rfl) ?_
      refine ⟨?_, rfl⟩
      congr 1
      simp only [atuple, fitsN]
      (try simp_all) <;> (try omega)
     ·
      refine EO.run 7 [0, 1, 4, 5, 6, 11, 15] (S2 := [(0, .int .i64 id), (1, .int .u64 n), (4, .bool (decide (n < 4611686018427387904))), (5, .int .i64 id), (6, .bool (id == 9)), (11, .bool (id == 11)), (15, .bool (id == 14))]) (A2 := A) rfl (by kernel_rfl) ?_
      refine EO.done rfl ?_
      refine J.ret ?_
      refine blockQ_r ?_
      refine thenJ_r ?_
      refine Ends_r (vs := [.bool (decide (n < 4611686018427387904))]) (by kernel_rfl) ?_
      refine ⟨?_, rfl⟩
      congr 1
      simp only [atuple, fitsN]
      (try simp_all) <;> (try omega)
    ·
     refine J.skip ?_
     refine blockQ_n ?_
     refine thenJ_n ?_
     refine J.sr ?_
     refine EO.run 3 [0, 1, 4, 5, 6, 11, 15] (S2 := [(0, .int .i64 id), (1, .int .u64 n), (4, .bool (decide (n < 4611686018427387904))), (5, .int .i64 id), (6, .bool (id == 9)), (11, .bool (id == 11)), (15, .bool (id == 14))]) (A2 := A) rfl (by kernel_rfl) ?_
     refine EO.done rfl ?_
     refine J.ret ?_
     refine Ends_r (vs := [.bool (decide (n < 4611686018427387904))]) (by kernel_rfl) ?_
     refine ⟨?_, rfl⟩
     congr 1
     simp only [atuple, fitsN]
     (try simp_all) <;> (try omega)
end Go.Proofs.Ytioggedadamoaaa
