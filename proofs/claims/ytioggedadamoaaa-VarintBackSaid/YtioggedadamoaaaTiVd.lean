/- hostlerref01.Part, Sized; varint.Bytes. -/
import Derived.Test.YtioggedadamoaaaTiVc
set_option autoImplicit false
set_option linter.unusedVariables false
set_option linter.unusedSimpArgs false
namespace Go.Proofs.Ytioggedadamoaaa
open Go.Abs Go.RowKit

section
variable {pre : FuncId → Option (List Value → AW → Option (Value × AW))} {dr : CallF → Array Oper → Array Value → AW → Option (Array Value × AW)} {A : AW} {m : Nat}

theorem f26_neg (hp : pre 26 = none) {v : Value} (n : Int) : acall Try.prog pre dr 100000 (m + 1) 26 [v, .int .i64 (-1), .int .u64 n] A = some (.tuple #[.slice none 0 0, .int .i64 (-1)], A) := by
  suffices hs : ∃ v' A', acall Try.prog pre dr 100000 (m + 1) 26 [v, .int .i64 (-1), .int .u64 n] A = some (v', A') ∧ (v' = .tuple #[.slice none 0 0, .int .i64 (-1)] ∧ A' = A) by
    obtain ⟨v', A', e, rfl, rfl⟩ := hs
    exact e
  refine J.fn (fn := Try.f26) hp Try.func26 rfl (Nat.le_of_ble_eq_true rfl) ?_
  refine J.sr ?_
  refine EO.run 2 [0, 1, 2, 6, 7] (S2 := [(0, v), (1, .int .i64 (-1)), (2, .int .u64 n), (6, .slice none 0 0), (7, .int .i64 0)]) (A2 := A) rfl (by kernel_rfl) ?_
  refine EO.done rfl ?_
  refine J.seq ?_
  refine J.sr ?_
  refine EO.run 11 [0, 1, 2, 6, 7, 18] (S2 := [(0, v), (1, .int .i64 (-1)), (2, .int .u64 n), (6, .slice none 0 0), (7, .int .i64 0), (18, .bool true)]) (A2 := A) rfl (by kernel_rfl) ?_
  refine EO.done rfl ?_
  refine J.cond true (by kernel_rfl) (fun _ => ?_) (fun h => Bool.noConfusion h)
  refine J.sr ?_
  refine EO.run 2 [0, 1, 2, 6, 7, 18] (S2 := [(0, v), (1, .int .i64 (-1)), (2, .int .u64 n), (6, .slice none 0 0), (7, .int .i64 (-1)), (18, .bool true)]) (A2 := A) rfl (by kernel_rfl) ?_
  refine EO.done rfl ?_
  refine J.ret ?_
  refine thenJ_r ?_
  refine Ends_r (vs := [.slice none 0 0, .int .i64 (-1)]) (by kernel_rfl) ?_
  exact ⟨rfl, rfl⟩

theorem f26_spec (hp : pre 26 = none) {v : Value} {zs : List Int} (h : RowV A v zs) (hnx : A.nx = none) (k n : Nat) (hk : k ≤ zs.length) (hl : zs.length ≤ 1073741824) (hn : n < 18446744073709551616) :
    (zs.length - k < n → acall Try.prog pre dr 100000 (m + 1) 26 [v, .int .i64 (k : Int), .int .u64 (n : Int)] A = some (.tuple #[.slice none 0 0, .int .i64 (-1)], A)) ∧
    (n ≤ zs.length - k → ∃ w A', acall Try.prog pre dr 100000 (m + 1) 26 [v, .int .i64 (k : Int), .int .u64 (n : Int)] A = some (.tuple #[w, .int .i64 ((k + n : Nat) : Int)], A') ∧ RowV A' w ((zs.drop k).take n) ∧ AExt A A' ∧ A'.nx = none) := by
  have h0 := h
  obtain ⟨a, cap, rfl⟩ := h.form
  constructor
  · intro hlt
    suffices hs : ∃ v' A', acall Try.prog pre dr 100000 (m + 1) 26 [.slice a zs.length cap, .int .i64 (k : Int), .int .u64 (n : Int)] A = some (v', A') ∧ (v' = .tuple #[.slice none 0 0, .int .i64 (-1)] ∧ A' = A) by
      obtain ⟨v', A', e, rfl, rfl⟩ := hs
      exact e
    refine J.fn (fn := Try.f26) hp Try.func26 rfl (Nat.le_of_ble_eq_true rfl) ?_
    refine J.sr ?_
    refine EO.run 2 [0, 1, 2, 6, 7] (S2 := [(0, .slice a zs.length cap), (1, .int .i64 ((k : Nat) : Int)), (2, .int .u64 ((n : Nat) : Int)), (6, .slice none 0 0), (7, .int .i64 0)]) (A2 := A) rfl (by kernel_rfl) ?_
    refine EO.done rfl ?_
    refine J.seq ?_
    refine J.sr ?_
    refine EO.run 3 [0, 1, 2, 6, 7, 10] (S2 := [(0, .slice a zs.length cap), (1, .int .i64 ((k : Nat) : Int)), (2, .int .u64 ((n : Nat) : Int)), (6, .slice none 0 0), (7, .int .i64 0), (10, .bool (decide (((k : Nat) : Int) < 0)))]) (A2 := A) rfl (by kernel_rfl) ?_
    have d1 : (decide (((k : Nat) : Int) < 0)) = false := decide_eq_false (by omega)
    rw [d1]
    refine EO.run 11 [0, 1, 2, 6, 7, 18] (S2 := [(0, .slice a zs.length cap), (1, .int .i64 ((k : Nat) : Int)), (2, .int .u64 ((n : Nat) : Int)), (6, .slice none 0 0), (7, .int .i64 0), (18, .bool (decide (((n : Nat) : Int) > (IntKind.wrap .u64 (IntKind.wrap .i64 (((zs.length : Nat) : Int) - ((k : Nat) : Int)))))))]) (A2 := A) rfl (by kernel_rfl) ?_
    refine EO.done rfl ?_
    have d2 : (decide (((n : Nat) : Int) > (IntKind.wrap .u64 (IntKind.wrap .i64 (((zs.length : Nat) : Int) - ((k : Nat) : Int)))))) = true := decide_eq_true (by rw [wrap_i64 (by omega) (by omega), wrap_u64 (by omega) (by omega)]; omega)
    rw [d2]
    refine J.cond true (by kernel_rfl) (fun _ => ?_) (fun h => Bool.noConfusion h)
    refine J.sr ?_
    refine EO.run 2 [0, 1, 2, 6, 7, 18] (S2 := [(0, .slice a zs.length cap), (1, .int .i64 ((k : Nat) : Int)), (2, .int .u64 ((n : Nat) : Int)), (6, .slice none 0 0), (7, .int .i64 (-1)), (18, .bool true)]) (A2 := A) rfl (by kernel_rfl) ?_
    refine EO.done rfl ?_
    refine J.ret ?_
    refine thenJ_r ?_
    refine Ends_r (vs := [.slice none 0 0, .int .i64 (-1)]) (by kernel_rfl) ?_
    exact ⟨rfl, rfl⟩
  · intro hle
    suffices hs : ∃ v' A', acall Try.prog pre dr 100000 (m + 1) 26 [.slice a zs.length cap, .int .i64 (k : Int), .int .u64 (n : Int)] A = some (v', A') ∧ (∃ w, v' = .tuple #[w, .int .i64 ((k + n : Nat) : Int)] ∧ RowV A' w ((zs.drop k).take n) ∧ AExt A A' ∧ A'.nx = none) by
      obtain ⟨v', A', e, w, rfl, h2⟩ := hs
      exact ⟨w, A', e, h2⟩
    refine J.fn (fn := Try.f26) hp Try.func26 rfl (Nat.le_of_ble_eq_true rfl) ?_
    refine J.sr ?_
    refine EO.run 2 [0, 1, 2, 6, 7] (S2 := [(0, .slice a zs.length cap), (1, .int .i64 ((k : Nat) : Int)), (2, .int .u64 ((n : Nat) : Int)), (6, .slice none 0 0), (7, .int .i64 0)]) (A2 := A) rfl (by kernel_rfl) ?_
    refine EO.done rfl ?_
    refine J.seq ?_
    refine J.sr ?_
    refine EO.run 3 [0, 1, 2, 6, 7, 10] (S2 := [(0, .slice a zs.length cap), (1, .int .i64 ((k : Nat) : Int)), (2, .int .u64 ((n : Nat) : Int)), (6, .slice none 0 0), (7, .int .i64 0), (10, .bool (decide (((k : Nat) : Int) < 0)))]) (A2 := A) rfl (by kernel_rfl) ?_
    have d1 : (decide (((k : Nat) : Int) < 0)) = false := decide_eq_false (by omega)
    rw [d1]
    refine EO.run 11 [0, 1, 2, 6, 7, 18] (S2 := [(0, .slice a zs.length cap), (1, .int .i64 ((k : Nat) : Int)), (2, .int .u64 ((n : Nat) : Int)), (6, .slice none 0 0), (7, .int .i64 0), (18, .bool (decide (((n : Nat) : Int) > (IntKind.wrap .u64 (IntKind.wrap .i64 (((zs.length : Nat) : Int) - ((k : Nat) : Int)))))))]) (A2 := A) rfl (by kernel_rfl) ?_
    refine EO.done rfl ?_
    have d2 : (decide (((n : Nat) : Int) > (IntKind.wrap .u64 (IntKind.wrap .i64 (((zs.length : Nat) : Int) - ((k : Nat) : Int)))))) = false := decide_eq_false (by rw [wrap_i64 (by omega) (by omega), wrap_u64 (by omega) (by omega)]; omega)
    rw [d2]
    refine J.cond false (by kernel_rfl) (fun h => Bool.noConfusion h) (fun _ => ?_)
    refine J.skip ?_
    refine thenJ_n ?_
    refine J.sr ?_
    obtain ⟨A1, hA1, hxA1, hnA1, hgA1, hbA1⟩ := new_empty (A := A) hnx
    refine EO.run 1 [0, 1, 2, 6, 7, 18, 19] (S2 := [(0, .slice a zs.length cap), (1, .int .i64 ((k : Nat) : Int)), (2, .int .u64 ((n : Nat) : Int)), (6, .slice none 0 0), (7, .int .i64 0), (18, .bool false), (19, .slice (some ⟨A.nid, 0, none⟩) 0 0)]) (A2 := A.push (.cells [] false false 1)) rfl (by kernel_rfl) ?_
    rw [hA1]
    refine EO.run 7 [0, 1, 2, 6, 7, 18, 19, 20, 21, 25] (S2 := [(0, .slice a zs.length cap), (1, .int .i64 ((k : Nat) : Int)), (2, .int .u64 ((n : Nat) : Int)), (6, .slice none 0 0), (7, .int .i64 0), (18, .bool false), (19, .slice (some ⟨A.nid, 0, none⟩) 0 0), (20, .slice a zs.length cap), (21, .int .i64 ((k : Nat) : Int)), (25, .int .i64 (IntKind.wrap .i64 (((k : Nat) : Int) + (IntKind.wrap .i64 ((n : Nat) : Int)))))]) (A2 := A1) rfl (by kernel_rfl) ?_
    refine EO.cast (S2 := [(0, .slice a zs.length cap), (1, .int .i64 ((k : Nat) : Int)), (2, .int .u64 ((n : Nat) : Int)), (6, .slice none 0 0), (7, .int .i64 0), (18, .bool false), (19, .slice (some ⟨A.nid, 0, none⟩) 0 0), (20, .slice a zs.length cap), (21, .int .i64 ((k : Nat) : Int)), (25, .int .i64 ((k + n : Nat) : Int))]) (by rw [show (IntKind.wrap .i64 (((k : Nat) : Int) + (IntKind.wrap .i64 ((n : Nat) : Int))) : Int) = ((k + n : Nat) : Int) from by rw [wrap_i64 (x := ((n : Nat) : Int)) (by omega) (by omega), wrap_i64 (by omega) (by omega)]; omega]) ?_
    obtain ⟨w1, A2, hA2, hrw1, hxA2, hnA2⟩ := (h0.ext hxA1).slice2 hnA1 (kd := .i64) k (k + n) (by omega) (by omega)
    refine EO.slice (v := .slice a zs.length cap) (w := w1) (l := some (.int .i64 (Int.ofNat k))) (h' := some (.int .i64 (Int.ofNat (k + n)))) (m := none) (A1 := A2) rfl rfl rfl (by kernel_rfl) (by kernel_rfl) (by kernel_rfl) (by kernel_rfl) rfl ((asliceOp_slice (elem := 5) (size := 1) (by kernel_rfl) (by kernel_rfl)).trans hA2) ?_
    obtain ⟨w2, A3, hA3, hrw2, hxA3, hnA3⟩ := append_empty (ats := #[22, 22]) (fun _ _ => by kernel_rfl) ((hxA2.get _ hbA1).trans hgA1) hrw1 (Nat.lt_of_lt_of_le hbA1 hxA2.size) rfl (by simp; omega) hnA2
    refine EO.append (v := .slice (some ⟨A.nid, 0, none⟩) 0 0) (u := w1) (w := w2) (A1 := A3) rfl rfl rfl rfl rfl (by kernel_rfl) (by kernel_rfl) (by kernel_rfl) hA3 ?_
    refine EO.run 13 [0, 1, 2, 6, 7, 18, 27, 31] (S2 := [(0, .slice a zs.length cap), (1, .int .i64 ((k : Nat) : Int)), (2, .int .u64 ((n : Nat) : Int)), (6, .slice none 0 0), (7, .int .i64 0), (18, .bool false), (27, w2), (31, .int .i64 (IntKind.wrap .i64 (((k : Nat) : Int) + (IntKind.wrap .i64 ((n : Nat) : Int)))))]) (A2 := A3) rfl (by kernel_rfl) ?_
    refine EO.cast (S2 := [(0, .slice a zs.length cap), (1, .int .i64 ((k : Nat) : Int)), (2, .int .u64 ((n : Nat) : Int)), (6, .slice none 0 0), (7, .int .i64 0), (18, .bool false), (27, w2), (31, .int .i64 ((k + n : Nat) : Int))]) (by rw [show (IntKind.wrap .i64 (((k : Nat) : Int) + (IntKind.wrap .i64 ((n : Nat) : Int))) : Int) = ((k + n : Nat) : Int) from by rw [wrap_i64 (x := ((n : Nat) : Int)) (by omega) (by omega), wrap_i64 (by omega) (by omega)]; omega]) ?_
    refine EO.run 15 [0, 1, 2, 6, 7, 18] (S2 := [(0, .slice a zs.length cap), (1, .int .i64 ((k : Nat) : Int)), (2, .int .u64 ((n : Nat) : Int)), (6, w2), (7, .int .i64 ((k + n : Nat) : Int)), (18, .bool false)]) (A2 := A3) rfl (by kernel_rfl) ?_
    refine EO.done rfl ?_
    refine J.ret ?_
    refine Ends_r (vs := [w2, .int .i64 ((k + n : Nat) : Int)]) (by kernel_rfl) ?_
    exact ⟨w2, rfl, by rw [show k + n - k = n from by omega] at hrw2; exact hrw2, hxA1.trans (hxA2.trans hxA3), hnA3⟩
end
end Go.Proofs.Ytioggedadamoaaa
