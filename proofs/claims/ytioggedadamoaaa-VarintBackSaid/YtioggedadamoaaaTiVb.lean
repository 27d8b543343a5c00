/- varint.Take: what it tells of a row of bytes. -/
import Derived.Test.YtioggedadamoaaaAbsR
import Derived.Test.YtioggedadamoaaaTiVa
set_option autoImplicit false
set_option linter.unusedVariables false
set_option linter.unusedSimpArgs false
namespace Go.Proofs.Ytioggedadamoaaa
open Go.Abs Go.RowKit

section
variable {pre : FuncId → Option (List Value → AW → Option (Value × AW))} {dr : CallF → Array Oper → Array Value → AW → Option (Array Value × AW)} {A : AW} {m : Nat}

def fold256 (n : Int) (l : List Int) : Int := l.foldl (fun n c => 256 * n + c) n

/-- The number with which bytes begin, how many bytes it has, is there one. -/
def takeOf : List Int → Int × Nat × Bool
  | [] => (0, 0, false)
  | z :: r => if r.length + 1 < 2 ^ (z / 64).toNat then (0, 0, false) else (fold256 (z % 64) (r.take (2 ^ (z / 64).toNat - 1)), 2 ^ (z / 64).toNat, true)

def takeV (zs : List Int) : Value := .tuple #[.int .u64 (takeOf zs).1, .int .i64 (takeOf zs).2.1, .bool (takeOf zs).2.2]

theorem takeOf_short {z : Int} {r : List Int} {u : Nat} (hu : 2 ^ (z / 64).toNat = u) (h : r.length + 1 < u) : takeOf (z :: r) = (0, 0, false) := by
  simp only [takeOf]
  rw [hu, if_pos h]
theorem takeOf_long {z : Int} {r : List Int} {u : Nat} (hu : 2 ^ (z / 64).toNat = u) (h : ¬ r.length + 1 < u) : takeOf (z :: r) = (fold256 (z % 64) (r.take (u - 1)), u, true) := by
  simp only [takeOf]
  rw [hu, if_neg h]

theorem f10_spec (hp : pre 10 = none) (hp25 : pre 25 = none) {v : Value} {zs : List Int} (h : RowV A v zs) (hnx : A.nx = none) :
    ∃ A', acall Try.prog pre dr 100000 (m + 2) 10 [v] A = some (takeV zs, A') ∧ AExt A A' ∧ A'.nx = none := by
  suffices hs : ∃ v' A', acall Try.prog pre dr 100000 (m + 1 + 1) 10 [v] A = some (v', A') ∧ (v' = takeV zs ∧ AExt A A' ∧ A'.nx = none) by
    obtain ⟨v', A', e, rfl, h1, h2⟩ := hs
    exact ⟨A', e, h1, h2⟩
  rcases h with ⟨rfl, rfl⟩ | ⟨b, o, cap, rfl, hr⟩
  · refine J.fn (fn := Try.f10) hp Try.func10 rfl (Nat.le_of_ble_eq_true rfl) ?_
    refine J.sr ?_
    refine EO.run 3 [0, 2, 3, 4] (S2 := [(0, .slice none 0 0), (2, .int .u64 0), (3, .int .i64 0), (4, .bool false)]) (A2 := A) rfl (by kernel_rfl) ?_
    refine EO.done rfl ?_
    refine J.seq ?_
    refine J.sr ?_
    refine EO.run 3 [0, 2, 3, 4, 9] (S2 := [(0, .slice none 0 0), (2, .int .u64 0), (3, .int .i64 0), (4, .bool false), (9, .bool true)]) (A2 := A) rfl (by kernel_rfl) ?_
    refine EO.done rfl ?_
    refine J.cond true (by kernel_rfl) (fun _ => ?_) (fun h => Bool.noConfusion h)
    refine J.sr ?_
    refine EO.run 3 [0, 2, 3, 4, 9] (S2 := [(0, .slice none 0 0), (2, .int .u64 0), (3, .int .i64 0), (4, .bool false), (9, .bool true)]) (A2 := A) rfl (by kernel_rfl) ?_
    refine EO.done rfl ?_
    refine J.ret ?_
    refine thenJ_r ?_
    refine Ends_r (vs := [.int .u64 0, .int .i64 0, .bool false]) (by kernel_rfl) ?_
    exact ⟨rfl, AExt.refl _, hnx⟩
  · cases zs with
    | nil =>
      refine J.fn (fn := Try.f10) hp Try.func10 rfl (Nat.le_of_ble_eq_true rfl) ?_
      refine J.sr ?_
      refine EO.run 3 [0, 2, 3, 4] (S2 := [(0, .slice (some ⟨b, o, none⟩) 0 cap), (2, .int .u64 0), (3, .int .i64 0), (4, .bool false)]) (A2 := A) rfl (by kernel_rfl) ?_
      refine EO.done rfl ?_
      refine J.seq ?_
      refine J.sr ?_
      refine EO.run 3 [0, 2, 3, 4, 9] (S2 := [(0, .slice (some ⟨b, o, none⟩) 0 cap), (2, .int .u64 0), (3, .int .i64 0), (4, .bool false), (9, .bool true)]) (A2 := A) rfl (by kernel_rfl) ?_
      refine EO.done rfl ?_
      refine J.cond true (by kernel_rfl) (fun _ => ?_) (fun h => Bool.noConfusion h)
      refine J.sr ?_
      refine EO.run 3 [0, 2, 3, 4, 9] (S2 := [(0, .slice (some ⟨b, o, none⟩) 0 cap), (2, .int .u64 0), (3, .int .i64 0), (4, .bool false), (9, .bool true)]) (A2 := A) rfl (by kernel_rfl) ?_
      refine EO.done rfl ?_
      refine J.ret ?_
      refine thenJ_r ?_
      refine Ends_r (vs := [.int .u64 0, .int .i64 0, .bool false]) (by kernel_rfl) ?_
      exact ⟨rfl, AExt.refl _, hnx⟩
    | cons z0 r =>
      have hz0 := hr.byte z0 (by simp)
      have hc4 : z0 / 64 = 0 ∨ z0 / 64 = 1 ∨ z0 / 64 = 2 ∨ z0 / 64 = 3 := by omega
      rcases hc4 with hc | hc | hc | hc
      · have hu : 2 ^ (z0 / 64).toNat = 1 := by rw [hc]; rfl
        by_cases hl : r.length + 1 < 1
        · omega
        ·
          refine J.fn (fn := Try.f10) hp Try.func10 rfl (Nat.le_of_ble_eq_true rfl) ?_
          refine J.sr ?_
          refine EO.run 3 [0, 2, 3, 4] (S2 := [(0, .slice (some ⟨b, o, none⟩) ((z0 :: r).length) cap), (2, .int .u64 0), (3, .int .i64 0), (4, .bool false)]) (A2 := A) rfl (by kernel_rfl) ?_
          refine EO.done rfl ?_
          refine J.seq ?_
          refine J.sr ?_
          refine EO.run 3 [0, 2, 3, 4, 9] (S2 := [(0, .slice (some ⟨b, o, none⟩) ((z0 :: r).length) cap), (2, .int .u64 0), (3, .int .i64 0), (4, .bool false), (9, .bool ((((z0 :: r).length : Nat) : Int) == 0))]) (A2 := A) rfl (by kernel_rfl) ?_
          refine EO.done rfl ?_
          have d1 : ((((z0 :: r).length : Nat) : Int) == 0) = false := beq_false' (by simp only [List.length_cons]; omega)
          rw [d1]
          refine J.cond false (by kernel_rfl) (fun h => Bool.noConfusion h) (fun _ => ?_)
          refine J.skip ?_
          refine thenJ_n ?_
          refine J.sr ?_
          refine EO.run 1 [0, 2, 3, 4, 9, 10] (S2 := [(0, .slice (some ⟨b, o, none⟩) ((z0 :: r).length) cap), (2, .int .u64 0), (3, .int .i64 0), (4, .bool false), (9, .bool false), (10, .slice (some ⟨b, o, none⟩) ((z0 :: r).length) cap)]) (A2 := A) rfl (by kernel_rfl) ?_
          refine EO.index (v := .slice (some ⟨b, o, none⟩) ((z0 :: r).length) cap) (u := .int .i64 (Int.ofNat 0)) (w := .pointer (some ⟨b, o + 0 * 1, none⟩)) rfl rfl rfl (by kernel_rfl) (by kernel_rfl) (by kernel_rfl) (aindexAddr_slice (elem := 5) (size := 1) (by kernel_rfl) (by kernel_rfl) (by simp)) ?_
          refine EO.load (ad := ⟨b, o + 0 * 1, none⟩) (w := .int .u8 z0) rfl rfl rfl (by kernel_rfl) (by kernel_rfl) (hr.load (by kernel_rfl) rfl) ?_
          refine EO.run 4 [0, 2, 3, 4, 9, 13] (S2 := [(0, .slice (some ⟨b, o, none⟩) ((z0 :: r).length) cap), (2, .int .u64 0), (3, .int .i64 0), (4, .bool false), (9, .bool false), (13, .int .u8 (sShr .u8 z0 6))]) (A2 := A) rfl (by kernel_rfl) ?_
          refine EO.cast (S2 := [(0, .slice (some ⟨b, o, none⟩) ((z0 :: r).length) cap), (2, .int .u64 0), (3, .int .i64 0), (4, .bool false), (9, .bool false), (13, .int .u8 0)]) (by rw [show sShr .u8 z0 6 = 0 from by rw [shr6, hc]]) ?_
          refine EO.run 5 [0, 2, 3, 4, 9, 14] (S2 := [(0, .slice (some ⟨b, o, none⟩) ((z0 :: r).length) cap), (2, .int .u64 0), (3, .int .i64 0), (4, .bool false), (9, .bool false), (14, .int .i64 0)]) (A2 := A) rfl (by kernel_rfl) ?_
          refine EO.fcall (f := 25) (vs := [.int .i64 0]) (v := .int .i64 1) (A1 := A) rfl rfl rfl rfl (by kernel_rfl) (by kernel_rfl) (f25_spec_eq hp25 0 (by decide)) ?_
          refine EO.run 7 [0, 2, 3, 4, 9] (S2 := [(0, .slice (some ⟨b, o, none⟩) ((z0 :: r).length) cap), (2, .int .u64 0), (3, .int .i64 1), (4, .bool false), (9, .bool false)]) (A2 := A) rfl (by kernel_rfl) ?_
          refine EO.done rfl ?_
          refine J.seq ?_
          refine J.sr ?_
          refine EO.run 4 [0, 2, 3, 4, 9, 19] (S2 := [(0, .slice (some ⟨b, o, none⟩) ((z0 :: r).length) cap), (2, .int .u64 0), (3, .int .i64 1), (4, .bool false), (9, .bool false), (19, .bool (decide ((((z0 :: r).length : Nat) : Int) < 1)))]) (A2 := A) rfl (by kernel_rfl) ?_
          refine EO.done rfl ?_
          have d2 : (decide ((((z0 :: r).length : Nat) : Int) < 1)) = false := decide_eq_false (by simp only [List.length_cons] at *; omega)
          rw [d2]
          refine J.cond false (by kernel_rfl) (fun h => Bool.noConfusion h) (fun _ => ?_)
          refine J.skip ?_
          refine thenJ_n ?_
          refine J.sr ?_
          refine EO.run 1 [0, 2, 3, 4, 9, 19, 20] (S2 := [(0, .slice (some ⟨b, o, none⟩) ((z0 :: r).length) cap), (2, .int .u64 0), (3, .int .i64 1), (4, .bool false), (9, .bool false), (19, .bool false), (20, .slice (some ⟨b, o, none⟩) ((z0 :: r).length) cap)]) (A2 := A) rfl (by kernel_rfl) ?_
          refine EO.index (v := .slice (some ⟨b, o, none⟩) ((z0 :: r).length) cap) (u := .int .i64 (Int.ofNat 0)) (w := .pointer (some ⟨b, o + 0 * 1, none⟩)) rfl rfl rfl (by kernel_rfl) (by kernel_rfl) (by kernel_rfl) (aindexAddr_slice (elem := 5) (size := 1) (by kernel_rfl) (by kernel_rfl) (by simp)) ?_
          refine EO.load (ad := ⟨b, o + 0 * 1, none⟩) (w := .int .u8 z0) rfl rfl rfl (by kernel_rfl) (by kernel_rfl) (hr.load (by kernel_rfl) rfl) ?_
          refine EO.run 5 [0, 2, 3, 4, 9, 19, 24] (S2 := [(0, .slice (some ⟨b, o, none⟩) ((z0 :: r).length) cap), (2, .int .u64 0), (3, .int .i64 1), (4, .bool false), (9, .bool false), (19, .bool false), (24, .int .u64 (IntKind.wrap .u64 (bAnd .u8 z0 63)))]) (A2 := A) rfl (by kernel_rfl) ?_
          refine EO.cast (S2 := [(0, .slice (some ⟨b, o, none⟩) ((z0 :: r).length) cap), (2, .int .u64 0), (3, .int .i64 1), (4, .bool false), (9, .bool false), (19, .bool false), (24, .int .u64 (z0 % 64))]) (by rw [and63 hz0]) ?_
          refine EO.run 6 [0, 2, 3, 4, 9, 19] (S2 := [(0, .slice (some ⟨b, o, none⟩) ((z0 :: r).length) cap), (2, .int .u64 (z0 % 64)), (3, .int .i64 1), (4, .bool false), (9, .bool false), (19, .bool false)]) (A2 := A) rfl (by kernel_rfl) ?_
          refine EO.done rfl ?_
          refine J.seq ?_
          refine J.sr ?_
          refine EO.run 2 [0, 2, 3, 4, 9, 19, 25, 26] (S2 := [(0, .slice (some ⟨b, o, none⟩) ((z0 :: r).length) cap), (2, .int .u64 (z0 % 64)), (3, .int .i64 1), (4, .bool false), (9, .bool false), (19, .bool false), (25, .slice (some ⟨b, o, none⟩) ((z0 :: r).length) cap), (26, .int .i64 1)]) (A2 := A) rfl (by kernel_rfl) ?_
          obtain ⟨w, A2, hw, hRV, hx, hn2, hne⟩ := hr.slice hnx (lo := some (.int .i64 (Int.ofNat 1))) (hi := some (.int .i64 (Int.ofNat 1))) (l := 1) (k := 1) (aboundO_nat (Nat.le_trans (by simp) hr.le)) (aboundO_nat (by decide)) (by simp) (by decide)
          rcases hRV with ⟨hw2, _⟩ | ⟨b2, o2, cap2, rfl, hr2⟩
          · exact absurd hw2 hne
          have hr3 : Row A2 b2 o2 cap2 [] := hr2
          refine EO.slice (v := .slice (some ⟨b, o, none⟩) ((z0 :: r).length) cap) (w := .slice (some ⟨b2, o2, none⟩) 0 cap2) (l := some (.int .i64 (Int.ofNat 1))) (h' := some (.int .i64 (Int.ofNat 1))) (m := none) (A1 := A2) rfl rfl rfl (by kernel_rfl) (by kernel_rfl) (by kernel_rfl) (by kernel_rfl) rfl ((asliceOp_slice (elem := 5) (size := 1) (by kernel_rfl) (by kernel_rfl)).trans hw) ?_
          refine EO.run 5 [0, 2, 3, 4, 9, 19, 27, 28, 29] (S2 := [(0, .slice (some ⟨b, o, none⟩) ((z0 :: r).length) cap), (2, .int .u64 (z0 % 64)), (3, .int .i64 1), (4, .bool false), (9, .bool false), (19, .bool false), (27, .slice (some ⟨b2, o2, none⟩) 0 cap2), (28, .int .i64 0), (29, .int .i64 0)]) (A2 := A2) rfl (by kernel_rfl) ?_
          refine EO.done rfl ?_
          refine J.block ?_
          refine J.unroll ?_
          refine JL.step ?_
          refine J.sr ?_
          refine EO.run 1 [0, 2, 3, 4, 9, 19, 27, 28, 29, 30] (S2 := [(0, .slice (some ⟨b, o, none⟩) ((z0 :: r).length) cap), (2, .int .u64 (z0 % 64)), (3, .int .i64 1), (4, .bool false), (9, .bool false), (19, .bool false), (27, .slice (some ⟨b2, o2, none⟩) 0 cap2), (28, .int .i64 0), (29, .int .i64 0), (30, .bool false)]) (A2 := A2) rfl (by kernel_rfl) ?_
          refine EO.done rfl ?_
          refine J.seq ?_
          refine J.cond false (by kernel_rfl) (fun h => Bool.noConfusion h) (fun _ => ?_)
          refine J.exit ?_
          refine thenJ_e ?_
          refine loopQ_e ?_
          refine blockQ_hit ?_
          refine thenJ_n ?_
          refine J.sr ?_
          refine EO.run 5 [0, 2, 3, 4, 9, 19, 27, 28, 29, 30] (S2 := [(0, .slice (some ⟨b, o, none⟩) ((z0 :: r).length) cap), (2, .int .u64 (z0 % 64)), (3, .int .i64 1), (4, .bool true), (9, .bool false), (19, .bool false), (27, .slice (some ⟨b2, o2, none⟩) 0 cap2), (28, .int .i64 0), (29, .int .i64 0), (30, .bool false)]) (A2 := A2) rfl (by kernel_rfl) ?_
          refine EO.done rfl ?_
          refine J.ret ?_
          refine Ends_r (vs := [.int .u64 (z0 % 64), .int .i64 1, .bool true]) (by kernel_rfl) ?_
          exact ⟨by unfold takeV; rw [takeOf_long hu hl]; rfl, hx, hn2⟩
      · have hu : 2 ^ (z0 / 64).toNat = 2 := by rw [hc]; rfl
        by_cases hl : r.length + 1 < 2
        ·
          refine J.fn (fn := Try.f10) hp Try.func10 rfl (Nat.le_of_ble_eq_true rfl) ?_
          refine J.sr ?_
          refine EO.run 3 [0, 2, 3, 4] (S2 := [(0, .slice (some ⟨b, o, none⟩) ((z0 :: r).length) cap), (2, .int .u64 0), (3, .int .i64 0), (4, .bool false)]) (A2 := A) rfl (by kernel_rfl) ?_
          refine EO.done rfl ?_
          refine J.seq ?_
          refine J.sr ?_
          refine EO.run 3 [0, 2, 3, 4, 9] (S2 := [(0, .slice (some ⟨b, o, none⟩) ((z0 :: r).length) cap), (2, .int .u64 0), (3, .int .i64 0), (4, .bool false), (9, .bool ((((z0 :: r).length : Nat) : Int) == 0))]) (A2 := A) rfl (by kernel_rfl) ?_
          refine EO.done rfl ?_
          have d1 : ((((z0 :: r).length : Nat) : Int) == 0) = false := beq_false' (by simp only [List.length_cons]; omega)
          rw [d1]
          refine J.cond false (by kernel_rfl) (fun h => Bool.noConfusion h) (fun _ => ?_)
          refine J.skip ?_
          refine thenJ_n ?_
          refine J.sr ?_
          refine EO.run 1 [0, 2, 3, 4, 9, 10] (S2 := [(0, .slice (some ⟨b, o, none⟩) ((z0 :: r).length) cap), (2, .int .u64 0), (3, .int .i64 0), (4, .bool false), (9, .bool false), (10, .slice (some ⟨b, o, none⟩) ((z0 :: r).length) cap)]) (A2 := A) rfl (by kernel_rfl) ?_
          refine EO.index (v := .slice (some ⟨b, o, none⟩) ((z0 :: r).length) cap) (u := .int .i64 (Int.ofNat 0)) (w := .pointer (some ⟨b, o + 0 * 1, none⟩)) rfl rfl rfl (by kernel_rfl) (by kernel_rfl) (by kernel_rfl) (aindexAddr_slice (elem := 5) (size := 1) (by kernel_rfl) (by kernel_rfl) (by simp)) ?_
          refine EO.load (ad := ⟨b, o + 0 * 1, none⟩) (w := .int .u8 z0) rfl rfl rfl (by kernel_rfl) (by kernel_rfl) (hr.load (by kernel_rfl) rfl) ?_
          refine EO.run 4 [0, 2, 3, 4, 9, 13] (S2 := [(0, .slice (some ⟨b, o, none⟩) ((z0 :: r).length) cap), (2, .int .u64 0), (3, .int .i64 0), (4, .bool false), (9, .bool false), (13, .int .u8 (sShr .u8 z0 6))]) (A2 := A) rfl (by kernel_rfl) ?_
          refine EO.cast (S2 := [(0, .slice (some ⟨b, o, none⟩) ((z0 :: r).length) cap), (2, .int .u64 0), (3, .int .i64 0), (4, .bool false), (9, .bool false), (13, .int .u8 1)]) (by rw [show sShr .u8 z0 6 = 1 from by rw [shr6, hc]]) ?_
          refine EO.run 5 [0, 2, 3, 4, 9, 14] (S2 := [(0, .slice (some ⟨b, o, none⟩) ((z0 :: r).length) cap), (2, .int .u64 0), (3, .int .i64 0), (4, .bool false), (9, .bool false), (14, .int .i64 1)]) (A2 := A) rfl (by kernel_rfl) ?_
          refine EO.fcall (f := 25) (vs := [.int .i64 1]) (v := .int .i64 2) (A1 := A) rfl rfl rfl rfl (by kernel_rfl) (by kernel_rfl) (f25_spec_eq hp25 1 (by decide)) ?_
          refine EO.run 7 [0, 2, 3, 4, 9] (S2 := [(0, .slice (some ⟨b, o, none⟩) ((z0 :: r).length) cap), (2, .int .u64 0), (3, .int .i64 2), (4, .bool false), (9, .bool false)]) (A2 := A) rfl (by kernel_rfl) ?_
          refine EO.done rfl ?_
          refine J.seq ?_
          refine J.sr ?_
          refine EO.run 4 [0, 2, 3, 4, 9, 19] (S2 := [(0, .slice (some ⟨b, o, none⟩) ((z0 :: r).length) cap), (2, .int .u64 0), (3, .int .i64 2), (4, .bool false), (9, .bool false), (19, .bool (decide ((((z0 :: r).length : Nat) : Int) < 2)))]) (A2 := A) rfl (by kernel_rfl) ?_
          refine EO.done rfl ?_
          have d2 : (decide ((((z0 :: r).length : Nat) : Int) < 2)) = true := decide_eq_true (by simp only [List.length_cons] at *; omega)
          rw [d2]
          refine J.cond true (by kernel_rfl) (fun _ => ?_) (fun h => Bool.noConfusion h)
          refine J.sr ?_
          refine EO.run 3 [0, 2, 3, 4, 9, 19] (S2 := [(0, .slice (some ⟨b, o, none⟩) ((z0 :: r).length) cap), (2, .int .u64 0), (3, .int .i64 0), (4, .bool false), (9, .bool false), (19, .bool true)]) (A2 := A) rfl (by kernel_rfl) ?_
          refine EO.done rfl ?_
          refine J.ret ?_
          refine thenJ_r ?_
          refine Ends_r (vs := [.int .u64 0, .int .i64 0, .bool false]) (by kernel_rfl) ?_
          exact ⟨by unfold takeV; rw [takeOf_short hu hl]; rfl, AExt.refl _, hnx⟩
        ·
          obtain ⟨z1, r1, rfl⟩ := exists_cons (r := r) (by simp at hl; omega)
          have hz1 := hr.byte z1 (by simp)
          refine J.fn (fn := Try.f10) hp Try.func10 rfl (Nat.le_of_ble_eq_true rfl) ?_
          refine J.sr ?_
          refine EO.run 3 [0, 2, 3, 4] (S2 := [(0, .slice (some ⟨b, o, none⟩) ((z0 :: z1 :: r1).length) cap), (2, .int .u64 0), (3, .int .i64 0), (4, .bool false)]) (A2 := A) rfl (by kernel_rfl) ?_
          refine EO.done rfl ?_
          refine J.seq ?_
          refine J.sr ?_
          refine EO.run 3 [0, 2, 3, 4, 9] (S2 := [(0, .slice (some ⟨b, o, none⟩) ((z0 :: z1 :: r1).length) cap), (2, .int .u64 0), (3, .int .i64 0), (4, .bool false), (9, .bool ((((z0 :: z1 :: r1).length : Nat) : Int) == 0))]) (A2 := A) rfl (by kernel_rfl) ?_
          refine EO.done rfl ?_
          have d1 : ((((z0 :: z1 :: r1).length : Nat) : Int) == 0) = false := beq_false' (by simp only [List.length_cons]; omega)
          rw [d1]
          refine J.cond false (by kernel_rfl) (fun h => Bool.noConfusion h) (fun _ => ?_)
          refine J.skip ?_
          refine thenJ_n ?_
          refine J.sr ?_
          refine EO.run 1 [0, 2, 3, 4, 9, 10] (S2 := [(0, .slice (some ⟨b, o, none⟩) ((z0 :: z1 :: r1).length) cap), (2, .int .u64 0), (3, .int .i64 0), (4, .bool false), (9, .bool false), (10, .slice (some ⟨b, o, none⟩) ((z0 :: z1 :: r1).length) cap)]) (A2 := A) rfl (by kernel_rfl) ?_
          refine EO.index (v := .slice (some ⟨b, o, none⟩) ((z0 :: z1 :: r1).length) cap) (u := .int .i64 (Int.ofNat 0)) (w := .pointer (some ⟨b, o + 0 * 1, none⟩)) rfl rfl rfl (by kernel_rfl) (by kernel_rfl) (by kernel_rfl) (aindexAddr_slice (elem := 5) (size := 1) (by kernel_rfl) (by kernel_rfl) (by simp)) ?_
          refine EO.load (ad := ⟨b, o + 0 * 1, none⟩) (w := .int .u8 z0) rfl rfl rfl (by kernel_rfl) (by kernel_rfl) (hr.load (by kernel_rfl) rfl) ?_
          refine EO.run 4 [0, 2, 3, 4, 9, 13] (S2 := [(0, .slice (some ⟨b, o, none⟩) ((z0 :: z1 :: r1).length) cap), (2, .int .u64 0), (3, .int .i64 0), (4, .bool false), (9, .bool false), (13, .int .u8 (sShr .u8 z0 6))]) (A2 := A) rfl (by kernel_rfl) ?_
          refine EO.cast (S2 := [(0, .slice (some ⟨b, o, none⟩) ((z0 :: z1 :: r1).length) cap), (2, .int .u64 0), (3, .int .i64 0), (4, .bool false), (9, .bool false), (13, .int .u8 1)]) (by rw [show sShr .u8 z0 6 = 1 from by rw [shr6, hc]]) ?_
          refine EO.run 5 [0, 2, 3, 4, 9, 14] (S2 := [(0, .slice (some ⟨b, o, none⟩) ((z0 :: z1 :: r1).length) cap), (2, .int .u64 0), (3, .int .i64 0), (4, .bool false), (9, .bool false), (14, .int .i64 1)]) (A2 := A) rfl (by kernel_rfl) ?_
          refine EO.fcall (f := 25) (vs := [.int .i64 1]) (v := .int .i64 2) (A1 := A) rfl rfl rfl rfl (by kernel_rfl) (by kernel_rfl) (f25_spec_eq hp25 1 (by decide)) ?_
          refine EO.run 7 [0, 2, 3, 4, 9] (S2 := [(0, .slice (some ⟨b, o, none⟩) ((z0 :: z1 :: r1).length) cap), (2, .int .u64 0), (3, .int .i64 2), (4, .bool false), (9, .bool false)]) (A2 := A) rfl (by kernel_rfl) ?_
          refine EO.done rfl ?_
          refine J.seq ?_
          refine J.sr ?_
          refine EO.run 4 [0, 2, 3, 4, 9, 19] (S2 := [(0, .slice (some ⟨b, o, none⟩) ((z0 :: z1 :: r1).length) cap), (2, .int .u64 0), (3, .int .i64 2), (4, .bool false), (9, .bool false), (19, .bool (decide ((((z0 :: z1 :: r1).length : Nat) : Int) < 2)))]) (A2 := A) rfl (by kernel_rfl) ?_
          refine EO.done rfl ?_
          have d2 : (decide ((((z0 :: z1 :: r1).length : Nat) : Int) < 2)) = false := decide_eq_false (by simp only [List.length_cons] at *; omega)
          rw [d2]
          refine J.cond false (by kernel_rfl) (fun h => Bool.noConfusion h) (fun _ => ?_)
          refine J.skip ?_
          refine thenJ_n ?_
          refine J.sr ?_
          refine EO.run 1 [0, 2, 3, 4, 9, 19, 20] (S2 := [(0, .slice (some ⟨b, o, none⟩) ((z0 :: z1 :: r1).length) cap), (2, .int .u64 0), (3, .int .i64 2), (4, .bool false), (9, .bool false), (19, .bool false), (20, .slice (some ⟨b, o, none⟩) ((z0 :: z1 :: r1).length) cap)]) (A2 := A) rfl (by kernel_rfl) ?_
          refine EO.index (v := .slice (some ⟨b, o, none⟩) ((z0 :: z1 :: r1).length) cap) (u := .int .i64 (Int.ofNat 0)) (w := .pointer (some ⟨b, o + 0 * 1, none⟩)) rfl rfl rfl (by kernel_rfl) (by kernel_rfl) (by kernel_rfl) (aindexAddr_slice (elem := 5) (size := 1) (by kernel_rfl) (by kernel_rfl) (by simp)) ?_
          refine EO.load (ad := ⟨b, o + 0 * 1, none⟩) (w := .int .u8 z0) rfl rfl rfl (by kernel_rfl) (by kernel_rfl) (hr.load (by kernel_rfl) rfl) ?_
          refine EO.run 5 [0, 2, 3, 4, 9, 19, 24] (S2 := [(0, .slice (some ⟨b, o, none⟩) ((z0 :: z1 :: r1).length) cap), (2, .int .u64 0), (3, .int .i64 2), (4, .bool false), (9, .bool false), (19, .bool false), (24, .int .u64 (IntKind.wrap .u64 (bAnd .u8 z0 63)))]) (A2 := A) rfl (by kernel_rfl) ?_
          refine EO.cast (S2 := [(0, .slice (some ⟨b, o, none⟩) ((z0 :: z1 :: r1).length) cap), (2, .int .u64 0), (3, .int .i64 2), (4, .bool false), (9, .bool false), (19, .bool false), (24, .int .u64 (z0 % 64))]) (by rw [and63 hz0]) ?_
          refine EO.run 6 [0, 2, 3, 4, 9, 19] (S2 := [(0, .slice (some ⟨b, o, none⟩) ((z0 :: z1 :: r1).length) cap), (2, .int .u64 (z0 % 64)), (3, .int .i64 2), (4, .bool false), (9, .bool false), (19, .bool false)]) (A2 := A) rfl (by kernel_rfl) ?_
          refine EO.done rfl ?_
          refine J.seq ?_
          refine J.sr ?_
          refine EO.run 2 [0, 2, 3, 4, 9, 19, 25, 26] (S2 := [(0, .slice (some ⟨b, o, none⟩) ((z0 :: z1 :: r1).length) cap), (2, .int .u64 (z0 % 64)), (3, .int .i64 2), (4, .bool false), (9, .bool false), (19, .bool false), (25, .slice (some ⟨b, o, none⟩) ((z0 :: z1 :: r1).length) cap), (26, .int .i64 2)]) (A2 := A) rfl (by kernel_rfl) ?_
          obtain ⟨w, A2, hw, hRV, hx, hn2, hne⟩ := hr.slice hnx (lo := some (.int .i64 (Int.ofNat 1))) (hi := some (.int .i64 (Int.ofNat 2))) (l := 1) (k := 2) (aboundO_nat (Nat.le_trans (by simp) hr.le)) (aboundO_nat (by decide)) (by simp) (by decide)
          rcases hRV with ⟨hw2, _⟩ | ⟨b2, o2, cap2, rfl, hr2⟩
          · exact absurd hw2 hne
          have hr3 : Row A2 b2 o2 cap2 [z1] := hr2
          refine EO.slice (v := .slice (some ⟨b, o, none⟩) ((z0 :: z1 :: r1).length) cap) (w := .slice (some ⟨b2, o2, none⟩) 1 cap2) (l := some (.int .i64 (Int.ofNat 1))) (h' := some (.int .i64 (Int.ofNat 2))) (m := none) (A1 := A2) rfl rfl rfl (by kernel_rfl) (by kernel_rfl) (by kernel_rfl) (by kernel_rfl) rfl ((asliceOp_slice (elem := 5) (size := 1) (by kernel_rfl) (by kernel_rfl)).trans hw) ?_
          refine EO.run 5 [0, 2, 3, 4, 9, 19, 27, 28, 29] (S2 := [(0, .slice (some ⟨b, o, none⟩) ((z0 :: z1 :: r1).length) cap), (2, .int .u64 (z0 % 64)), (3, .int .i64 2), (4, .bool false), (9, .bool false), (19, .bool false), (27, .slice (some ⟨b2, o2, none⟩) 1 cap2), (28, .int .i64 1), (29, .int .i64 0)]) (A2 := A2) rfl (by kernel_rfl) ?_
          refine EO.done rfl ?_
          refine J.block ?_
          refine J.unroll ?_
          refine JL.step ?_
          refine J.sr ?_
          refine EO.run 1 [0, 2, 3, 4, 9, 19, 27, 28, 29, 30] (S2 := [(0, .slice (some ⟨b, o, none⟩) ((z0 :: z1 :: r1).length) cap), (2, .int .u64 (z0 % 64)), (3, .int .i64 2), (4, .bool false), (9, .bool false), (19, .bool false), (27, .slice (some ⟨b2, o2, none⟩) 1 cap2), (28, .int .i64 1), (29, .int .i64 0), (30, .bool true)]) (A2 := A2) rfl (by kernel_rfl) ?_
          refine EO.done rfl ?_
          refine J.seq ?_
          refine J.cond true (by kernel_rfl) (fun _ => ?_) (fun h => Bool.noConfusion h)
          refine J.skip ?_
          refine thenJ_n ?_
          refine J.seq ?_
          refine J.block ?_
          refine J.sr ?_
          refine EO.index (v := .slice (some ⟨b2, o2, none⟩) 1 cap2) (u := .int .i64 (Int.ofNat 0)) (w := .pointer (some ⟨b2, o2 + 0 * 1, none⟩)) rfl rfl rfl (by kernel_rfl) (by kernel_rfl) (by kernel_rfl) (aindexAddr_slice (elem := 5) (size := 1) (by kernel_rfl) (by kernel_rfl) (by simp)) ?_
          refine EO.load (ad := ⟨b2, o2 + 0 * 1, none⟩) (w := .int .u8 z1) rfl rfl rfl (by kernel_rfl) (by kernel_rfl) (hr3.load (by kernel_rfl) rfl) ?_
          refine EO.run 3 [0, 2, 3, 4, 6, 9, 19, 27, 28, 29, 30] (S2 := [(0, .slice (some ⟨b, o, none⟩) ((z0 :: z1 :: r1).length) cap), (2, .int .u64 (z0 % 64)), (3, .int .i64 2), (4, .bool false), (6, .int .u8 z1), (9, .bool false), (19, .bool false), (27, .slice (some ⟨b2, o2, none⟩) 1 cap2), (28, .int .i64 1), (29, .int .i64 0), (30, .bool true)]) (A2 := A2) rfl (by kernel_rfl) ?_
          refine EO.done rfl ?_
          refine J.region ?_
          refine EO.run 5 [0, 2, 3, 4, 6, 9, 19, 27, 28, 29, 30, 37] (S2 := [(0, .slice (some ⟨b, o, none⟩) ((z0 :: z1 :: r1).length) cap), (2, .int .u64 (z0 % 64)), (3, .int .i64 2), (4, .bool false), (6, .int .u8 z1), (9, .bool false), (19, .bool false), (27, .slice (some ⟨b2, o2, none⟩) 1 cap2), (28, .int .i64 1), (29, .int .i64 0), (30, .bool true), (37, .int .u64 (bOr .u64 (sShl .u64 (z0 % 64) 8) (IntKind.wrap .u64 z1)))]) (A2 := A2) rfl (by kernel_rfl) ?_
          refine EO.cast (S2 := [(0, .slice (some ⟨b, o, none⟩) ((z0 :: z1 :: r1).length) cap), (2, .int .u64 (z0 % 64)), (3, .int .i64 2), (4, .bool false), (6, .int .u8 z1), (9, .bool false), (19, .bool false), (27, .slice (some ⟨b2, o2, none⟩) 1 cap2), (28, .int .i64 1), (29, .int .i64 0), (30, .bool true), (37, .int .u64 (256 * (z0 % 64) + z1))]) (by rw [or_step (x := z0 % 64) (by omega) (by omega) hz1]) ?_
          refine EO.run 6 [0, 2, 3, 4, 6, 9, 19, 27, 28, 29, 30] (S2 := [(0, .slice (some ⟨b, o, none⟩) ((z0 :: z1 :: r1).length) cap), (2, .int .u64 (256 * (z0 % 64) + z1)), (3, .int .i64 2), (4, .bool false), (6, .int .u8 z1), (9, .bool false), (19, .bool false), (27, .slice (some ⟨b2, o2, none⟩) 1 cap2), (28, .int .i64 1), (29, .int .i64 0), (30, .bool true)]) (A2 := A2) rfl (by kernel_rfl) ?_
          refine EO.done rfl ?_
          refine blockQ_n ?_
          refine thenJ_n ?_
          refine J.region ?_
          refine EO.run 2 [0, 2, 3, 4, 6, 9, 19, 27, 28, 29, 30] (S2 := [(0, .slice (some ⟨b, o, none⟩) ((z0 :: z1 :: r1).length) cap), (2, .int .u64 (256 * (z0 % 64) + z1)), (3, .int .i64 2), (4, .bool false), (6, .int .u8 z1), (9, .bool false), (19, .bool false), (27, .slice (some ⟨b2, o2, none⟩) 1 cap2), (28, .int .i64 1), (29, .int .i64 1), (30, .bool true)]) (A2 := A2) rfl (by kernel_rfl) ?_
          refine EO.done rfl ?_
          refine loopQ_n ?_
          refine JL.step ?_
          refine J.sr ?_
          refine EO.run 1 [0, 2, 3, 4, 6, 9, 19, 27, 28, 29, 30] (S2 := [(0, .slice (some ⟨b, o, none⟩) ((z0 :: z1 :: r1).length) cap), (2, .int .u64 (256 * (z0 % 64) + z1)), (3, .int .i64 2), (4, .bool false), (6, .int .u8 z1), (9, .bool false), (19, .bool false), (27, .slice (some ⟨b2, o2, none⟩) 1 cap2), (28, .int .i64 1), (29, .int .i64 1), (30, .bool false)]) (A2 := A2) rfl (by kernel_rfl) ?_
          refine EO.done rfl ?_
          refine J.seq ?_
          refine J.cond false (by kernel_rfl) (fun h => Bool.noConfusion h) (fun _ => ?_)
          refine J.exit ?_
          refine thenJ_e ?_
          refine loopQ_e ?_
          refine blockQ_hit ?_
          refine thenJ_n ?_
          refine J.sr ?_
          refine EO.run 5 [0, 2, 3, 4, 6, 9, 19, 27, 28, 29, 30] (S2 := [(0, .slice (some ⟨b, o, none⟩) ((z0 :: z1 :: r1).length) cap), (2, .int .u64 (256 * (z0 % 64) + z1)), (3, .int .i64 2), (4, .bool true), (6, .int .u8 z1), (9, .bool false), (19, .bool false), (27, .slice (some ⟨b2, o2, none⟩) 1 cap2), (28, .int .i64 1), (29, .int .i64 1), (30, .bool false)]) (A2 := A2) rfl (by kernel_rfl) ?_
          refine EO.done rfl ?_
          refine J.ret ?_
          refine Ends_r (vs := [.int .u64 (256 * (z0 % 64) + z1), .int .i64 2, .bool true]) (by kernel_rfl) ?_
          exact ⟨by unfold takeV; rw [takeOf_long hu hl]; rfl, hx, hn2⟩
      · have hu : 2 ^ (z0 / 64).toNat = 4 := by rw [hc]; rfl
        by_cases hl : r.length + 1 < 4
        ·
          refine J.fn (fn := Try.f10) hp Try.func10 rfl (Nat.le_of_ble_eq_true rfl) ?_
          refine J.sr ?_
          refine EO.run 3 [0, 2, 3, 4] (S2 := [(0, .slice (some ⟨b, o, none⟩) ((z0 :: r).length) cap), (2, .int .u64 0), (3, .int .i64 0), (4, .bool false)]) (A2 := A) rfl (by kernel_rfl) ?_
          refine EO.done rfl ?_
          refine J.seq ?_
          refine J.sr ?_
          refine EO.run 3 [0, 2, 3, 4, 9] (S2 := [(0, .slice (some ⟨b, o, none⟩) ((z0 :: r).length) cap), (2, .int .u64 0), (3, .int .i64 0), (4, .bool false), (9, .bool ((((z0 :: r).length : Nat) : Int) == 0))]) (A2 := A) rfl (by kernel_rfl) ?_
          refine EO.done rfl ?_
          have d1 : ((((z0 :: r).length : Nat) : Int) == 0) = false := beq_false' (by simp only [List.length_cons]; omega)
          rw [d1]
          refine J.cond false (by kernel_rfl) (fun h => Bool.noConfusion h) (fun _ => ?_)
          refine J.skip ?_
          refine thenJ_n ?_
          refine J.sr ?_
          refine EO.run 1 [0, 2, 3, 4, 9, 10] (S2 := [(0, .slice (some ⟨b, o, none⟩) ((z0 :: r).length) cap), (2, .int .u64 0), (3, .int .i64 0), (4, .bool false), (9, .bool false), (10, .slice (some ⟨b, o, none⟩) ((z0 :: r).length) cap)]) (A2 := A) rfl (by kernel_rfl) ?_
          refine EO.index (v := .slice (some ⟨b, o, none⟩) ((z0 :: r).length) cap) (u := .int .i64 (Int.ofNat 0)) (w := .pointer (some ⟨b, o + 0 * 1, none⟩)) rfl rfl rfl (by kernel_rfl) (by kernel_rfl) (by kernel_rfl) (aindexAddr_slice (elem := 5) (size := 1) (by kernel_rfl) (by kernel_rfl) (by simp)) ?_
          refine EO.load (ad := ⟨b, o + 0 * 1, none⟩) (w := .int .u8 z0) rfl rfl rfl (by kernel_rfl) (by kernel_rfl) (hr.load (by kernel_rfl) rfl) ?_
          refine EO.run 4 [0, 2, 3, 4, 9, 13] (S2 := [(0, .slice (some ⟨b, o, none⟩) ((z0 :: r).length) cap), (2, .int .u64 0), (3, .int .i64 0), (4, .bool false), (9, .bool false), (13, .int .u8 (sShr .u8 z0 6))]) (A2 := A) rfl (by kernel_rfl) ?_
          refine EO.cast (S2 := [(0, .slice (some ⟨b, o, none⟩) ((z0 :: r).length) cap), (2, .int .u64 0), (3, .int .i64 0), (4, .bool false), (9, .bool false), (13, .int .u8 2)]) (by rw [show sShr .u8 z0 6 = 2 from by rw [shr6, hc]]) ?_
          refine EO.run 5 [0, 2, 3, 4, 9, 14] (S2 := [(0, .slice (some ⟨b, o, none⟩) ((z0 :: r).length) cap), (2, .int .u64 0), (3, .int .i64 0), (4, .bool false), (9, .bool false), (14, .int .i64 2)]) (A2 := A) rfl (by kernel_rfl) ?_
          refine EO.fcall (f := 25) (vs := [.int .i64 2]) (v := .int .i64 4) (A1 := A) rfl rfl rfl rfl (by kernel_rfl) (by kernel_rfl) (f25_spec_eq hp25 2 (by decide)) ?_
          refine EO.run 7 [0, 2, 3, 4, 9] (S2 := [(0, .slice (some ⟨b, o, none⟩) ((z0 :: r).length) cap), (2, .int .u64 0), (3, .int .i64 4), (4, .bool false), (9, .bool false)]) (A2 := A) rfl (by kernel_rfl) ?_
          refine EO.done rfl ?_
          refine J.seq ?_
          refine J.sr ?_
          refine EO.run 4 [0, 2, 3, 4, 9, 19] (S2 := [(0, .slice (some ⟨b, o, none⟩) ((z0 :: r).length) cap), (2, .int .u64 0), (3, .int .i64 4), (4, .bool false), (9, .bool false), (19, .bool (decide ((((z0 :: r).length : Nat) : Int) < 4)))]) (A2 := A) rfl (by kernel_rfl) ?_
          refine EO.done rfl ?_
          have d2 : (decide ((((z0 :: r).length : Nat) : Int) < 4)) = true := decide_eq_true (by simp only [List.length_cons] at *; omega)
          rw [d2]
          refine J.cond true (by kernel_rfl) (fun _ => ?_) (fun h => Bool.noConfusion h)
          refine J.sr ?_
          refine EO.run 3 [0, 2, 3, 4, 9, 19] (S2 := [(0, .slice (some ⟨b, o, none⟩) ((z0 :: r).length) cap), (2, .int .u64 0), (3, .int .i64 0), (4, .bool false), (9, .bool false), (19, .bool true)]) (A2 := A) rfl (by kernel_rfl) ?_
          refine EO.done rfl ?_
          refine J.ret ?_
          refine thenJ_r ?_
          refine Ends_r (vs := [.int .u64 0, .int .i64 0, .bool false]) (by kernel_rfl) ?_
          exact ⟨by unfold takeV; rw [takeOf_short hu hl]; rfl, AExt.refl _, hnx⟩
        ·
          obtain ⟨z1, r1, rfl⟩ := exists_cons (r := r) (by simp at hl; omega)
          obtain ⟨z2, r2, rfl⟩ := exists_cons (r := r1) (by simp at hl; omega)
          obtain ⟨z3, r3, rfl⟩ := exists_cons (r := r2) (by simp at hl; omega)
          have hz1 := hr.byte z1 (by simp)
          have hz2 := hr.byte z2 (by simp)
          have hz3 := hr.byte z3 (by simp)
          refine J.fn (fn := Try.f10) hp Try.func10 rfl (Nat.le_of_ble_eq_true rfl) ?_
          refine J.sr ?_
          refine EO.run 3 [0, 2, 3, 4] (S2 := [(0, .slice (some ⟨b, o, none⟩) ((z0 :: z1 :: z2 :: z3 :: r3).length) cap), (2, .int .u64 0), (3, .int .i64 0), (4, .bool false)]) (A2 := A) rfl (by kernel_rfl) ?_
          refine EO.done rfl ?_
          refine J.seq ?_
          refine J.sr ?_
          refine EO.run 3 [0, 2, 3, 4, 9] (S2 := [(0, .slice (some ⟨b, o, none⟩) ((z0 :: z1 :: z2 :: z3 :: r3).length) cap), (2, .int .u64 0), (3, .int .i64 0), (4, .bool false), (9, .bool ((((z0 :: z1 :: z2 :: z3 :: r3).length : Nat) : Int) == 0))]) (A2 := A) rfl (by kernel_rfl) ?_
          refine EO.done rfl ?_
          have d1 : ((((z0 :: z1 :: z2 :: z3 :: r3).length : Nat) : Int) == 0) = false := beq_false' (by simp only [List.length_cons]; omega)
          rw [d1]
          refine J.cond false (by kernel_rfl) (fun h => Bool.noConfusion h) (fun _ => ?_)
          refine J.skip ?_
          refine thenJ_n ?_
          refine J.sr ?_
          refine EO.run 1 [0, 2, 3, 4, 9, 10] (S2 := [(0, .slice (some ⟨b, o, none⟩) ((z0 :: z1 :: z2 :: z3 :: r3).length) cap), (2, .int .u64 0), (3, .int .i64 0), (4, .bool false), (9, .bool false), (10, .slice (some ⟨b, o, none⟩) ((z0 :: z1 :: z2 :: z3 :: r3).length) cap)]) (A2 := A) rfl (by kernel_rfl) ?_
          refine EO.index (v := .slice (some ⟨b, o, none⟩) ((z0 :: z1 :: z2 :: z3 :: r3).length) cap) (u := .int .i64 (Int.ofNat 0)) (w := .pointer (some ⟨b, o + 0 * 1, none⟩)) rfl rfl rfl (by kernel_rfl) (by kernel_rfl) (by kernel_rfl) (aindexAddr_slice (elem := 5) (size := 1) (by kernel_rfl) (by kernel_rfl) (by simp)) ?_
          refine EO.load (ad := ⟨b, o + 0 * 1, none⟩) (w := .int .u8 z0) rfl rfl rfl (by kernel_rfl) (by kernel_rfl) (hr.load (by kernel_rfl) rfl) ?_
          refine EO.run 4 [0, 2, 3, 4, 9, 13] (S2 := [(0, .slice (some ⟨b, o, none⟩) ((z0 :: z1 :: z2 :: z3 :: r3).length) cap), (2, .int .u64 0), (3, .int .i64 0), (4, .bool false), (9, .bool false), (13, .int .u8 (sShr .u8 z0 6))]) (A2 := A) rfl (by kernel_rfl) ?_
          refine EO.cast (S2 := [(0, .slice (some ⟨b, o, none⟩) ((z0 :: z1 :: z2 :: z3 :: r3).length) cap), (2, .int .u64 0), (3, .int .i64 0), (4, .bool false), (9, .bool false), (13, .int .u8 2)]) (by rw [show sShr .u8 z0 6 = 2 from by rw [shr6, hc]]) ?_
          refine EO.run 5 [0, 2, 3, 4, 9, 14] (S2 := [(0, .slice (some ⟨b, o, none⟩) ((z0 :: z1 :: z2 :: z3 :: r3).length) cap), (2, .int .u64 0), (3, .int .i64 0), (4, .bool false), (9, .bool false), (14, .int .i64 2)]) (A2 := A) rfl (by kernel_rfl) ?_
          refine EO.fcall (f := 25) (vs := [.int .i64 2]) (v := .int .i64 4) (A1 := A) rfl rfl rfl rfl (by kernel_rfl) (by kernel_rfl) (f25_spec_eq hp25 2 (by decide)) ?_
          refine EO.run 7 [0, 2, 3, 4, 9] (S2 := [(0, .slice (some ⟨b, o, none⟩) ((z0 :: z1 :: z2 :: z3 :: r3).length) cap), (2, .int .u64 0), (3, .int .i64 4), (4, .bool false), (9, .bool false)]) (A2 := A) rfl (by kernel_rfl) ?_
          refine EO.done rfl ?_
          refine J.seq ?_
          refine J.sr ?_
          refine EO.run 4 [0, 2, 3, 4, 9, 19] (S2 := [(0, .slice (some ⟨b, o, none⟩) ((z0 :: z1 :: z2 :: z3 :: r3).length) cap), (2, .int .u64 0), (3, .int .i64 4), (4, .bool false), (9, .bool false), (19, .bool (decide ((((z0 :: z1 :: z2 :: z3 :: r3).length : Nat) : Int) < 4)))]) (A2 := A) rfl (by kernel_rfl) ?_
          refine EO.done rfl ?_
          have d2 : (decide ((((z0 :: z1 :: z2 :: z3 :: r3).length : Nat) : Int) < 4)) = false := decide_eq_false (by simp only [List.length_cons] at *; omega)
          rw [d2]
          refine J.cond false (by kernel_rfl) (fun h => Bool.noConfusion h) (fun _ => ?_)
          refine J.skip ?_
          refine thenJ_n ?_
          refine J.sr ?_
          refine EO.run 1 [0, 2, 3, 4, 9, 19, 20] (S2 := [(0, .slice (some ⟨b, o, none⟩) ((z0 :: z1 :: z2 :: z3 :: r3).length) cap), (2, .int .u64 0), (3, .int .i64 4), (4, .bool false), (9, .bool false), (19, .bool false), (20, .slice (some ⟨b, o, none⟩) ((z0 :: z1 :: z2 :: z3 :: r3).length) cap)]) (A2 := A) rfl (by kernel_rfl) ?_
          refine EO.index (v := .slice (some ⟨b, o, none⟩) ((z0 :: z1 :: z2 :: z3 :: r3).length) cap) (u := .int .i64 (Int.ofNat 0)) (w := .pointer (some ⟨b, o + 0 * 1, none⟩)) rfl rfl rfl (by kernel_rfl) (by kernel_rfl) (by kernel_rfl) (aindexAddr_slice (elem := 5) (size := 1) (by kernel_rfl) (by kernel_rfl) (by simp)) ?_
          refine EO.load (ad := ⟨b, o + 0 * 1, none⟩) (w := .int .u8 z0) rfl rfl rfl (by kernel_rfl) (by kernel_rfl) (hr.load (by kernel_rfl) rfl) ?_
          refine EO.run 5 [0, 2, 3, 4, 9, 19, 24] (S2 := [(0, .slice (some ⟨b, o, none⟩) ((z0 :: z1 :: z2 :: z3 :: r3).length) cap), (2, .int .u64 0), (3, .int .i64 4), (4, .bool false), (9, .bool false), (19, .bool false), (24, .int .u64 (IntKind.wrap .u64 (bAnd .u8 z0 63)))]) (A2 := A) rfl (by kernel_rfl) ?_
          refine EO.cast (S2 := [(0, .slice (some ⟨b, o, none⟩) ((z0 :: z1 :: z2 :: z3 :: r3).length) cap), (2, .int .u64 0), (3, .int .i64 4), (4, .bool false), (9, .bool false), (19, .bool false), (24, .int .u64 (z0 % 64))]) (by rw [and63 hz0]) ?_
          refine EO.run 6 [0, 2, 3, 4, 9, 19] (S2 := [(0, .slice (some ⟨b, o, none⟩) ((z0 :: z1 :: z2 :: z3 :: r3).length) cap), (2, .int .u64 (z0 % 64)), (3, .int .i64 4), (4, .bool false), (9, .bool false), (19, .bool false)]) (A2 := A) rfl (by kernel_rfl) ?_
          refine EO.done rfl ?_
          refine J.seq ?_
          refine J.sr ?_
          refine EO.run 2 [0, 2, 3, 4, 9, 19, 25, 26] (S2 := [(0, .slice (some ⟨b, o, none⟩) ((z0 :: z1 :: z2 :: z3 :: r3).length) cap), (2, .int .u64 (z0 % 64)), (3, .int .i64 4), (4, .bool false), (9, .bool false), (19, .bool false), (25, .slice (some ⟨b, o, none⟩) ((z0 :: z1 :: z2 :: z3 :: r3).length) cap), (26, .int .i64 4)]) (A2 := A) rfl (by kernel_rfl) ?_
          obtain ⟨w, A2, hw, hRV, hx, hn2, hne⟩ := hr.slice hnx (lo := some (.int .i64 (Int.ofNat 1))) (hi := some (.int .i64 (Int.ofNat 4))) (l := 1) (k := 4) (aboundO_nat (Nat.le_trans (by simp) hr.le)) (aboundO_nat (by decide)) (by simp) (by decide)
          rcases hRV with ⟨hw2, _⟩ | ⟨b2, o2, cap2, rfl, hr2⟩
          · exact absurd hw2 hne
          have hr3 : Row A2 b2 o2 cap2 [z1, z2, z3] := hr2
          refine EO.slice (v := .slice (some ⟨b, o, none⟩) ((z0 :: z1 :: z2 :: z3 :: r3).length) cap) (w := .slice (some ⟨b2, o2, none⟩) 3 cap2) (l := some (.int .i64 (Int.ofNat 1))) (h' := some (.int .i64 (Int.ofNat 4))) (m := none) (A1 := A2) rfl rfl rfl (by kernel_rfl) (by kernel_rfl) (by kernel_rfl) (by kernel_rfl) rfl ((asliceOp_slice (elem := 5) (size := 1) (by kernel_rfl) (by kernel_rfl)).trans hw) ?_
          refine EO.run 5 [0, 2, 3, 4, 9, 19, 27, 28, 29] (S2 := [(0, .slice (some ⟨b, o, none⟩) ((z0 :: z1 :: z2 :: z3 :: r3).length) cap), (2, .int .u64 (z0 % 64)), (3, .int .i64 4), (4, .bool false), (9, .bool false), (19, .bool false), (27, .slice (some ⟨b2, o2, none⟩) 3 cap2), (28, .int .i64 3), (29, .int .i64 0)]) (A2 := A2) rfl (by kernel_rfl) ?_
          refine EO.done rfl ?_
          refine J.block ?_
          refine J.unroll ?_
          refine JL.step ?_
          refine J.sr ?_
          refine EO.run 1 [0, 2, 3, 4, 9, 19, 27, 28, 29, 30] (S2 := [(0, .slice (some ⟨b, o, none⟩) ((z0 :: z1 :: z2 :: z3 :: r3).length) cap), (2, .int .u64 (z0 % 64)), (3, .int .i64 4), (4, .bool false), (9, .bool false), (19, .bool false), (27, .slice (some ⟨b2, o2, none⟩) 3 cap2), (28, .int .i64 3), (29, .int .i64 0), (30, .bool true)]) (A2 := A2) rfl (by kernel_rfl) ?_
          refine EO.done rfl ?_
          refine J.seq ?_
          refine J.cond true (by kernel_rfl) (fun _ => ?_) (fun h => Bool.noConfusion h)
          refine J.skip ?_
          refine thenJ_n ?_
          refine J.seq ?_
          refine J.block ?_
          refine J.sr ?_
          refine EO.index (v := .slice (some ⟨b2, o2, none⟩) 3 cap2) (u := .int .i64 (Int.ofNat 0)) (w := .pointer (some ⟨b2, o2 + 0 * 1, none⟩)) rfl rfl rfl (by kernel_rfl) (by kernel_rfl) (by kernel_rfl) (aindexAddr_slice (elem := 5) (size := 1) (by kernel_rfl) (by kernel_rfl) (by simp)) ?_
          refine EO.load (ad := ⟨b2, o2 + 0 * 1, none⟩) (w := .int .u8 z1) rfl rfl rfl (by kernel_rfl) (by kernel_rfl) (hr3.load (by kernel_rfl) rfl) ?_
          refine EO.run 3 [0, 2, 3, 4, 6, 9, 19, 27, 28, 29, 30] (S2 := [(0, .slice (some ⟨b, o, none⟩) ((z0 :: z1 :: z2 :: z3 :: r3).length) cap), (2, .int .u64 (z0 % 64)), (3, .int .i64 4), (4, .bool false), (6, .int .u8 z1), (9, .bool false), (19, .bool false), (27, .slice (some ⟨b2, o2, none⟩) 3 cap2), (28, .int .i64 3), (29, .int .i64 0), (30, .bool true)]) (A2 := A2) rfl (by kernel_rfl) ?_
          refine EO.done rfl ?_
          refine J.region ?_
          refine EO.run 5 [0, 2, 3, 4, 6, 9, 19, 27, 28, 29, 30, 37] (S2 := [(0, .slice (some ⟨b, o, none⟩) ((z0 :: z1 :: z2 :: z3 :: r3).length) cap), (2, .int .u64 (z0 % 64)), (3, .int .i64 4), (4, .bool false), (6, .int .u8 z1), (9, .bool false), (19, .bool false), (27, .slice (some ⟨b2, o2, none⟩) 3 cap2), (28, .int .i64 3), (29, .int .i64 0), (30, .bool true), (37, .int .u64 (bOr .u64 (sShl .u64 (z0 % 64) 8) (IntKind.wrap .u64 z1)))]) (A2 := A2) rfl (by kernel_rfl) ?_
          refine EO.cast (S2 := [(0, .slice (some ⟨b, o, none⟩) ((z0 :: z1 :: z2 :: z3 :: r3).length) cap), (2, .int .u64 (z0 % 64)), (3, .int .i64 4), (4, .bool false), (6, .int .u8 z1), (9, .bool false), (19, .bool false), (27, .slice (some ⟨b2, o2, none⟩) 3 cap2), (28, .int .i64 3), (29, .int .i64 0), (30, .bool true), (37, .int .u64 (256 * (z0 % 64) + z1))]) (by rw [or_step (x := z0 % 64) (by omega) (by omega) hz1]) ?_
          refine EO.run 6 [0, 2, 3, 4, 6, 9, 19, 27, 28, 29, 30] (S2 := [(0, .slice (some ⟨b, o, none⟩) ((z0 :: z1 :: z2 :: z3 :: r3).length) cap), (2, .int .u64 (256 * (z0 % 64) + z1)), (3, .int .i64 4), (4, .bool false), (6, .int .u8 z1), (9, .bool false), (19, .bool false), (27, .slice (some ⟨b2, o2, none⟩) 3 cap2), (28, .int .i64 3), (29, .int .i64 0), (30, .bool true)]) (A2 := A2) rfl (by kernel_rfl) ?_
          refine EO.done rfl ?_
          refine blockQ_n ?_
          refine thenJ_n ?_
          refine J.region ?_
          refine EO.run 2 [0, 2, 3, 4, 6, 9, 19, 27, 28, 29, 30] (S2 := [(0, .slice (some ⟨b, o, none⟩) ((z0 :: z1 :: z2 :: z3 :: r3).length) cap), (2, .int .u64 (256 * (z0 % 64) + z1)), (3, .int .i64 4), (4, .bool false), (6, .int .u8 z1), (9, .bool false), (19, .bool false), (27, .slice (some ⟨b2, o2, none⟩) 3 cap2), (28, .int .i64 3), (29, .int .i64 1), (30, .bool true)]) (A2 := A2) rfl (by kernel_rfl) ?_
          refine EO.done rfl ?_
          refine loopQ_n ?_
          refine JL.step ?_
          refine J.sr ?_
          refine EO.run 1 [0, 2, 3, 4, 6, 9, 19, 27, 28, 29, 30] (S2 := [(0, .slice (some ⟨b, o, none⟩) ((z0 :: z1 :: z2 :: z3 :: r3).length) cap), (2, .int .u64 (256 * (z0 % 64) + z1)), (3, .int .i64 4), (4, .bool false), (6, .int .u8 z1), (9, .bool false), (19, .bool false), (27, .slice (some ⟨b2, o2, none⟩) 3 cap2), (28, .int .i64 3), (29, .int .i64 1), (30, .bool true)]) (A2 := A2) rfl (by kernel_rfl) ?_
          refine EO.done rfl ?_
          refine J.seq ?_
          refine J.cond true (by kernel_rfl) (fun _ => ?_) (fun h => Bool.noConfusion h)
          refine J.skip ?_
          refine thenJ_n ?_
          refine J.seq ?_
          refine J.block ?_
          refine J.sr ?_
          refine EO.index (v := .slice (some ⟨b2, o2, none⟩) 3 cap2) (u := .int .i64 (Int.ofNat 1)) (w := .pointer (some ⟨b2, o2 + 1 * 1, none⟩)) rfl rfl rfl (by kernel_rfl) (by kernel_rfl) (by kernel_rfl) (aindexAddr_slice (elem := 5) (size := 1) (by kernel_rfl) (by kernel_rfl) (by simp)) ?_
          refine EO.load (ad := ⟨b2, o2 + 1 * 1, none⟩) (w := .int .u8 z2) rfl rfl rfl (by kernel_rfl) (by kernel_rfl) (hr3.load (by kernel_rfl) rfl) ?_
          refine EO.run 3 [0, 2, 3, 4, 6, 9, 19, 27, 28, 29, 30] (S2 := [(0, .slice (some ⟨b, o, none⟩) ((z0 :: z1 :: z2 :: z3 :: r3).length) cap), (2, .int .u64 (256 * (z0 % 64) + z1)), (3, .int .i64 4), (4, .bool false), (6, .int .u8 z2), (9, .bool false), (19, .bool false), (27, .slice (some ⟨b2, o2, none⟩) 3 cap2), (28, .int .i64 3), (29, .int .i64 1), (30, .bool true)]) (A2 := A2) rfl (by kernel_rfl) ?_
          refine EO.done rfl ?_
          refine J.region ?_
          refine EO.run 5 [0, 2, 3, 4, 6, 9, 19, 27, 28, 29, 30, 37] (S2 := [(0, .slice (some ⟨b, o, none⟩) ((z0 :: z1 :: z2 :: z3 :: r3).length) cap), (2, .int .u64 (256 * (z0 % 64) + z1)), (3, .int .i64 4), (4, .bool false), (6, .int .u8 z2), (9, .bool false), (19, .bool false), (27, .slice (some ⟨b2, o2, none⟩) 3 cap2), (28, .int .i64 3), (29, .int .i64 1), (30, .bool true), (37, .int .u64 (bOr .u64 (sShl .u64 (256 * (z0 % 64) + z1) 8) (IntKind.wrap .u64 z2)))]) (A2 := A2) rfl (by kernel_rfl) ?_
          refine EO.cast (S2 := [(0, .slice (some ⟨b, o, none⟩) ((z0 :: z1 :: z2 :: z3 :: r3).length) cap), (2, .int .u64 (256 * (z0 % 64) + z1)), (3, .int .i64 4), (4, .bool false), (6, .int .u8 z2), (9, .bool false), (19, .bool false), (27, .slice (some ⟨b2, o2, none⟩) 3 cap2), (28, .int .i64 3), (29, .int .i64 1), (30, .bool true), (37, .int .u64 (256 * (256 * (z0 % 64) + z1) + z2))]) (by rw [or_step (x := 256 * (z0 % 64) + z1) (by omega) (by omega) hz2]) ?_
          refine EO.run 6 [0, 2, 3, 4, 6, 9, 19, 27, 28, 29, 30] (S2 := [(0, .slice (some ⟨b, o, none⟩) ((z0 :: z1 :: z2 :: z3 :: r3).length) cap), (2, .int .u64 (256 * (256 * (z0 % 64) + z1) + z2)), (3, .int .i64 4), (4, .bool false), (6, .int .u8 z2), (9, .bool false), (19, .bool false), (27, .slice (some ⟨b2, o2, none⟩) 3 cap2), (28, .int .i64 3), (29, .int .i64 1), (30, .bool true)]) (A2 := A2) rfl (by kernel_rfl) ?_
          refine EO.done rfl ?_
          refine blockQ_n ?_
          refine thenJ_n ?_
          refine J.region ?_
          refine EO.run 2 [0, 2, 3, 4, 6, 9, 19, 27, 28, 29, 30] (S2 := [(0, .slice (some ⟨b, o, none⟩) ((z0 :: z1 :: z2 :: z3 :: r3).length) cap), (2, .int .u64 (256 * (256 * (z0 % 64) + z1) + z2)), (3, .int .i64 4), (4, .bool false), (6, .int .u8 z2), (9, .bool false), (19, .bool false), (27, .slice (some ⟨b2, o2, none⟩) 3 cap2), (28, .int .i64 3), (29, .int .i64 2), (30, .bool true)]) (A2 := A2) rfl (by kernel_rfl) ?_
          refine EO.done rfl ?_
          refine loopQ_n ?_
          refine JL.step ?_
          refine J.sr ?_
          refine EO.run 1 [0, 2, 3, 4, 6, 9, 19, 27, 28, 29, 30] (S2 := [(0, .slice (some ⟨b, o, none⟩) ((z0 :: z1 :: z2 :: z3 :: r3).length) cap), (2, .int .u64 (256 * (256 * (z0 % 64) + z1) + z2)), (3, .int .i64 4), (4, .bool false), (6, .int .u8 z2), (9, .bool false), (19, .bool false), (27, .slice (some ⟨b2, o2, none⟩) 3 cap2), (28, .int .i64 3), (29, .int .i64 2), (30, .bool true)]) (A2 := A2) rfl (by kernel_rfl) ?_
          refine EO.done rfl ?_
          refine J.seq ?_
          refine J.cond true (by kernel_rfl) (fun _ => ?_) (fun h => Bool.noConfusion h)
          refine J.skip ?_
          refine thenJ_n ?_
          refine J.seq ?_
          refine J.block ?_
          refine J.sr ?_
          refine EO.index (v := .slice (some ⟨b2, o2, none⟩) 3 cap2) (u := .int .i64 (Int.ofNat 2)) (w := .pointer (some ⟨b2, o2 + 2 * 1, none⟩)) rfl rfl rfl (by kernel_rfl) (by kernel_rfl) (by kernel_rfl) (aindexAddr_slice (elem := 5) (size := 1) (by kernel_rfl) (by kernel_rfl) (by simp)) ?_
          refine EO.load (ad := ⟨b2, o2 + 2 * 1, none⟩) (w := .int .u8 z3) rfl rfl rfl (by kernel_rfl) (by kernel_rfl) (hr3.load (by kernel_rfl) rfl) ?_
          refine EO.run 3 [0, 2, 3, 4, 6, 9, 19, 27, 28, 29, 30] (S2 := [(0, .slice (some ⟨b, o, none⟩) ((z0 :: z1 :: z2 :: z3 :: r3).length) cap), (2, .int .u64 (256 * (256 * (z0 % 64) + z1) + z2)), (3, .int .i64 4), (4, .bool false), (6, .int .u8 z3), (9, .bool false), (19, .bool false), (27, .slice (some ⟨b2, o2, none⟩) 3 cap2), (28, .int .i64 3), (29, .int .i64 2), (30, .bool true)]) (A2 := A2) rfl (by kernel_rfl) ?_
          refine EO.done rfl ?_
          refine J.region ?_
          refine EO.run 5 [0, 2, 3, 4, 6, 9, 19, 27, 28, 29, 30, 37] (S2 := [(0, .slice (some ⟨b, o, none⟩) ((z0 :: z1 :: z2 :: z3 :: r3).length) cap), (2, .int .u64 (256 * (256 * (z0 % 64) + z1) + z2)), (3, .int .i64 4), (4, .bool false), (6, .int .u8 z3), (9, .bool false), (19, .bool false), (27, .slice (some ⟨b2, o2, none⟩) 3 cap2), (28, .int .i64 3), (29, .int .i64 2), (30, .bool true), (37, .int .u64 (bOr .u64 (sShl .u64 (256 * (256 * (z0 % 64) + z1) + z2) 8) (IntKind.wrap .u64 z3)))]) (A2 := A2) rfl (by kernel_rfl) ?_
          refine EO.cast (S2 := [(0, .slice (some ⟨b, o, none⟩) ((z0 :: z1 :: z2 :: z3 :: r3).length) cap), (2, .int .u64 (256 * (256 * (z0 % 64) + z1) + z2)), (3, .int .i64 4), (4, .bool false), (6, .int .u8 z3), (9, .bool false), (19, .bool false), (27, .slice (some ⟨b2, o2, none⟩) 3 cap2), (28, .int .i64 3), (29, .int .i64 2), (30, .bool true), (37, .int .u64 (256 * (256 * (256 * (z0 % 64) + z1) + z2) + z3))]) (by rw [or_step (x := 256 * (256 * (z0 % 64) + z1) + z2) (by omega) (by omega) hz3]) ?_
          refine EO.run 6 [0, 2, 3, 4, 6, 9, 19, 27, 28, 29, 30] (S2 := [(0, .slice (some ⟨b, o, none⟩) ((z0 :: z1 :: z2 :: z3 :: r3).length) cap), (2, .int .u64 (256 * (256 * (256 * (z0 % 64) + z1) + z2) + z3)), (3, .int .i64 4), (4, .bool false), (6, .int .u8 z3), (9, .bool false), (19, .bool false), (27, .slice (some ⟨b2, o2, none⟩) 3 cap2), (28, .int .i64 3), (29, .int .i64 2), (30, .bool true)]) (A2 := A2) rfl (by kernel_rfl) ?_
          refine EO.done rfl ?_
          refine blockQ_n ?_
          refine thenJ_n ?_
          refine J.region ?_
          refine EO.run 2 [0, 2, 3, 4, 6, 9, 19, 27, 28, 29, 30] (S2 := [(0, .slice (some ⟨b, o, none⟩) ((z0 :: z1 :: z2 :: z3 :: r3).length) cap), (2, .int .u64 (256 * (256 * (256 * (z0 % 64) + z1) + z2) + z3)), (3, .int .i64 4), (4, .bool false), (6, .int .u8 z3), (9, .bool false), (19, .bool false), (27, .slice (some ⟨b2, o2, none⟩) 3 cap2), (28, .int .i64 3), (29, .int .i64 3), (30, .bool true)]) (A2 := A2) rfl (by kernel_rfl) ?_
          refine EO.done rfl ?_
          refine loopQ_n ?_
          refine JL.step ?_
          refine J.sr ?_
          refine EO.run 1 [0, 2, 3, 4, 6, 9, 19, 27, 28, 29, 30] (S2 := [(0, .slice (some ⟨b, o, none⟩) ((z0 :: z1 :: z2 :: z3 :: r3).length) cap), (2, .int .u64 (256 * (256 * (256 * (z0 % 64) + z1) + z2) + z3)), (3, .int .i64 4), (4, .bool false), (6, .int .u8 z3), (9, .bool false), (19, .bool false), (27, .slice (some ⟨b2, o2, none⟩) 3 cap2), (28, .int .i64 3), (29, .int .i64 3), (30, .bool false)]) (A2 := A2) rfl (by kernel_rfl) ?_
          refine EO.done rfl ?_
          refine J.seq ?_
          refine J.cond false (by kernel_rfl) (fun h => Bool.noConfusion h) (fun _ => ?_)
          refine J.exit ?_
          refine thenJ_e ?_
          refine loopQ_e ?_
          refine blockQ_hit ?_
          refine thenJ_n ?_
          refine J.sr ?_
          refine EO.run 5 [0, 2, 3, 4, 6, 9, 19, 27, 28, 29, 30] (S2 := [(0, .slice (some ⟨b, o, none⟩) ((z0 :: z1 :: z2 :: z3 :: r3).length) cap), (2, .int .u64 (256 * (256 * (256 * (z0 % 64) + z1) + z2) + z3)), (3, .int .i64 4), (4, .bool true), (6, .int .u8 z3), (9, .bool false), (19, .bool false), (27, .slice (some ⟨b2, o2, none⟩) 3 cap2), (28, .int .i64 3), (29, .int .i64 3), (30, .bool false)]) (A2 := A2) rfl (by kernel_rfl) ?_
          refine EO.done rfl ?_
          refine J.ret ?_
          refine Ends_r (vs := [.int .u64 (256 * (256 * (256 * (z0 % 64) + z1) + z2) + z3), .int .i64 4, .bool true]) (by kernel_rfl) ?_
          exact ⟨by unfold takeV; rw [takeOf_long hu hl]; rfl, hx, hn2⟩
      · have hu : 2 ^ (z0 / 64).toNat = 8 := by rw [hc]; rfl
        by_cases hl : r.length + 1 < 8
        ·
          refine J.fn (fn := Try.f10) hp Try.func10 rfl (Nat.le_of_ble_eq_true rfl) ?_
          refine J.sr ?_
          refine EO.run 3 [0, 2, 3, 4] (S2 := [(0, .slice (some ⟨b, o, none⟩) ((z0 :: r).length) cap), (2, .int .u64 0), (3, .int .i64 0), (4, .bool false)]) (A2 := A) rfl (by kernel_rfl) ?_
          refine EO.done rfl ?_
          refine J.seq ?_
          refine J.sr ?_
          refine EO.run 3 [0, 2, 3, 4, 9] (S2 := [(0, .slice (some ⟨b, o, none⟩) ((z0 :: r).length) cap), (2, .int .u64 0), (3, .int .i64 0), (4, .bool false), (9, .bool ((((z0 :: r).length : Nat) : Int) == 0))]) (A2 := A) rfl (by kernel_rfl) ?_
          refine EO.done rfl ?_
          have d1 : ((((z0 :: r).length : Nat) : Int) == 0) = false := beq_false' (by simp only [List.length_cons]; omega)
          rw [d1]
          refine J.cond false (by kernel_rfl) (fun h => Bool.noConfusion h) (fun _ => ?_)
          refine J.skip ?_
          refine thenJ_n ?_
          refine J.sr ?_
          refine EO.run 1 [0, 2, 3, 4, 9, 10] (S2 := [(0, .slice (some ⟨b, o, none⟩) ((z0 :: r).length) cap), (2, .int .u64 0), (3, .int .i64 0), (4, .bool false), (9, .bool false), (10, .slice (some ⟨b, o, none⟩) ((z0 :: r).length) cap)]) (A2 := A) rfl (by kernel_rfl) ?_
          refine EO.index (v := .slice (some ⟨b, o, none⟩) ((z0 :: r).length) cap) (u := .int .i64 (Int.ofNat 0)) (w := .pointer (some ⟨b, o + 0 * 1, none⟩)) rfl rfl rfl (by kernel_rfl) (by kernel_rfl) (by kernel_rfl) (aindexAddr_slice (elem := 5) (size := 1) (by kernel_rfl) (by kernel_rfl) (by simp)) ?_
          refine EO.load (ad := ⟨b, o + 0 * 1, none⟩) (w := .int .u8 z0) rfl rfl rfl (by kernel_rfl) (by kernel_rfl) (hr.load (by kernel_rfl) rfl) ?_
          refine EO.run 4 [0, 2, 3, 4, 9, 13] (S2 := [(0, .slice (some ⟨b, o, none⟩) ((z0 :: r).length) cap), (2, .int .u64 0), (3, .int .i64 0), (4, .bool false), (9, .bool false), (13, .int .u8 (sShr .u8 z0 6))]) (A2 := A) rfl (by kernel_rfl) ?_
          refine EO.cast (S2 := [(0, .slice (some ⟨b, o, none⟩) ((z0 :: r).length) cap), (2, .int .u64 0), (3, .int .i64 0), (4, .bool false), (9, .bool false), (13, .int .u8 3)]) (by rw [show sShr .u8 z0 6 = 3 from by rw [shr6, hc]]) ?_
          refine EO.run 5 [0, 2, 3, 4, 9, 14] (S2 := [(0, .slice (some ⟨b, o, none⟩) ((z0 :: r).length) cap), (2, .int .u64 0), (3, .int .i64 0), (4, .bool false), (9, .bool false), (14, .int .i64 3)]) (A2 := A) rfl (by kernel_rfl) ?_
          refine EO.fcall (f := 25) (vs := [.int .i64 3]) (v := .int .i64 8) (A1 := A) rfl rfl rfl rfl (by kernel_rfl) (by kernel_rfl) (f25_spec_eq hp25 3 (by decide)) ?_
          refine EO.run 7 [0, 2, 3, 4, 9] (S2 := [(0, .slice (some ⟨b, o, none⟩) ((z0 :: r).length) cap), (2, .int .u64 0), (3, .int .i64 8), (4, .bool false), (9, .bool false)]) (A2 := A) rfl (by kernel_rfl) ?_
          refine EO.done rfl ?_
          refine J.seq ?_
          refine J.sr ?_
          refine EO.run 4 [0, 2, 3, 4, 9, 19] (S2 := [(0, .slice (some ⟨b, o, none⟩) ((z0 :: r).length) cap), (2, .int .u64 0), (3, .int .i64 8), (4, .bool false), (9, .bool false), (19, .bool (decide ((((z0 :: r).length : Nat) : Int) < 8)))]) (A2 := A) rfl (by kernel_rfl) ?_
          refine EO.done rfl ?_
          have d2 : (decide ((((z0 :: r).length : Nat) : Int) < 8)) = true := decide_eq_true (by simp only [List.length_cons] at *; omega)
          rw [d2]
          refine J.cond true (by kernel_rfl) (fun _ => ?_) (fun h => Bool.noConfusion h)
          refine J.sr ?_
          refine EO.run 3 [0, 2, 3, 4, 9, 19] (S2 := [(0, .slice (some ⟨b, o, none⟩) ((z0 :: r).length) cap), (2, .int .u64 0), (3, .int .i64 0), (4, .bool false), (9, .bool false), (19, .bool true)]) (A2 := A) rfl (by kernel_rfl) ?_
          refine EO.done rfl ?_
          refine J.ret ?_
          refine thenJ_r ?_
          refine Ends_r (vs := [.int .u64 0, .int .i64 0, .bool false]) (by kernel_rfl) ?_
          exact ⟨by unfold takeV; rw [takeOf_short hu hl]; rfl, AExt.refl _, hnx⟩
        ·
          obtain ⟨z1, r1, rfl⟩ := exists_cons (r := r) (by simp at hl; omega)
          obtain ⟨z2, r2, rfl⟩ := exists_cons (r := r1) (by simp at hl; omega)
          obtain ⟨z3, r3, rfl⟩ := exists_cons (r := r2) (by simp at hl; omega)
          obtain ⟨z4, r4, rfl⟩ := exists_cons (r := r3) (by simp at hl; omega)
          obtain ⟨z5, r5, rfl⟩ := exists_cons (r := r4) (by simp at hl; omega)
          obtain ⟨z6, r6, rfl⟩ := exists_cons (r := r5) (by simp at hl; omega)
          obtain ⟨z7, r7, rfl⟩ := exists_cons (r := r6) (by simp at hl; omega)
          have hz1 := hr.byte z1 (by simp)
          have hz2 := hr.byte z2 (by simp)
          have hz3 := hr.byte z3 (by simp)
          have hz4 := hr.byte z4 (by simp)
          have hz5 := hr.byte z5 (by simp)
          have hz6 := hr.byte z6 (by simp)
          have hz7 := hr.byte z7 (by simp)
          refine J.fn (fn := Try.f10) hp Try.func10 rfl (Nat.le_of_ble_eq_true rfl) ?_
          refine J.sr ?_
          refine EO.run 3 [0, 2, 3, 4] (S2 := [(0, .slice (some ⟨b, o, none⟩) ((z0 :: z1 :: z2 :: z3 :: z4 :: z5 :: z6 :: z7 :: r7).length) cap), (2, .int .u64 0), (3, .int .i64 0), (4, .bool false)]) (A2 := A) rfl (by kernel_rfl) ?_
          refine EO.done rfl ?_
          refine J.seq ?_
          refine J.sr ?_
          refine EO.run 3 [0, 2, 3, 4, 9] (S2 := [(0, .slice (some ⟨b, o, none⟩) ((z0 :: z1 :: z2 :: z3 :: z4 :: z5 :: z6 :: z7 :: r7).length) cap), (2, .int .u64 0), (3, .int .i64 0), (4, .bool false), (9, .bool ((((z0 :: z1 :: z2 :: z3 :: z4 :: z5 :: z6 :: z7 :: r7).length : Nat) : Int) == 0))]) (A2 := A) rfl (by kernel_rfl) ?_
          refine EO.done rfl ?_
          have d1 : ((((z0 :: z1 :: z2 :: z3 :: z4 :: z5 :: z6 :: z7 :: r7).length : Nat) : Int) == 0) = false := beq_false' (by simp only [List.length_cons]; omega)
          rw [d1]
          refine J.cond false (by kernel_rfl) (fun h => Bool.noConfusion h) (fun _ => ?_)
          refine J.skip ?_
          refine thenJ_n ?_
          refine J.sr ?_
          refine EO.run 1 [0, 2, 3, 4, 9, 10] (S2 := [(0, .slice (some ⟨b, o, none⟩) ((z0 :: z1 :: z2 :: z3 :: z4 :: z5 :: z6 :: z7 :: r7).length) cap), (2, .int .u64 0), (3, .int .i64 0), (4, .bool false), (9, .bool false), (10, .slice (some ⟨b, o, none⟩) ((z0 :: z1 :: z2 :: z3 :: z4 :: z5 :: z6 :: z7 :: r7).length) cap)]) (A2 := A) rfl (by kernel_rfl) ?_
          refine EO.index (v := .slice (some ⟨b, o, none⟩) ((z0 :: z1 :: z2 :: z3 :: z4 :: z5 :: z6 :: z7 :: r7).length) cap) (u := .int .i64 (Int.ofNat 0)) (w := .pointer (some ⟨b, o + 0 * 1, none⟩)) rfl rfl rfl (by kernel_rfl) (by kernel_rfl) (by kernel_rfl) (aindexAddr_slice (elem := 5) (size := 1) (by kernel_rfl) (by kernel_rfl) (by simp)) ?_
          refine EO.load (ad := ⟨b, o + 0 * 1, none⟩) (w := .int .u8 z0) rfl rfl rfl (by kernel_rfl) (by kernel_rfl) (hr.load (by kernel_rfl) rfl) ?_
          refine EO.run 4 [0, 2, 3, 4, 9, 13] (S2 := [(0, .slice (some ⟨b, o, none⟩) ((z0 :: z1 :: z2 :: z3 :: z4 :: z5 :: z6 :: z7 :: r7).length) cap), (2, .int .u64 0), (3, .int .i64 0), (4, .bool false), (9, .bool false), (13, .int .u8 (sShr .u8 z0 6))]) (A2 := A) rfl (by kernel_rfl) ?_
          refine EO.cast (S2 := [(0, .slice (some ⟨b, o, none⟩) ((z0 :: z1 :: z2 :: z3 :: z4 :: z5 :: z6 :: z7 :: r7).length) cap), (2, .int .u64 0), (3, .int .i64 0), (4, .bool false), (9, .bool false), (13, .int .u8 3)]) (by rw [show sShr .u8 z0 6 = 3 from by rw [shr6, hc]]) ?_
          refine EO.run 5 [0, 2, 3, 4, 9, 14] (S2 := [(0, .slice (some ⟨b, o, none⟩) ((z0 :: z1 :: z2 :: z3 :: z4 :: z5 :: z6 :: z7 :: r7).length) cap), (2, .int .u64 0), (3, .int .i64 0), (4, .bool false), (9, .bool false), (14, .int .i64 3)]) (A2 := A) rfl (by kernel_rfl) ?_
          refine EO.fcall (f := 25) (vs := [.int .i64 3]) (v := .int .i64 8) (A1 := A) rfl rfl rfl rfl (by kernel_rfl) (by kernel_rfl) (f25_spec_eq hp25 3 (by decide)) ?_
          refine EO.run 7 [0, 2, 3, 4, 9] (S2 := [(0, .slice (some ⟨b, o, none⟩) ((z0 :: z1 :: z2 :: z3 :: z4 :: z5 :: z6 :: z7 :: r7).length) cap), (2, .int .u64 0), (3, .int .i64 8), (4, .bool false), (9, .bool false)]) (A2 := A) rfl (by kernel_rfl) ?_
          refine EO.done rfl ?_
          refine J.seq ?_
          refine J.sr ?_
          refine EO.run 4 [0, 2, 3, 4, 9, 19] (S2 := [(0, .slice (some ⟨b, o, none⟩) ((z0 :: z1 :: z2 :: z3 :: z4 :: z5 :: z6 :: z7 :: r7).length) cap), (2, .int .u64 0), (3, .int .i64 8), (4, .bool false), (9, .bool false), (19, .bool (decide ((((z0 :: z1 :: z2 :: z3 :: z4 :: z5 :: z6 :: z7 :: r7).length : Nat) : Int) < 8)))]) (A2 := A) rfl (by kernel_rfl) ?_
          refine EO.done rfl ?_
          have d2 : (decide ((((z0 :: z1 :: z2 :: z3 :: z4 :: z5 :: z6 :: z7 :: r7).length : Nat) : Int) < 8)) = false := decide_eq_false (by simp only [List.length_cons] at *; omega)
          rw [d2]
          refine J.cond false (by kernel_rfl) (fun h => Bool.noConfusion h) (fun _ => ?_)
          refine J.skip ?_
          refine thenJ_n ?_
          refine J.sr ?_
          refine EO.run 1 [0, 2, 3, 4, 9, 19, 20] (S2 := [(0, .slice (some ⟨b, o, none⟩) ((z0 :: z1 :: z2 :: z3 :: z4 :: z5 :: z6 :: z7 :: r7).length) cap), (2, .int .u64 0), (3, .int .i64 8), (4, .bool false), (9, .bool false), (19, .bool false), (20, .slice (some ⟨b, o, none⟩) ((z0 :: z1 :: z2 :: z3 :: z4 :: z5 :: z6 :: z7 :: r7).length) cap)]) (A2 := A) rfl (by kernel_rfl) ?_
          refine EO.index (v := .slice (some ⟨b, o, none⟩) ((z0 :: z1 :: z2 :: z3 :: z4 :: z5 :: z6 :: z7 :: r7).length) cap) (u := .int .i64 (Int.ofNat 0)) (w := .pointer (some ⟨b, o + 0 * 1, none⟩)) rfl rfl rfl (by kernel_rfl) (by kernel_rfl) (by kernel_rfl) (aindexAddr_slice (elem := 5) (size := 1) (by kernel_rfl) (by kernel_rfl) (by simp)) ?_
          refine EO.load (ad := ⟨b, o + 0 * 1, none⟩) (w := .int .u8 z0) rfl rfl rfl (by kernel_rfl) (by kernel_rfl) (hr.load (by kernel_rfl) rfl) ?_
          refine EO.run 5 [0, 2, 3, 4, 9, 19, 24] (S2 := [(0, .slice (some ⟨b, o, none⟩) ((z0 :: z1 :: z2 :: z3 :: z4 :: z5 :: z6 :: z7 :: r7).length) cap), (2, .int .u64 0), (3, .int .i64 8), (4, .bool false), (9, .bool false), (19, .bool false), (24, .int .u64 (IntKind.wrap .u64 (bAnd .u8 z0 63)))]) (A2 := A) rfl (by kernel_rfl) ?_
          refine EO.cast (S2 := [(0, .slice (some ⟨b, o, none⟩) ((z0 :: z1 :: z2 :: z3 :: z4 :: z5 :: z6 :: z7 :: r7).length) cap), (2, .int .u64 0), (3, .int .i64 8), (4, .bool false), (9, .bool false), (19, .bool false), (24, .int .u64 (z0 % 64))]) (by rw [and63 hz0]) ?_
          refine EO.run 6 [0, 2, 3, 4, 9, 19] (S2 := [(0, .slice (some ⟨b, o, none⟩) ((z0 :: z1 :: z2 :: z3 :: z4 :: z5 :: z6 :: z7 :: r7).length) cap), (2, .int .u64 (z0 % 64)), (3, .int .i64 8), (4, .bool false), (9, .bool false), (19, .bool false)]) (A2 := A) rfl (by kernel_rfl) ?_
          refine EO.done rfl ?_
          refine J.seq ?_
          refine J.sr ?_
          refine EO.run 2 [0, 2, 3, 4, 9, 19, 25, 26] (S2 := [(0, .slice (some ⟨b, o, none⟩) ((z0 :: z1 :: z2 :: z3 :: z4 :: z5 :: z6 :: z7 :: r7).length) cap), (2, .int .u64 (z0 % 64)), (3, .int .i64 8), (4, .bool false), (9, .bool false), (19, .bool false), (25, .slice (some ⟨b, o, none⟩) ((z0 :: z1 :: z2 :: z3 :: z4 :: z5 :: z6 :: z7 :: r7).length) cap), (26, .int .i64 8)]) (A2 := A) rfl (by kernel_rfl) ?_
          obtain ⟨w, A2, hw, hRV, hx, hn2, hne⟩ := hr.slice hnx (lo := some (.int .i64 (Int.ofNat 1))) (hi := some (.int .i64 (Int.ofNat 8))) (l := 1) (k := 8) (aboundO_nat (Nat.le_trans (by simp) hr.le)) (aboundO_nat (by decide)) (by simp) (by decide)
          rcases hRV with ⟨hw2, _⟩ | ⟨b2, o2, cap2, rfl, hr2⟩
          · exact absurd hw2 hne
          have hr3 : Row A2 b2 o2 cap2 [z1, z2, z3, z4, z5, z6, z7] := hr2
          refine EO.slice (v := .slice (some ⟨b, o, none⟩) ((z0 :: z1 :: z2 :: z3 :: z4 :: z5 :: z6 :: z7 :: r7).length) cap) (w := .slice (some ⟨b2, o2, none⟩) 7 cap2) (l := some (.int .i64 (Int.ofNat 1))) (h' := some (.int .i64 (Int.ofNat 8))) (m := none) (A1 := A2) rfl rfl rfl (by kernel_rfl) (by kernel_rfl) (by kernel_rfl) (by kernel_rfl) rfl ((asliceOp_slice (elem := 5) (size := 1) (by kernel_rfl) (by kernel_rfl)).trans hw) ?_
          refine EO.run 5 [0, 2, 3, 4, 9, 19, 27, 28, 29] (S2 := [(0, .slice (some ⟨b, o, none⟩) ((z0 :: z1 :: z2 :: z3 :: z4 :: z5 :: z6 :: z7 :: r7).length) cap), (2, .int .u64 (z0 % 64)), (3, .int .i64 8), (4, .bool false), (9, .bool false), (19, .bool false), (27, .slice (some ⟨b2, o2, none⟩) 7 cap2), (28, .int .i64 7), (29, .int .i64 0)]) (A2 := A2) rfl (by kernel_rfl) ?_
          refine EO.done rfl ?_
          refine J.block ?_
          refine J.unroll ?_
          refine JL.step ?_
          refine J.sr ?_
          refine EO.run 1 [0, 2, 3, 4, 9, 19, 27, 28, 29, 30] (S2 := [(0, .slice (some ⟨b, o, none⟩) ((z0 :: z1 :: z2 :: z3 :: z4 :: z5 :: z6 :: z7 :: r7).length) cap), (2, .int .u64 (z0 % 64)), (3, .int .i64 8), (4, .bool false), (9, .bool false), (19, .bool false), (27, .slice (some ⟨b2, o2, none⟩) 7 cap2), (28, .int .i64 7), (29, .int .i64 0), (30, .bool true)]) (A2 := A2) rfl (by kernel_rfl) ?_
          refine EO.done rfl ?_
          refine J.seq ?_
          refine J.cond true (by kernel_rfl) (fun _ => ?_) (fun h => Bool.noConfusion h)
          refine J.skip ?_
          refine thenJ_n ?_
          refine J.seq ?_
          refine J.block ?_
          refine J.sr ?_
          refine EO.index (v := .slice (some ⟨b2, o2, none⟩) 7 cap2) (u := .int .i64 (Int.ofNat 0)) (w := .pointer (some ⟨b2, o2 + 0 * 1, none⟩)) rfl rfl rfl (by kernel_rfl) (by kernel_rfl) (by kernel_rfl) (aindexAddr_slice (elem := 5) (size := 1) (by kernel_rfl) (by kernel_rfl) (by simp)) ?_
          refine EO.load (ad := ⟨b2, o2 + 0 * 1, none⟩) (w := .int .u8 z1) rfl rfl rfl (by kernel_rfl) (by kernel_rfl) (hr3.load (by kernel_rfl) rfl) ?_
          refine EO.run 3 [0, 2, 3, 4, 6, 9, 19, 27, 28, 29, 30] (S2 := [(0, .slice (some ⟨b, o, none⟩) ((z0 :: z1 :: z2 :: z3 :: z4 :: z5 :: z6 :: z7 :: r7).length) cap), (2, .int .u64 (z0 % 64)), (3, .int .i64 8), (4, .bool false), (6, .int .u8 z1), (9, .bool false), (19, .bool false), (27, .slice (some ⟨b2, o2, none⟩) 7 cap2), (28, .int .i64 7), (29, .int .i64 0), (30, .bool true)]) (A2 := A2) rfl (by kernel_rfl) ?_
          refine EO.done rfl ?_
          refine J.region ?_
          refine EO.run 5 [0, 2, 3, 4, 6, 9, 19, 27, 28, 29, 30, 37] (S2 := [(0, .slice (some ⟨b, o, none⟩) ((z0 :: z1 :: z2 :: z3 :: z4 :: z5 :: z6 :: z7 :: r7).length) cap), (2, .int .u64 (z0 % 64)), (3, .int .i64 8), (4, .bool false), (6, .int .u8 z1), (9, .bool false), (19, .bool false), (27, .slice (some ⟨b2, o2, none⟩) 7 cap2), (28, .int .i64 7), (29, .int .i64 0), (30, .bool true), (37, .int .u64 (bOr .u64 (sShl .u64 (z0 % 64) 8) (IntKind.wrap .u64 z1)))]) (A2 := A2) rfl (by kernel_rfl) ?_
          refine EO.cast (S2 := [(0, .slice (some ⟨b, o, none⟩) ((z0 :: z1 :: z2 :: z3 :: z4 :: z5 :: z6 :: z7 :: r7).length) cap), (2, .int .u64 (z0 % 64)), (3, .int .i64 8), (4, .bool false), (6, .int .u8 z1), (9, .bool false), (19, .bool false), (27, .slice (some ⟨b2, o2, none⟩) 7 cap2), (28, .int .i64 7), (29, .int .i64 0), (30, .bool true), (37, .int .u64 (256 * (z0 % 64) + z1))]) (by rw [or_step (x := z0 % 64) (by omega) (by omega) hz1]) ?_
          refine EO.run 6 [0, 2, 3, 4, 6, 9, 19, 27, 28, 29, 30] (S2 := [(0, .slice (some ⟨b, o, none⟩) ((z0 :: z1 :: z2 :: z3 :: z4 :: z5 :: z6 :: z7 :: r7).length) cap), (2, .int .u64 (256 * (z0 % 64) + z1)), (3, .int .i64 8), (4, .bool false), (6, .int .u8 z1), (9, .bool false), (19, .bool false), (27, .slice (some ⟨b2, o2, none⟩) 7 cap2), (28, .int .i64 7), (29, .int .i64 0), (30, .bool true)]) (A2 := A2) rfl (by kernel_rfl) ?_
          refine EO.done rfl ?_
          refine blockQ_n ?_
          refine thenJ_n ?_
          refine J.region ?_
          refine EO.run 2 [0, 2, 3, 4, 6, 9, 19, 27, 28, 29, 30] (S2 := [(0, .slice (some ⟨b, o, none⟩) ((z0 :: z1 :: z2 :: z3 :: z4 :: z5 :: z6 :: z7 :: r7).length) cap), (2, .int .u64 (256 * (z0 % 64) + z1)), (3, .int .i64 8), (4, .bool false), (6, .int .u8 z1), (9, .bool false), (19, .bool false), (27, .slice (some ⟨b2, o2, none⟩) 7 cap2), (28, .int .i64 7), (29, .int .i64 1), (30, .bool true)]) (A2 := A2) rfl (by kernel_rfl) ?_
          refine EO.done rfl ?_
          refine loopQ_n ?_
          refine JL.step ?_
          refine J.sr ?_
          refine EO.run 1 [0, 2, 3, 4, 6, 9, 19, 27, 28, 29, 30] (S2 := [(0, .slice (some ⟨b, o, none⟩) ((z0 :: z1 :: z2 :: z3 :: z4 :: z5 :: z6 :: z7 :: r7).length) cap), (2, .int .u64 (256 * (z0 % 64) + z1)), (3, .int .i64 8), (4, .bool false), (6, .int .u8 z1), (9, .bool false), (19, .bool false), (27, .slice (some ⟨b2, o2, none⟩) 7 cap2), (28, .int .i64 7), (29, .int .i64 1), (30, .bool true)]) (A2 := A2) rfl (by kernel_rfl) ?_
          refine EO.done rfl ?_
          refine J.seq ?_
          refine J.cond true (by kernel_rfl) (fun _ => ?_) (fun h => Bool.noConfusion h)
          refine J.skip ?_
          refine thenJ_n ?_
          refine J.seq ?_
          refine J.block ?_
          refine J.sr ?_
          refine EO.index (v := .slice (some ⟨b2, o2, none⟩) 7 cap2) (u := .int .i64 (Int.ofNat 1)) (w := .pointer (some ⟨b2, o2 + 1 * 1, none⟩)) rfl rfl rfl (by kernel_rfl) (by kernel_rfl) (by kernel_rfl) (aindexAddr_slice (elem := 5) (size := 1) (by kernel_rfl) (by kernel_rfl) (by simp)) ?_
          refine EO.load (ad := ⟨b2, o2 + 1 * 1, none⟩) (w := .int .u8 z2) rfl rfl rfl (by kernel_rfl) (by kernel_rfl) (hr3.load (by kernel_rfl) rfl) ?_
          refine EO.run 3 [0, 2, 3, 4, 6, 9, 19, 27, 28, 29, 30] (S2 := [(0, .slice (some ⟨b, o, none⟩) ((z0 :: z1 :: z2 :: z3 :: z4 :: z5 :: z6 :: z7 :: r7).length) cap), (2, .int .u64 (256 * (z0 % 64) + z1)), (3, .int .i64 8), (4, .bool false), (6, .int .u8 z2), (9, .bool false), (19, .bool false), (27, .slice (some ⟨b2, o2, none⟩) 7 cap2), (28, .int .i64 7), (29, .int .i64 1), (30, .bool true)]) (A2 := A2) rfl (by kernel_rfl) ?_
          refine EO.done rfl ?_
          refine J.region ?_
          refine EO.run 5 [0, 2, 3, 4, 6, 9, 19, 27, 28, 29, 30, 37] (S2 := [(0, .slice (some ⟨b, o, none⟩) ((z0 :: z1 :: z2 :: z3 :: z4 :: z5 :: z6 :: z7 :: r7).length) cap), (2, .int .u64 (256 * (z0 % 64) + z1)), (3, .int .i64 8), (4, .bool false), (6, .int .u8 z2), (9, .bool false), (19, .bool false), (27, .slice (some ⟨b2, o2, none⟩) 7 cap2), (28, .int .i64 7), (29, .int .i64 1), (30, .bool true), (37, .int .u64 (bOr .u64 (sShl .u64 (256 * (z0 % 64) + z1) 8) (IntKind.wrap .u64 z2)))]) (A2 := A2) rfl (by kernel_rfl) ?_
          refine EO.cast (S2 := [(0, .slice (some ⟨b, o, none⟩) ((z0 :: z1 :: z2 :: z3 :: z4 :: z5 :: z6 :: z7 :: r7).length) cap), (2, .int .u64 (256 * (z0 % 64) + z1)), (3, .int .i64 8), (4, .bool false), (6, .int .u8 z2), (9, .bool false), (19, .bool false), (27, .slice (some ⟨b2, o2, none⟩) 7 cap2), (28, .int .i64 7), (29, .int .i64 1), (30, .bool true), (37, .int .u64 (256 * (256 * (z0 % 64) + z1) + z2))]) (by rw [or_step (x := 256 * (z0 % 64) + z1) (by omega) (by omega) hz2]) ?_
          refine EO.run 6 [0, 2, 3, 4, 6, 9, 19, 27, 28, 29, 30] (S2 := [(0, .slice (some ⟨b, o, none⟩) ((z0 :: z1 :: z2 :: z3 :: z4 :: z5 :: z6 :: z7 :: r7).length) cap), (2, .int .u64 (256 * (256 * (z0 % 64) + z1) + z2)), (3, .int .i64 8), (4, .bool false), (6, .int .u8 z2), (9, .bool false), (19, .bool false), (27, .slice (some ⟨b2, o2, none⟩) 7 cap2), (28, .int .i64 7), (29, .int .i64 1), (30, .bool true)]) (A2 := A2) rfl (by kernel_rfl) ?_
          refine EO.done rfl ?_
          refine blockQ_n ?_
          refine thenJ_n ?_
          refine J.region ?_
          refine EO.run 2 [0, 2, 3, 4, 6, 9, 19, 27, 28, 29, 30] (S2 := [(0, .slice (some ⟨b, o, none⟩) ((z0 :: z1 :: z2 :: z3 :: z4 :: z5 :: z6 :: z7 :: r7).length) cap), (2, .int .u64 (256 * (256 * (z0 % 64) + z1) + z2)), (3, .int .i64 8), (4, .bool false), (6, .int .u8 z2), (9, .bool false), (19, .bool false), (27, .slice (some ⟨b2, o2, none⟩) 7 cap2), (28, .int .i64 7), (29, .int .i64 2), (30, .bool true)]) (A2 := A2) rfl (by kernel_rfl) ?_
          refine EO.done rfl ?_
          refine loopQ_n ?_
          refine JL.step ?_
          refine J.sr ?_
          refine EO.run 1 [0, 2, 3, 4, 6, 9, 19, 27, 28, 29, 30] (S2 := [(0, .slice (some ⟨b, o, none⟩) ((z0 :: z1 :: z2 :: z3 :: z4 :: z5 :: z6 :: z7 :: r7).length) cap), (2, .int .u64 (256 * (256 * (z0 % 64) + z1) + z2)), (3, .int .i64 8), (4, .bool false), (6, .int .u8 z2), (9, .bool false), (19, .bool false), (27, .slice (some ⟨b2, o2, none⟩) 7 cap2), (28, .int .i64 7), (29, .int .i64 2), (30, .bool true)]) (A2 := A2) rfl (by kernel_rfl) ?_
          refine EO.done rfl ?_
          refine J.seq ?_
          refine J.cond true (by kernel_rfl) (fun _ => ?_) (fun h => Bool.noConfusion h)
          refine J.skip ?_
          refine thenJ_n ?_
          refine J.seq ?_
          refine J.block ?_
          refine J.sr ?_
          refine EO.index (v := .slice (some ⟨b2, o2, none⟩) 7 cap2) (u := .int .i64 (Int.ofNat 2)) (w := .pointer (some ⟨b2, o2 + 2 * 1, none⟩)) rfl rfl rfl (by kernel_rfl) (by kernel_rfl) (by kernel_rfl) (aindexAddr_slice (elem := 5) (size := 1) (by kernel_rfl) (by kernel_rfl) (by simp)) ?_
          refine EO.load (ad := ⟨b2, o2 + 2 * 1, none⟩) (w := .int .u8 z3) rfl rfl rfl (by kernel_rfl) (by kernel_rfl) (hr3.load (by kernel_rfl) rfl) ?_
          refine EO.run 3 [0, 2, 3, 4, 6, 9, 19, 27, 28, 29, 30] (S2 := [(0, .slice (some ⟨b, o, none⟩) ((z0 :: z1 :: z2 :: z3 :: z4 :: z5 :: z6 :: z7 :: r7).length) cap), (2, .int .u64 (256 * (256 * (z0 % 64) + z1) + z2)), (3, .int .i64 8), (4, .bool false), (6, .int .u8 z3), (9, .bool false), (19, .bool false), (27, .slice (some ⟨b2, o2, none⟩) 7 cap2), (28, .int .i64 7), (29, .int .i64 2), (30, .bool true)]) (A2 := A2) rfl (by kernel_rfl) ?_
          refine EO.done rfl ?_
          refine J.region ?_
          refine EO.run 5 [0, 2, 3, 4, 6, 9, 19, 27, 28, 29, 30, 37] (S2 := [(0, .slice (some ⟨b, o, none⟩) ((z0 :: z1 :: z2 :: z3 :: z4 :: z5 :: z6 :: z7 :: r7).length) cap), (2, .int .u64 (256 * (256 * (z0 % 64) + z1) + z2)), (3, .int .i64 8), (4, .bool false), (6, .int .u8 z3), (9, .bool false), (19, .bool false), (27, .slice (some ⟨b2, o2, none⟩) 7 cap2), (28, .int .i64 7), (29, .int .i64 2), (30, .bool true), (37, .int .u64 (bOr .u64 (sShl .u64 (256 * (256 * (z0 % 64) + z1) + z2) 8) (IntKind.wrap .u64 z3)))]) (A2 := A2) rfl (by kernel_rfl) ?_
          refine EO.cast (S2 := [(0, .slice (some ⟨b, o, none⟩) ((z0 :: z1 :: z2 :: z3 :: z4 :: z5 :: z6 :: z7 :: r7).length) cap), (2, .int .u64 (256 * (256 * (z0 % 64) + z1) + z2)), (3, .int .i64 8), (4, .bool false), (6, .int .u8 z3), (9, .bool false), (19, .bool false), (27, .slice (some ⟨b2, o2, none⟩) 7 cap2), (28, .int .i64 7), (29, .int .i64 2), (30, .bool true), (37, .int .u64 (256 * (256 * (256 * (z0 % 64) + z1) + z2) + z3))]) (by rw [or_step (x := 256 * (256 * (z0 % 64) + z1) + z2) (by omega) (by omega) hz3]) ?_
          refine EO.run 6 [0, 2, 3, 4, 6, 9, 19, 27, 28, 29, 30] (S2 := [(0, .slice (some ⟨b, o, none⟩) ((z0 :: z1 :: z2 :: z3 :: z4 :: z5 :: z6 :: z7 :: r7).length) cap), (2, .int .u64 (256 * (256 * (256 * (z0 % 64) + z1) + z2) + z3)), (3, .int .i64 8), (4, .bool false), (6, .int .u8 z3), (9, .bool false), (19, .bool false), (27, .slice (some ⟨b2, o2, none⟩) 7 cap2), (28, .int .i64 7), (29, .int .i64 2), (30, .bool true)]) (A2 := A2) rfl (by kernel_rfl) ?_
          refine EO.done rfl ?_
          refine blockQ_n ?_
          refine thenJ_n ?_
          refine J.region ?_
          refine EO.run 2 [0, 2, 3, 4, 6, 9, 19, 27, 28, 29, 30] (S2 := [(0, .slice (some ⟨b, o, none⟩) ((z0 :: z1 :: z2 :: z3 :: z4 :: z5 :: z6 :: z7 :: r7).length) cap), (2, .int .u64 (256 * (256 * (256 * (z0 % 64) + z1) + z2) + z3)), (3, .int .i64 8), (4, .bool false), (6, .int .u8 z3), (9, .bool false), (19, .bool false), (27, .slice (some ⟨b2, o2, none⟩) 7 cap2), (28, .int .i64 7), (29, .int .i64 3), (30, .bool true)]) (A2 := A2) rfl (by kernel_rfl) ?_
          refine EO.done rfl ?_
          refine loopQ_n ?_
          refine JL.step ?_
          refine J.sr ?_
          refine EO.run 1 [0, 2, 3, 4, 6, 9, 19, 27, 28, 29, 30] (S2 := [(0, .slice (some ⟨b, o, none⟩) ((z0 :: z1 :: z2 :: z3 :: z4 :: z5 :: z6 :: z7 :: r7).length) cap), (2, .int .u64 (256 * (256 * (256 * (z0 % 64) + z1) + z2) + z3)), (3, .int .i64 8), (4, .bool false), (6, .int .u8 z3), (9, .bool false), (19, .bool false), (27, .slice (some ⟨b2, o2, none⟩) 7 cap2), (28, .int .i64 7), (29, .int .i64 3), (30, .bool true)]) (A2 := A2) rfl (by kernel_rfl) ?_
          refine EO.done rfl ?_
          refine J.seq ?_
          refine J.cond true (by kernel_rfl) (fun _ => ?_) (fun h => Bool.noConfusion h)
          refine J.skip ?_
          refine thenJ_n ?_
          refine J.seq ?_
          refine J.block ?_
          refine J.sr ?_
          refine EO.index (v := .slice (some ⟨b2, o2, none⟩) 7 cap2) (u := .int .i64 (Int.ofNat 3)) (w := .pointer (some ⟨b2, o2 + 3 * 1, none⟩)) rfl rfl rfl (by kernel_rfl) (by kernel_rfl) (by kernel_rfl) (aindexAddr_slice (elem := 5) (size := 1) (by kernel_rfl) (by kernel_rfl) (by simp)) ?_
          refine EO.load (ad := ⟨b2, o2 + 3 * 1, none⟩) (w := .int .u8 z4) rfl rfl rfl (by kernel_rfl) (by kernel_rfl) (hr3.load (by kernel_rfl) rfl) ?_
          refine EO.run 3 [0, 2, 3, 4, 6, 9, 19, 27, 28, 29, 30] (S2 := [(0, .slice (some ⟨b, o, none⟩) ((z0 :: z1 :: z2 :: z3 :: z4 :: z5 :: z6 :: z7 :: r7).length) cap), (2, .int .u64 (256 * (256 * (256 * (z0 % 64) + z1) + z2) + z3)), (3, .int .i64 8), (4, .bool false), (6, .int .u8 z4), (9, .bool false), (19, .bool false), (27, .slice (some ⟨b2, o2, none⟩) 7 cap2), (28, .int .i64 7), (29, .int .i64 3), (30, .bool true)]) (A2 := A2) rfl (by kernel_rfl) ?_
          refine EO.done rfl ?_
          refine J.region ?_
          refine EO.run 5 [0, 2, 3, 4, 6, 9, 19, 27, 28, 29, 30, 37] (S2 := [(0, .slice (some ⟨b, o, none⟩) ((z0 :: z1 :: z2 :: z3 :: z4 :: z5 :: z6 :: z7 :: r7).length) cap), (2, .int .u64 (256 * (256 * (256 * (z0 % 64) + z1) + z2) + z3)), (3, .int .i64 8), (4, .bool false), (6, .int .u8 z4), (9, .bool false), (19, .bool false), (27, .slice (some ⟨b2, o2, none⟩) 7 cap2), (28, .int .i64 7), (29, .int .i64 3), (30, .bool true), (37, .int .u64 (bOr .u64 (sShl .u64 (256 * (256 * (256 * (z0 % 64) + z1) + z2) + z3) 8) (IntKind.wrap .u64 z4)))]) (A2 := A2) rfl (by kernel_rfl) ?_
          refine EO.cast (S2 := [(0, .slice (some ⟨b, o, none⟩) ((z0 :: z1 :: z2 :: z3 :: z4 :: z5 :: z6 :: z7 :: r7).length) cap), (2, .int .u64 (256 * (256 * (256 * (z0 % 64) + z1) + z2) + z3)), (3, .int .i64 8), (4, .bool false), (6, .int .u8 z4), (9, .bool false), (19, .bool false), (27, .slice (some ⟨b2, o2, none⟩) 7 cap2), (28, .int .i64 7), (29, .int .i64 3), (30, .bool true), (37, .int .u64 (256 * (256 * (256 * (256 * (z0 % 64) + z1) + z2) + z3) + z4))]) (by rw [or_step (x := 256 * (256 * (256 * (z0 % 64) + z1) + z2) + z3) (by omega) (by omega) hz4]) ?_
          refine EO.run 6 [0, 2, 3, 4, 6, 9, 19, 27, 28, 29, 30] (S2 := [(0, .slice (some ⟨b, o, none⟩) ((z0 :: z1 :: z2 :: z3 :: z4 :: z5 :: z6 :: z7 :: r7).length) cap), (2, .int .u64 (256 * (256 * (256 * (256 * (z0 % 64) + z1) + z2) + z3) + z4)), (3, .int .i64 8), (4, .bool false), (6, .int .u8 z4), (9, .bool false), (19, .bool false), (27, .slice (some ⟨b2, o2, none⟩) 7 cap2), (28, .int .i64 7), (29, .int .i64 3), (30, .bool true)]) (A2 := A2) rfl (by kernel_rfl) ?_
          refine EO.done rfl ?_
          refine blockQ_n ?_
          refine thenJ_n ?_
          refine J.region ?_
          refine EO.run 2 [0, 2, 3, 4, 6, 9, 19, 27, 28, 29, 30] (S2 := [(0, .slice (some ⟨b, o, none⟩) ((z0 :: z1 :: z2 :: z3 :: z4 :: z5 :: z6 :: z7 :: r7).length) cap), (2, .int .u64 (256 * (256 * (256 * (256 * (z0 % 64) + z1) + z2) + z3) + z4)), (3, .int .i64 8), (4, .bool false), (6, .int .u8 z4), (9, .bool false), (19, .bool false), (27, .slice (some ⟨b2, o2, none⟩) 7 cap2), (28, .int .i64 7), (29, .int .i64 4), (30, .bool true)]) (A2 := A2) rfl (by kernel_rfl) ?_
          refine EO.done rfl ?_
          refine loopQ_n ?_
          refine JL.step ?_
          refine J.sr ?_
          refine EO.run 1 [0, 2, 3, 4, 6, 9, 19, 27, 28, 29, 30] (S2 := [(0, .slice (some ⟨b, o, none⟩) ((z0 :: z1 :: z2 :: z3 :: z4 :: z5 :: z6 :: z7 :: r7).length) cap), (2, .int .u64 (256 * (256 * (256 * (256 * (z0 % 64) + z1) + z2) + z3) + z4)), (3, .int .i64 8), (4, .bool false), (6, .int .u8 z4), (9, .bool false), (19, .bool false), (27, .slice (some ⟨b2, o2, none⟩) 7 cap2), (28, .int .i64 7), (29, .int .i64 4), (30, .bool true)]) (A2 := A2) rfl (by kernel_rfl) ?_
          refine EO.done rfl ?_
          refine J.seq ?_
          refine J.cond true (by kernel_rfl) (fun _ => ?_) (fun h => Bool.noConfusion h)
          refine J.skip ?_
          refine thenJ_n ?_
          refine J.seq ?_
          refine J.block ?_
          refine J.sr ?_
          refine EO.index (v := .slice (some ⟨b2, o2, none⟩) 7 cap2) (u := .int .i64 (Int.ofNat 4)) (w := .pointer (some ⟨b2, o2 + 4 * 1, none⟩)) rfl rfl rfl (by kernel_rfl) (by kernel_rfl) (by kernel_rfl) (aindexAddr_slice (elem := 5) (size := 1) (by kernel_rfl) (by kernel_rfl) (by simp)) ?_
          refine EO.load (ad := ⟨b2, o2 + 4 * 1, none⟩) (w := .int .u8 z5) rfl rfl rfl (by kernel_rfl) (by kernel_rfl) (hr3.load (by kernel_rfl) rfl) ?_
          refine EO.run 3 [0, 2, 3, 4, 6, 9, 19, 27, 28, 29, 30] (S2 := [(0, .slice (some ⟨b, o, none⟩) ((z0 :: z1 :: z2 :: z3 :: z4 :: z5 :: z6 :: z7 :: r7).length) cap), (2, .int .u64 (256 * (256 * (256 * (256 * (z0 % 64) + z1) + z2) + z3) + z4)), (3, .int .i64 8), (4, .bool false), (6, .int .u8 z5), (9, .bool false), (19, .bool false), (27, .slice (some ⟨b2, o2, none⟩) 7 cap2), (28, .int .i64 7), (29, .int .i64 4), (30, .bool true)]) (A2 := A2) rfl (by kernel_rfl) ?_
          refine EO.done rfl ?_
          refine J.region ?_
          refine EO.run 5 [0, 2, 3, 4, 6, 9, 19, 27, 28, 29, 30, 37] (S2 := [(0, .slice (some ⟨b, o, none⟩) ((z0 :: z1 :: z2 :: z3 :: z4 :: z5 :: z6 :: z7 :: r7).length) cap), (2, .int .u64 (256 * (256 * (256 * (256 * (z0 % 64) + z1) + z2) + z3) + z4)), (3, .int .i64 8), (4, .bool false), (6, .int .u8 z5), (9, .bool false), (19, .bool false), (27, .slice (some ⟨b2, o2, none⟩) 7 cap2), (28, .int .i64 7), (29, .int .i64 4), (30, .bool true), (37, .int .u64 (bOr .u64 (sShl .u64 (256 * (256 * (256 * (256 * (z0 % 64) + z1) + z2) + z3) + z4) 8) (IntKind.wrap .u64 z5)))]) (A2 := A2) rfl (by kernel_rfl) ?_
          refine EO.cast (S2 := [(0, .slice (some ⟨b, o, none⟩) ((z0 :: z1 :: z2 :: z3 :: z4 :: z5 :: z6 :: z7 :: r7).length) cap), (2, .int .u64 (256 * (256 * (256 * (256 * (z0 % 64) + z1) + z2) + z3) + z4)), (3, .int .i64 8), (4, .bool false), (6, .int .u8 z5), (9, .bool false), (19, .bool false), (27, .slice (some ⟨b2, o2, none⟩) 7 cap2), (28, .int .i64 7), (29, .int .i64 4), (30, .bool true), (37, .int .u64 (256 * (256 * (256 * (256 * (256 * (z0 % 64) + z1) + z2) + z3) + z4) + z5))]) (by rw [or_step (x := 256 * (256 * (256 * (256 * (z0 % 64) + z1) + z2) + z3) + z4) (by omega) (by omega) hz5]) ?_
          refine EO.run 6 [0, 2, 3, 4, 6, 9, 19, 27, 28, 29, 30] (S2 := [(0, .slice (some ⟨b, o, none⟩) ((z0 :: z1 :: z2 :: z3 :: z4 :: z5 :: z6 :: z7 :: r7).length) cap), (2, .int .u64 (256 * (256 * (256 * (256 * (256 * (z0 % 64) + z1) + z2) + z3) + z4) + z5)), (3, .int .i64 8), (4, .bool false), (6, .int .u8 z5), (9, .bool false), (19, .bool false), (27, .slice (some ⟨b2, o2, none⟩) 7 cap2), (28, .int .i64 7), (29, .int .i64 4), (30, .bool true)]) (A2 := A2) rfl (by kernel_rfl) ?_
          refine EO.done rfl ?_
          refine blockQ_n ?_
          refine thenJ_n ?_
          refine J.region ?_
          refine EO.run 2 [0, 2, 3, 4, 6, 9, 19, 27, 28, 29, 30] (S2 := [(0, .slice (some ⟨b, o, none⟩) ((z0 :: z1 :: z2 :: z3 :: z4 :: z5 :: z6 :: z7 :: r7).length) cap), (2, .int .u64 (256 * (256 * (256 * (256 * (256 * (z0 % 64) + z1) + z2) + z3) + z4) + z5)), (3, .int .i64 8), (4, .bool false), (6, .int .u8 z5), (9, .bool false), (19, .bool false), (27, .slice (some ⟨b2, o2, none⟩) 7 cap2), (28, .int .i64 7), (29, .int .i64 5), (30, .bool true)]) (A2 := A2) rfl (by kernel_rfl) ?_
          refine EO.done rfl ?_
          refine loopQ_n ?_
          refine JL.step ?_
          refine J.sr ?_
          refine EO.run 1 [0, 2, 3, 4, 6, 9, 19, 27, 28, 29, 30] (S2 := [(0, .slice (some ⟨b, o, none⟩) ((z0 :: z1 :: z2 :: z3 :: z4 :: z5 :: z6 :: z7 :: r7).length) cap), (2, .int .u64 (256 * (256 * (256 * (256 * (256 * (z0 % 64) + z1) + z2) + z3) + z4) + z5)), (3, .int .i64 8), (4, .bool false), (6, .int .u8 z5), (9, .bool false), (19, .bool false), (27, .slice (some ⟨b2, o2, none⟩) 7 cap2), (28, .int .i64 7), (29, .int .i64 5), (30, .bool true)]) (A2 := A2) rfl (by kernel_rfl) ?_
          refine EO.done rfl ?_
          refine J.seq ?_
          refine J.cond true (by kernel_rfl) (fun _ => ?_) (fun h => Bool.noConfusion h)
          refine J.skip ?_
          refine thenJ_n ?_
          refine J.seq ?_
          refine J.block ?_
          refine J.sr ?_
          refine EO.index (v := .slice (some ⟨b2, o2, none⟩) 7 cap2) (u := .int .i64 (Int.ofNat 5)) (w := .pointer (some ⟨b2, o2 + 5 * 1, none⟩)) rfl rfl rfl (by kernel_rfl) (by kernel_rfl) (by kernel_rfl) (aindexAddr_slice (elem := 5) (size := 1) (by kernel_rfl) (by kernel_rfl) (by simp)) ?_
          refine EO.load (ad := ⟨b2, o2 + 5 * 1, none⟩) (w := .int .u8 z6) rfl rfl rfl (by kernel_rfl) (by kernel_rfl) (hr3.load (by kernel_rfl) rfl) ?_
          refine EO.run 3 [0, 2, 3, 4, 6, 9, 19, 27, 28, 29, 30] (S2 := [(0, .slice (some ⟨b, o, none⟩) ((z0 :: z1 :: z2 :: z3 :: z4 :: z5 :: z6 :: z7 :: r7).length) cap), (2, .int .u64 (256 * (256 * (256 * (256 * (256 * (z0 % 64) + z1) + z2) + z3) + z4) + z5)), (3, .int .i64 8), (4, .bool false), (6, .int .u8 z6), (9, .bool false), (19, .bool false), (27, .slice (some ⟨b2, o2, none⟩) 7 cap2), (28, .int .i64 7), (29, .int .i64 5), (30, .bool true)]) (A2 := A2) rfl (by kernel_rfl) ?_
          refine EO.done rfl ?_
          refine J.region ?_
          refine EO.run 5 [0, 2, 3, 4, 6, 9, 19, 27, 28, 29, 30, 37] (S2 := [(0, .slice (some ⟨b, o, none⟩) ((z0 :: z1 :: z2 :: z3 :: z4 :: z5 :: z6 :: z7 :: r7).length) cap), (2, .int .u64 (256 * (256 * (256 * (256 * (256 * (z0 % 64) + z1) + z2) + z3) + z4) + z5)), (3, .int .i64 8), (4, .bool false), (6, .int .u8 z6), (9, .bool false), (19, .bool false), (27, .slice (some ⟨b2, o2, none⟩) 7 cap2), (28, .int .i64 7), (29, .int .i64 5), (30, .bool true), (37, .int .u64 (bOr .u64 (sShl .u64 (256 * (256 * (256 * (256 * (256 * (z0 % 64) + z1) + z2) + z3) + z4) + z5) 8) (IntKind.wrap .u64 z6)))]) (A2 := A2) rfl (by kernel_rfl) ?_
          refine EO.cast (S2 := [(0, .slice (some ⟨b, o, none⟩) ((z0 :: z1 :: z2 :: z3 :: z4 :: z5 :: z6 :: z7 :: r7).length) cap), (2, .int .u64 (256 * (256 * (256 * (256 * (256 * (z0 % 64) + z1) + z2) + z3) + z4) + z5)), (3, .int .i64 8), (4, .bool false), (6, .int .u8 z6), (9, .bool false), (19, .bool false), (27, .slice (some ⟨b2, o2, none⟩) 7 cap2), (28, .int .i64 7), (29, .int .i64 5), (30, .bool true), (37, .int .u64 (256 * (256 * (256 * (256 * (256 * (256 * (z0 % 64) + z1) + z2) + z3) + z4) + z5) + z6))]) (by rw [or_step (x := 256 * (256 * (256 * (256 * (256 * (z0 % 64) + z1) + z2) + z3) + z4) + z5) (by omega) (by omega) hz6]) ?_
          refine EO.run 6 [0, 2, 3, 4, 6, 9, 19, 27, 28, 29, 30] (S2 := [(0, .slice (some ⟨b, o, none⟩) ((z0 :: z1 :: z2 :: z3 :: z4 :: z5 :: z6 :: z7 :: r7).length) cap), (2, .int .u64 (256 * (256 * (256 * (256 * (256 * (256 * (z0 % 64) + z1) + z2) + z3) + z4) + z5) + z6)), (3, .int .i64 8), (4, .bool false), (6, .int .u8 z6), (9, .bool false), (19, .bool false), (27, .slice (some ⟨b2, o2, none⟩) 7 cap2), (28, .int .i64 7), (29, .int .i64 5), (30, .bool true)]) (A2 := A2) rfl (by kernel_rfl) ?_
          refine EO.done rfl ?_
          refine blockQ_n ?_
          refine thenJ_n ?_
          refine J.region ?_
          refine EO.run 2 [0, 2, 3, 4, 6, 9, 19, 27, 28, 29, 30] (S2 := [(0, .slice (some ⟨b, o, none⟩) ((z0 :: z1 :: z2 :: z3 :: z4 :: z5 :: z6 :: z7 :: r7).length) cap), (2, .int .u64 (256 * (256 * (256 * (256 * (256 * (256 * (z0 % 64) + z1) + z2) + z3) + z4) + z5) + z6)), (3, .int .i64 8), (4, .bool false), (6, .int .u8 z6), (9, .bool false), (19, .bool false), (27, .slice (some ⟨b2, o2, none⟩) 7 cap2), (28, .int .i64 7), (29, .int .i64 6), (30, .bool true)]) (A2 := A2) rfl (by kernel_rfl) ?_
          refine EO.done rfl ?_
          refine loopQ_n ?_
          refine JL.step ?_
          refine J.sr ?_
          refine EO.run 1 [0, 2, 3, 4, 6, 9, 19, 27, 28, 29, 30] (S2 := [(0, .slice (some ⟨b, o, none⟩) ((z0 :: z1 :: z2 :: z3 :: z4 :: z5 :: z6 :: z7 :: r7).length) cap), (2, .int .u64 (256 * (256 * (256 * (256 * (256 * (256 * (z0 % 64) + z1) + z2) + z3) + z4) + z5) + z6)), (3, .int .i64 8), (4, .bool false), (6, .int .u8 z6), (9, .bool false), (19, .bool false), (27, .slice (some ⟨b2, o2, none⟩) 7 cap2), (28, .int .i64 7), (29, .int .i64 6), (30, .bool true)]) (A2 := A2) rfl (by kernel_rfl) ?_
          refine EO.done rfl ?_
          refine J.seq ?_
          refine J.cond true (by kernel_rfl) (fun _ => ?_) (fun h => Bool.noConfusion h)
          refine J.skip ?_
          refine thenJ_n ?_
          refine J.seq ?_
          refine J.block ?_
          refine J.sr ?_
          refine EO.index (v := .slice (some ⟨b2, o2, none⟩) 7 cap2) (u := .int .i64 (Int.ofNat 6)) (w := .pointer (some ⟨b2, o2 + 6 * 1, none⟩)) rfl rfl rfl (by kernel_rfl) (by kernel_rfl) (by kernel_rfl) (aindexAddr_slice (elem := 5) (size := 1) (by kernel_rfl) (by kernel_rfl) (by simp)) ?_
          refine EO.load (ad := ⟨b2, o2 + 6 * 1, none⟩) (w := .int .u8 z7) rfl rfl rfl (by kernel_rfl) (by kernel_rfl) (hr3.load (by kernel_rfl) rfl) ?_
          refine EO.run 3 [0, 2, 3, 4, 6, 9, 19, 27, 28, 29, 30] (S2 := [(0, .slice (some ⟨b, o, none⟩) ((z0 :: z1 :: z2 :: z3 :: z4 :: z5 :: z6 :: z7 :: r7).length) cap), (2, .int .u64 (256 * (256 * (256 * (256 * (256 * (256 * (z0 % 64) + z1) + z2) + z3) + z4) + z5) + z6)), (3, .int .i64 8), (4, .bool false), (6, .int .u8 z7), (9, .bool false), (19, .bool false), (27, .slice (some ⟨b2, o2, none⟩) 7 cap2), (28, .int .i64 7), (29, .int .i64 6), (30, .bool true)]) (A2 := A2) rfl (by kernel_rfl) ?_
          refine EO.done rfl ?_
          refine J.region ?_
          refine EO.run 5 [0, 2, 3, 4, 6, 9, 19, 27, 28, 29, 30, 37] (S2 := [(0, .slice (some ⟨b, o, none⟩) ((z0 :: z1 :: z2 :: z3 :: z4 :: z5 :: z6 :: z7 :: r7).length) cap), (2, .int .u64 (256 * (256 * (256 * (256 * (256 * (256 * (z0 % 64) + z1) + z2) + z3) + z4) + z5) + z6)), (3, .int .i64 8), (4, .bool false), (6, .int .u8 z7), (9, .bool false), (19, .bool false), (27, .slice (some ⟨b2, o2, none⟩) 7 cap2), (28, .int .i64 7), (29, .int .i64 6), (30, .bool true), (37, .int .u64 (bOr .u64 (sShl .u64 (256 * (256 * (256 * (256 * (256 * (256 * (z0 % 64) + z1) + z2) + z3) + z4) + z5) + z6) 8) (IntKind.wrap .u64 z7)))]) (A2 := A2) rfl (by kernel_rfl) ?_
          refine EO.cast (S2 := [(0, .slice (some ⟨b, o, none⟩) ((z0 :: z1 :: z2 :: z3 :: z4 :: z5 :: z6 :: z7 :: r7).length) cap), (2, .int .u64 (256 * (256 * (256 * (256 * (256 * (256 * (z0 % 64) + z1) + z2) + z3) + z4) + z5) + z6)), (3, .int .i64 8), (4, .bool false), (6, .int .u8 z7), (9, .bool false), (19, .bool false), (27, .slice (some ⟨b2, o2, none⟩) 7 cap2), (28, .int .i64 7), (29, .int .i64 6), (30, .bool true), (37, .int .u64 (256 * (256 * (256 * (256 * (256 * (256 * (256 * (z0 % 64) + z1) + z2) + z3) + z4) + z5) + z6) + z7))]) (by rw [or_step (x := 256 * (256 * (256 * (256 * (256 * (256 * (z0 % 64) + z1) + z2) + z3) + z4) + z5) + z6) (by omega) (by omega) hz7]) ?_
          refine EO.run 6 [0, 2, 3, 4, 6, 9, 19, 27, 28, 29, 30] (S2 := [(0, .slice (some ⟨b, o, none⟩) ((z0 :: z1 :: z2 :: z3 :: z4 :: z5 :: z6 :: z7 :: r7).length) cap), (2, .int .u64 (256 * (256 * (256 * (256 * (256 * (256 * (256 * (z0 % 64) + z1) + z2) + z3) + z4) + z5) + z6) + z7)), (3, .int .i64 8), (4, .bool false), (6, .int .u8 z7), (9, .bool false), (19, .bool false), (27, .slice (some ⟨b2, o2, none⟩) 7 cap2), (28, .int .i64 7), (29, .int .i64 6), (30, .bool true)]) (A2 := A2) rfl (by kernel_rfl) ?_
          refine EO.done rfl ?_
          refine blockQ_n ?_
          refine thenJ_n ?_
          refine J.region ?_
          refine EO.run 2 [0, 2, 3, 4, 6, 9, 19, 27, 28, 29, 30] (S2 := [(0, .slice (some ⟨b, o, none⟩) ((z0 :: z1 :: z2 :: z3 :: z4 :: z5 :: z6 :: z7 :: r7).length) cap), (2, .int .u64 (256 * (256 * (256 * (256 * (256 * (256 * (256 * (z0 % 64) + z1) + z2) + z3) + z4) + z5) + z6) + z7)), (3, .int .i64 8), (4, .bool false), (6, .int .u8 z7), (9, .bool false), (19, .bool false), (27, .slice (some ⟨b2, o2, none⟩) 7 cap2), (28, .int .i64 7), (29, .int .i64 7), (30, .bool true)]) (A2 := A2) rfl (by kernel_rfl) ?_
          refine EO.done rfl ?_
          refine loopQ_n ?_
          refine JL.step ?_
          refine J.sr ?_
          refine EO.run 1 [0, 2, 3, 4, 6, 9, 19, 27, 28, 29, 30] (S2 := [(0, .slice (some ⟨b, o, none⟩) ((z0 :: z1 :: z2 :: z3 :: z4 :: z5 :: z6 :: z7 :: r7).length) cap), (2, .int .u64 (256 * (256 * (256 * (256 * (256 * (256 * (256 * (z0 % 64) + z1) + z2) + z3) + z4) + z5) + z6) + z7)), (3, .int .i64 8), (4, .bool false), (6, .int .u8 z7), (9, .bool false), (19, .bool false), (27, .slice (some ⟨b2, o2, none⟩) 7 cap2), (28, .int .i64 7), (29, .int .i64 7), (30, .bool false)]) (A2 := A2) rfl (by kernel_rfl) ?_
          refine EO.done rfl ?_
          refine J.seq ?_
          refine J.cond false (by kernel_rfl) (fun h => Bool.noConfusion h) (fun _ => ?_)
          refine J.exit ?_
          refine thenJ_e ?_
          refine loopQ_e ?_
          refine blockQ_hit ?_
          refine thenJ_n ?_
          refine J.sr ?_
          refine EO.run 5 [0, 2, 3, 4, 6, 9, 19, 27, 28, 29, 30] (S2 := [(0, .slice (some ⟨b, o, none⟩) ((z0 :: z1 :: z2 :: z3 :: z4 :: z5 :: z6 :: z7 :: r7).length) cap), (2, .int .u64 (256 * (256 * (256 * (256 * (256 * (256 * (256 * (z0 % 64) + z1) + z2) + z3) + z4) + z5) + z6) + z7)), (3, .int .i64 8), (4, .bool true), (6, .int .u8 z7), (9, .bool false), (19, .bool false), (27, .slice (some ⟨b2, o2, none⟩) 7 cap2), (28, .int .i64 7), (29, .int .i64 7), (30, .bool false)]) (A2 := A2) rfl (by kernel_rfl) ?_
          refine EO.done rfl ?_
          refine J.ret ?_
          refine Ends_r (vs := [.int .u64 (256 * (256 * (256 * (256 * (256 * (256 * (256 * (z0 % 64) + z1) + z2) + z3) + z4) + z5) + z6) + z7), .int .i64 8, .bool true]) (by kernel_rfl) ?_
          exact ⟨by unfold takeV; rw [takeOf_long hu hl]; rfl, hx, hn2⟩
end
end Go.Proofs.Ytioggedadamoaaa
