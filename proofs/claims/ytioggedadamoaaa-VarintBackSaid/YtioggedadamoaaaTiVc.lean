/- hostlerref01.Take: what it tells of a row of bytes. -/
import Derived.Test.YtioggedadamoaaaTiVb
set_option autoImplicit false
set_option linter.unusedVariables false
set_option linter.unusedSimpArgs false
namespace Go.Proofs.Ytioggedadamoaaa
open Go.Abs Go.RowKit

section
variable {pre : FuncId → Option (List Value → AW → Option (Value × AW))} {dr : CallF → Array Oper → Array Value → AW → Option (Array Value × AW)} {A : AW} {m : Nat}

/-- The number that begins at a place, and the place behind it. -/
def refOf (zs : List Int) (k : Nat) : Int × Int := if (takeOf (zs.drop k)).2.2 = true then ((takeOf (zs.drop k)).1, (k + (takeOf (zs.drop k)).2.1 : Nat)) else (0, -1)

def refV (zs : List Int) (k : Nat) : Value := .tuple #[.int .u64 (refOf zs k).1, .int .i64 (refOf zs k).2]

theorem refOf_past {zs : List Int} {k : Nat} (h : zs.length ≤ k) : refOf zs k = (0, -1) := by
  unfold refOf
  rw [List.drop_of_length_le h]
  simp [takeOf]
theorem refOf_short {p r : List Int} {z : Int} {k u : Nat} (hk : p.length = k) (hu : 2 ^ (z / 64).toNat = u) (h : r.length + 1 < u) : refOf (p ++ z :: r) k = (0, -1) := by
  unfold refOf
  rw [List.drop_left' hk, takeOf_short hu h]
  simp
theorem refOf_long {p r : List Int} {z : Int} {k u : Nat} (hk : p.length = k) (hu : 2 ^ (z / 64).toNat = u) (h : ¬ r.length + 1 < u) : refOf (p ++ z :: r) k = (fold256 (z % 64) (r.take (u - 1)), ((k + u : Nat) : Int)) := by
  unfold refOf
  rw [List.drop_left' hk, takeOf_long hu h]
  simp

theorem f11_spec (hp : pre 11 = none) {v : Value} {zs : List Int} (h : RowV A v zs) (hlen : zs.length < 4611686018427387904) (k : Nat) (hkk : k < 4611686018427387904) :
    acall Try.prog pre dr 100000 (m + 1) 11 [v, .int .i64 (k : Int)] A = some (refV zs k, A) := by
  suffices hs : ∃ v' A', acall Try.prog pre dr 100000 (m + 1) 11 [v, .int .i64 (k : Int)] A = some (v', A') ∧ (v' = refV zs k ∧ A' = A) by
    obtain ⟨v', A', e, rfl, rfl⟩ := hs
    exact e
  by_cases hk : zs.length ≤ k
  · rcases h with ⟨rfl, rfl⟩ | ⟨b, o, cap, rfl, hr⟩
    · refine J.fn (fn := Try.f11) hp Try.func11 rfl (Nat.le_of_ble_eq_true rfl) ?_
      refine J.sr ?_
      refine EO.run 2 [0, 1, 4, 5] (S2 := [(0, .slice none 0 0), (1, .int .i64 ((k : Nat) : Int)), (4, .int .u64 0), (5, .int .i64 0)]) (A2 := A) rfl (by kernel_rfl) ?_
      refine EO.done rfl ?_
      refine J.seq ?_
      refine J.sr ?_
      refine EO.run 3 [0, 1, 4, 5, 12] (S2 := [(0, .slice none 0 0), (1, .int .i64 ((k : Nat) : Int)), (4, .int .u64 0), (5, .int .i64 0), (12, .bool (decide (((k : Nat) : Int) < 0)))]) (A2 := A) rfl (by kernel_rfl) ?_
      have d1 : (decide (((k : Nat) : Int) < 0)) = false := decide_eq_false (by omega)
      rw [d1]
      refine EO.run 8 [0, 1, 4, 5, 17] (S2 := [(0, .slice none 0 0), (1, .int .i64 ((k : Nat) : Int)), (4, .int .u64 0), (5, .int .i64 0), (17, .bool (decide (((k : Nat) : Int) ≥ 0)))]) (A2 := A) rfl (by kernel_rfl) ?_
      refine EO.done rfl ?_
      have d2 : (decide (((k : Nat) : Int) ≥ 0)) = true := decide_eq_true (by first | omega | (simp only [List.length_nil] at *; omega))
      rw [d2]
      refine J.cond true (by kernel_rfl) (fun _ => ?_) (fun h => Bool.noConfusion h)
      refine J.sr ?_
      refine EO.run 2 [0, 1, 4, 5, 17] (S2 := [(0, .slice none 0 0), (1, .int .i64 ((k : Nat) : Int)), (4, .int .u64 0), (5, .int .i64 (-1)), (17, .bool true)]) (A2 := A) rfl (by kernel_rfl) ?_
      refine EO.done rfl ?_
      refine J.ret ?_
      refine thenJ_r ?_
      refine Ends_r (vs := [.int .u64 0, .int .i64 (-1)]) (by kernel_rfl) ?_
      exact ⟨by unfold refV; rw [refOf_past hk]; rfl, rfl⟩
    · refine J.fn (fn := Try.f11) hp Try.func11 rfl (Nat.le_of_ble_eq_true rfl) ?_
      refine J.sr ?_
      refine EO.run 2 [0, 1, 4, 5] (S2 := [(0, .slice (some ⟨b, o, none⟩) zs.length cap), (1, .int .i64 ((k : Nat) : Int)), (4, .int .u64 0), (5, .int .i64 0)]) (A2 := A) rfl (by kernel_rfl) ?_
      refine EO.done rfl ?_
      refine J.seq ?_
      refine J.sr ?_
      refine EO.run 3 [0, 1, 4, 5, 12] (S2 := [(0, .slice (some ⟨b, o, none⟩) zs.length cap), (1, .int .i64 ((k : Nat) : Int)), (4, .int .u64 0), (5, .int .i64 0), (12, .bool (decide (((k : Nat) : Int) < 0)))]) (A2 := A) rfl (by kernel_rfl) ?_
      have d1 : (decide (((k : Nat) : Int) < 0)) = false := decide_eq_false (by omega)
      rw [d1]
      refine EO.run 8 [0, 1, 4, 5, 17] (S2 := [(0, .slice (some ⟨b, o, none⟩) zs.length cap), (1, .int .i64 ((k : Nat) : Int)), (4, .int .u64 0), (5, .int .i64 0), (17, .bool (decide (((k : Nat) : Int) ≥ ((zs.length : Nat) : Int))))]) (A2 := A) rfl (by kernel_rfl) ?_
      refine EO.done rfl ?_
      have d2 : (decide (((k : Nat) : Int) ≥ ((zs.length : Nat) : Int))) = true := decide_eq_true (by first | omega | (simp only [List.length_nil] at *; omega))
      rw [d2]
      refine J.cond true (by kernel_rfl) (fun _ => ?_) (fun h => Bool.noConfusion h)
      refine J.sr ?_
      refine EO.run 2 [0, 1, 4, 5, 17] (S2 := [(0, .slice (some ⟨b, o, none⟩) zs.length cap), (1, .int .i64 ((k : Nat) : Int)), (4, .int .u64 0), (5, .int .i64 (-1)), (17, .bool true)]) (A2 := A) rfl (by kernel_rfl) ?_
      refine EO.done rfl ?_
      refine J.ret ?_
      refine thenJ_r ?_
      refine Ends_r (vs := [.int .u64 0, .int .i64 (-1)]) (by kernel_rfl) ?_
      exact ⟨by unfold refV; rw [refOf_past hk]; rfl, rfl⟩
  · obtain ⟨p, z0, r, rfl, hpk⟩ := split_at (Nat.lt_of_not_le hk)
    rcases h with ⟨_, h0⟩ | ⟨b, o, cap, rfl, hr⟩
    · simp at h0
    · have hz0 := hr.byte z0 (by simp)
      have hc4 : z0 / 64 = 0 ∨ z0 / 64 = 1 ∨ z0 / 64 = 2 ∨ z0 / 64 = 3 := by omega
      simp only [List.length_append, List.length_cons] at hlen hk
      rcases hc4 with hc | hc | hc | hc
      · have hu : 2 ^ (z0 / 64).toNat = 1 := by rw [hc]; rfl
        by_cases hl : r.length + 1 < 1
        · omega
        ·
          refine J.fn (fn := Try.f11) hp Try.func11 rfl (Nat.le_of_ble_eq_true rfl) ?_
          refine J.sr ?_
          refine EO.run 2 [0, 1, 4, 5] (S2 := [(0, .slice (some ⟨b, o, none⟩) ((p ++ z0 :: r).length) cap), (1, .int .i64 ((k : Nat) : Int)), (4, .int .u64 0), (5, .int .i64 0)]) (A2 := A) rfl (by kernel_rfl) ?_
          refine EO.done rfl ?_
          refine J.seq ?_
          refine J.sr ?_
          refine EO.run 3 [0, 1, 4, 5, 12] (S2 := [(0, .slice (some ⟨b, o, none⟩) ((p ++ z0 :: r).length) cap), (1, .int .i64 ((k : Nat) : Int)), (4, .int .u64 0), (5, .int .i64 0), (12, .bool (decide (((k : Nat) : Int) < 0)))]) (A2 := A) rfl (by kernel_rfl) ?_
          have d1 : (decide (((k : Nat) : Int) < 0)) = false := decide_eq_false (by omega)
          rw [d1]
          refine EO.run 8 [0, 1, 4, 5, 17] (S2 := [(0, .slice (some ⟨b, o, none⟩) ((p ++ z0 :: r).length) cap), (1, .int .i64 ((k : Nat) : Int)), (4, .int .u64 0), (5, .int .i64 0), (17, .bool (decide (((k : Nat) : Int) ≥ (((p ++ z0 :: r).length : Nat) : Int))))]) (A2 := A) rfl (by kernel_rfl) ?_
          refine EO.done rfl ?_
          have d2 : (decide (((k : Nat) : Int) ≥ (((p ++ z0 :: r).length : Nat) : Int))) = false := decide_eq_false (by simp only [List.length_append, List.length_cons] at *; omega)
          rw [d2]
          refine J.cond false (by kernel_rfl) (fun h => Bool.noConfusion h) (fun _ => ?_)
          refine J.skip ?_
          refine thenJ_n ?_
          refine J.sr ?_
          refine EO.run 1 [0, 1, 4, 5, 6, 17] (S2 := [(0, .slice (some ⟨b, o, none⟩) ((p ++ z0 :: r).length) cap), (1, .int .i64 ((k : Nat) : Int)), (4, .int .u64 0), (5, .int .i64 0), (6, .int .i64 1), (17, .bool false)]) (A2 := A) rfl (by kernel_rfl) ?_
          refine EO.done rfl ?_
          refine J.seq ?_
          refine J.sr ?_
          refine EO.run 1 [0, 1, 4, 5, 6, 7, 17] (S2 := [(0, .slice (some ⟨b, o, none⟩) ((p ++ z0 :: r).length) cap), (1, .int .i64 ((k : Nat) : Int)), (4, .int .u64 0), (5, .int .i64 0), (6, .int .i64 1), (7, .int .i64 0), (17, .bool false)]) (A2 := A) rfl (by kernel_rfl) ?_
          refine EO.done rfl ?_
          refine J.block ?_
          refine J.unroll ?_
          refine JL.step ?_
          refine J.seq ?_
          refine J.sr ?_
          refine EO.run 3 [0, 1, 4, 5, 6, 7, 17, 18, 19, 20] (S2 := [(0, .slice (some ⟨b, o, none⟩) ((p ++ z0 :: r).length) cap), (1, .int .i64 ((k : Nat) : Int)), (4, .int .u64 0), (5, .int .i64 0), (6, .int .i64 1), (7, .int .i64 0), (17, .bool false), (18, .int .i64 0), (19, .slice (some ⟨b, o, none⟩) ((p ++ z0 :: r).length) cap), (20, .int .i64 ((k : Nat) : Int))]) (A2 := A) rfl (by kernel_rfl) ?_
          refine EO.index (v := .slice (some ⟨b, o, none⟩) ((p ++ z0 :: r).length) cap) (u := .int .i64 (Int.ofNat k)) (w := .pointer (some ⟨b, o + (k) * 1, none⟩)) rfl rfl rfl (by kernel_rfl) (by kernel_rfl) (by kernel_rfl) (aindexAddr_slice (elem := 5) (size := 1) (by kernel_rfl) (by kernel_rfl) (by simp only [List.length_append, List.length_cons] at *; omega)) ?_
          refine EO.load (ad := ⟨b, o + (k) * 1, none⟩) (w := .int .u8 z0) rfl rfl rfl (by kernel_rfl) (by kernel_rfl) (hr.load (by kernel_rfl) (by rw [List.getElem?_append_right (by omega), show k - p.length = 0 from by omega]; rfl)) ?_
          refine EO.run 7 [0, 1, 4, 5, 6, 7, 17, 18, 24] (S2 := [(0, .slice (some ⟨b, o, none⟩) ((p ++ z0 :: r).length) cap), (1, .int .i64 ((k : Nat) : Int)), (4, .int .u64 0), (5, .int .i64 0), (6, .int .i64 1), (7, .int .i64 0), (17, .bool false), (18, .int .i64 0), (24, .int .i64 (IntKind.wrap .i64 (IntKind.wrap .u8 (Int.tdiv z0 64))))]) (A2 := A) rfl (by kernel_rfl) ?_
          refine EO.cast (S2 := [(0, .slice (some ⟨b, o, none⟩) ((p ++ z0 :: r).length) cap), (1, .int .i64 ((k : Nat) : Int)), (4, .int .u64 0), (5, .int .i64 0), (6, .int .i64 1), (7, .int .i64 0), (17, .bool false), (18, .int .i64 0), (24, .int .i64 0)]) (by rw [quo64 hz0, hc]) ?_
          refine EO.run 8 [0, 1, 4, 5, 6, 7, 17, 25] (S2 := [(0, .slice (some ⟨b, o, none⟩) ((p ++ z0 :: r).length) cap), (1, .int .i64 ((k : Nat) : Int)), (4, .int .u64 0), (5, .int .i64 0), (6, .int .i64 1), (7, .int .i64 0), (17, .bool false), (25, .bool false)]) (A2 := A) rfl (by kernel_rfl) ?_
          refine EO.done rfl ?_
          refine J.cond false (by kernel_rfl) (fun h => Bool.noConfusion h) (fun _ => ?_)
          refine J.exit ?_
          refine thenJ_e ?_
          refine loopQ_e ?_
          refine blockQ_hit ?_
          refine thenJ_n ?_
          refine J.seq ?_
          refine J.sr ?_
          refine EO.run 6 [0, 1, 4, 5, 6, 7, 17, 25, 35] (S2 := [(0, .slice (some ⟨b, o, none⟩) ((p ++ z0 :: r).length) cap), (1, .int .i64 ((k : Nat) : Int)), (4, .int .u64 0), (5, .int .i64 0), (6, .int .i64 1), (7, .int .i64 0), (17, .bool false), (25, .bool false), (35, .bool (decide ((IntKind.wrap .i64 ((((p ++ z0 :: r).length : Nat) : Int) - ((k : Nat) : Int))) < 1)))]) (A2 := A) rfl (by kernel_rfl) ?_
          refine EO.done rfl ?_
          have d3 : (decide ((IntKind.wrap .i64 ((((p ++ z0 :: r).length : Nat) : Int) - ((k : Nat) : Int))) < 1)) = false := decide_eq_false (by rw [wrap_i64 (by simp only [List.length_append, List.length_cons] at *; omega) (by simp only [List.length_append, List.length_cons] at *; omega)]; simp only [List.length_append, List.length_cons] at *; omega)
          rw [d3]
          refine J.cond false (by kernel_rfl) (fun h => Bool.noConfusion h) (fun _ => ?_)
          refine J.skip ?_
          refine thenJ_n ?_
          refine J.sr ?_
          refine EO.run 2 [0, 1, 4, 5, 6, 7, 17, 25, 35, 36, 37] (S2 := [(0, .slice (some ⟨b, o, none⟩) ((p ++ z0 :: r).length) cap), (1, .int .i64 ((k : Nat) : Int)), (4, .int .u64 0), (5, .int .i64 0), (6, .int .i64 1), (7, .int .i64 0), (17, .bool false), (25, .bool false), (35, .bool false), (36, .slice (some ⟨b, o, none⟩) ((p ++ z0 :: r).length) cap), (37, .int .i64 ((k : Nat) : Int))]) (A2 := A) rfl (by kernel_rfl) ?_
          refine EO.index (v := .slice (some ⟨b, o, none⟩) ((p ++ z0 :: r).length) cap) (u := .int .i64 (Int.ofNat k)) (w := .pointer (some ⟨b, o + (k) * 1, none⟩)) rfl rfl rfl (by kernel_rfl) (by kernel_rfl) (by kernel_rfl) (aindexAddr_slice (elem := 5) (size := 1) (by kernel_rfl) (by kernel_rfl) (by simp only [List.length_append, List.length_cons] at *; omega)) ?_
          refine EO.load (ad := ⟨b, o + (k) * 1, none⟩) (w := .int .u8 z0) rfl rfl rfl (by kernel_rfl) (by kernel_rfl) (hr.load (by kernel_rfl) (by rw [List.getElem?_append_right (by omega), show k - p.length = 0 from by omega]; rfl)) ?_
          refine EO.run 6 [0, 1, 4, 5, 6, 7, 17, 25, 35, 41] (S2 := [(0, .slice (some ⟨b, o, none⟩) ((p ++ z0 :: r).length) cap), (1, .int .i64 ((k : Nat) : Int)), (4, .int .u64 0), (5, .int .i64 0), (6, .int .i64 1), (7, .int .i64 0), (17, .bool false), (25, .bool false), (35, .bool false), (41, .int .u64 (IntKind.wrap .u64 (Int.tmod z0 64)))]) (A2 := A) rfl (by kernel_rfl) ?_
          refine EO.cast (S2 := [(0, .slice (some ⟨b, o, none⟩) ((p ++ z0 :: r).length) cap), (1, .int .i64 ((k : Nat) : Int)), (4, .int .u64 0), (5, .int .i64 0), (6, .int .i64 1), (7, .int .i64 0), (17, .bool false), (25, .bool false), (35, .bool false), (41, .int .u64 (z0 % 64))]) (by rw [rem64 hz0]) ?_
          refine EO.run 7 [0, 1, 4, 5, 6, 7, 8, 17, 25, 35] (S2 := [(0, .slice (some ⟨b, o, none⟩) ((p ++ z0 :: r).length) cap), (1, .int .i64 ((k : Nat) : Int)), (4, .int .u64 0), (5, .int .i64 0), (6, .int .i64 1), (7, .int .i64 0), (8, .int .u64 (z0 % 64)), (17, .bool false), (25, .bool false), (35, .bool false)]) (A2 := A) rfl (by kernel_rfl) ?_
          refine EO.done rfl ?_
          refine J.seq ?_
          refine J.sr ?_
          refine EO.run 1 [0, 1, 4, 5, 6, 7, 8, 9, 17, 25, 35] (S2 := [(0, .slice (some ⟨b, o, none⟩) ((p ++ z0 :: r).length) cap), (1, .int .i64 ((k : Nat) : Int)), (4, .int .u64 0), (5, .int .i64 0), (6, .int .i64 1), (7, .int .i64 0), (8, .int .u64 (z0 % 64)), (9, .int .i64 1), (17, .bool false), (25, .bool false), (35, .bool false)]) (A2 := A) rfl (by kernel_rfl) ?_
          refine EO.done rfl ?_
          refine J.block ?_
          refine J.unroll ?_
          refine JL.step ?_
          refine J.seq ?_
          refine J.sr ?_
          refine EO.run 3 [0, 1, 4, 5, 6, 7, 8, 9, 17, 25, 35, 44] (S2 := [(0, .slice (some ⟨b, o, none⟩) ((p ++ z0 :: r).length) cap), (1, .int .i64 ((k : Nat) : Int)), (4, .int .u64 0), (5, .int .i64 0), (6, .int .i64 1), (7, .int .i64 0), (8, .int .u64 (z0 % 64)), (9, .int .i64 1), (17, .bool false), (25, .bool false), (35, .bool false), (44, .bool false)]) (A2 := A) rfl (by kernel_rfl) ?_
          refine EO.done rfl ?_
          refine J.cond false (by kernel_rfl) (fun h => Bool.noConfusion h) (fun _ => ?_)
          refine J.exit ?_
          refine thenJ_e ?_
          refine loopQ_e ?_
          refine blockQ_hit ?_
          refine thenJ_n ?_
          refine J.sr ?_
          refine EO.run 4 [0, 1, 4, 5, 6, 7, 8, 9, 17, 25, 35, 44, 57, 60] (S2 := [(0, .slice (some ⟨b, o, none⟩) ((p ++ z0 :: r).length) cap), (1, .int .i64 ((k : Nat) : Int)), (4, .int .u64 0), (5, .int .i64 0), (6, .int .i64 1), (7, .int .i64 0), (8, .int .u64 (z0 % 64)), (9, .int .i64 1), (17, .bool false), (25, .bool false), (35, .bool false), (44, .bool false), (57, .int .u64 (z0 % 64)), (60, .int .i64 (IntKind.wrap .i64 (((k : Nat) : Int) + 1)))]) (A2 := A) rfl (by kernel_rfl) ?_
          refine EO.cast (S2 := [(0, .slice (some ⟨b, o, none⟩) ((p ++ z0 :: r).length) cap), (1, .int .i64 ((k : Nat) : Int)), (4, .int .u64 0), (5, .int .i64 0), (6, .int .i64 1), (7, .int .i64 0), (8, .int .u64 (z0 % 64)), (9, .int .i64 1), (17, .bool false), (25, .bool false), (35, .bool false), (44, .bool false), (57, .int .u64 (z0 % 64)), (60, .int .i64 ((k + 1 : Nat) : Int))]) (by rw [show (IntKind.wrap .i64 (((k : Nat) : Int) + 1) : Int) = ((k + 1 : Nat) : Int) from by rw [wrap_i64 (by omega) (by omega)]; omega]) ?_
          refine EO.run 6 [0, 1, 4, 5, 6, 7, 8, 9, 17, 25, 35, 44] (S2 := [(0, .slice (some ⟨b, o, none⟩) ((p ++ z0 :: r).length) cap), (1, .int .i64 ((k : Nat) : Int)), (4, .int .u64 (z0 % 64)), (5, .int .i64 ((k + 1 : Nat) : Int)), (6, .int .i64 1), (7, .int .i64 0), (8, .int .u64 (z0 % 64)), (9, .int .i64 1), (17, .bool false), (25, .bool false), (35, .bool false), (44, .bool false)]) (A2 := A) rfl (by kernel_rfl) ?_
          refine EO.done rfl ?_
          refine J.ret ?_
          refine Ends_r (vs := [.int .u64 (z0 % 64), .int .i64 ((k + 1 : Nat) : Int)]) (by kernel_rfl) ?_
          exact ⟨by unfold refV; rw [refOf_long hpk hu hl]; rfl, rfl⟩
      · have hu : 2 ^ (z0 / 64).toNat = 2 := by rw [hc]; rfl
        by_cases hl : r.length + 1 < 2
        ·
          refine J.fn (fn := Try.f11) hp Try.func11 rfl (Nat.le_of_ble_eq_true rfl) ?_
          refine J.sr ?_
          refine EO.run 2 [0, 1, 4, 5] (S2 := [(0, .slice (some ⟨b, o, none⟩) ((p ++ z0 :: r).length) cap), (1, .int .i64 ((k : Nat) : Int)), (4, .int .u64 0), (5, .int .i64 0)]) (A2 := A) rfl (by kernel_rfl) ?_
          refine EO.done rfl ?_
          refine J.seq ?_
          refine J.sr ?_
          refine EO.run 3 [0, 1, 4, 5, 12] (S2 := [(0, .slice (some ⟨b, o, none⟩) ((p ++ z0 :: r).length) cap), (1, .int .i64 ((k : Nat) : Int)), (4, .int .u64 0), (5, .int .i64 0), (12, .bool (decide (((k : Nat) : Int) < 0)))]) (A2 := A) rfl (by kernel_rfl) ?_
          have d1 : (decide (((k : Nat) : Int) < 0)) = false := decide_eq_false (by omega)
          rw [d1]
          refine EO.run 8 [0, 1, 4, 5, 17] (S2 := [(0, .slice (some ⟨b, o, none⟩) ((p ++ z0 :: r).length) cap), (1, .int .i64 ((k : Nat) : Int)), (4, .int .u64 0), (5, .int .i64 0), (17, .bool (decide (((k : Nat) : Int) ≥ (((p ++ z0 :: r).length : Nat) : Int))))]) (A2 := A) rfl (by kernel_rfl) ?_
          refine EO.done rfl ?_
          have d2 : (decide (((k : Nat) : Int) ≥ (((p ++ z0 :: r).length : Nat) : Int))) = false := decide_eq_false (by simp only [List.length_append, List.length_cons] at *; omega)
          rw [d2]
          refine J.cond false (by kernel_rfl) (fun h => Bool.noConfusion h) (fun _ => ?_)
          refine J.skip ?_
          refine thenJ_n ?_
          refine J.sr ?_
          refine EO.run 1 [0, 1, 4, 5, 6, 17] (S2 := [(0, .slice (some ⟨b, o, none⟩) ((p ++ z0 :: r).length) cap), (1, .int .i64 ((k : Nat) : Int)), (4, .int .u64 0), (5, .int .i64 0), (6, .int .i64 1), (17, .bool false)]) (A2 := A) rfl (by kernel_rfl) ?_
          refine EO.done rfl ?_
          refine J.seq ?_
          refine J.sr ?_
          refine EO.run 1 [0, 1, 4, 5, 6, 7, 17] (S2 := [(0, .slice (some ⟨b, o, none⟩) ((p ++ z0 :: r).length) cap), (1, .int .i64 ((k : Nat) : Int)), (4, .int .u64 0), (5, .int .i64 0), (6, .int .i64 1), (7, .int .i64 0), (17, .bool false)]) (A2 := A) rfl (by kernel_rfl) ?_
          refine EO.done rfl ?_
          refine J.block ?_
          refine J.unroll ?_
          refine JL.step ?_
          refine J.seq ?_
          refine J.sr ?_
          refine EO.run 3 [0, 1, 4, 5, 6, 7, 17, 18, 19, 20] (S2 := [(0, .slice (some ⟨b, o, none⟩) ((p ++ z0 :: r).length) cap), (1, .int .i64 ((k : Nat) : Int)), (4, .int .u64 0), (5, .int .i64 0), (6, .int .i64 1), (7, .int .i64 0), (17, .bool false), (18, .int .i64 0), (19, .slice (some ⟨b, o, none⟩) ((p ++ z0 :: r).length) cap), (20, .int .i64 ((k : Nat) : Int))]) (A2 := A) rfl (by kernel_rfl) ?_
          refine EO.index (v := .slice (some ⟨b, o, none⟩) ((p ++ z0 :: r).length) cap) (u := .int .i64 (Int.ofNat k)) (w := .pointer (some ⟨b, o + (k) * 1, none⟩)) rfl rfl rfl (by kernel_rfl) (by kernel_rfl) (by kernel_rfl) (aindexAddr_slice (elem := 5) (size := 1) (by kernel_rfl) (by kernel_rfl) (by simp only [List.length_append, List.length_cons] at *; omega)) ?_
          refine EO.load (ad := ⟨b, o + (k) * 1, none⟩) (w := .int .u8 z0) rfl rfl rfl (by kernel_rfl) (by kernel_rfl) (hr.load (by kernel_rfl) (by rw [List.getElem?_append_right (by omega), show k - p.length = 0 from by omega]; rfl)) ?_
          refine EO.run 7 [0, 1, 4, 5, 6, 7, 17, 18, 24] (S2 := [(0, .slice (some ⟨b, o, none⟩) ((p ++ z0 :: r).length) cap), (1, .int .i64 ((k : Nat) : Int)), (4, .int .u64 0), (5, .int .i64 0), (6, .int .i64 1), (7, .int .i64 0), (17, .bool false), (18, .int .i64 0), (24, .int .i64 (IntKind.wrap .i64 (IntKind.wrap .u8 (Int.tdiv z0 64))))]) (A2 := A) rfl (by kernel_rfl) ?_
          refine EO.cast (S2 := [(0, .slice (some ⟨b, o, none⟩) ((p ++ z0 :: r).length) cap), (1, .int .i64 ((k : Nat) : Int)), (4, .int .u64 0), (5, .int .i64 0), (6, .int .i64 1), (7, .int .i64 0), (17, .bool false), (18, .int .i64 0), (24, .int .i64 1)]) (by rw [quo64 hz0, hc]) ?_
          refine EO.run 8 [0, 1, 4, 5, 6, 7, 17, 25] (S2 := [(0, .slice (some ⟨b, o, none⟩) ((p ++ z0 :: r).length) cap), (1, .int .i64 ((k : Nat) : Int)), (4, .int .u64 0), (5, .int .i64 0), (6, .int .i64 1), (7, .int .i64 0), (17, .bool false), (25, .bool true)]) (A2 := A) rfl (by kernel_rfl) ?_
          refine EO.done rfl ?_
          refine J.cond true (by kernel_rfl) (fun _ => ?_) (fun h => Bool.noConfusion h)
          refine J.skip ?_
          refine thenJ_n ?_
          refine J.seq ?_
          refine J.block ?_
          refine J.region ?_
          refine EO.run 3 [0, 1, 4, 5, 6, 7, 17, 25] (S2 := [(0, .slice (some ⟨b, o, none⟩) ((p ++ z0 :: r).length) cap), (1, .int .i64 ((k : Nat) : Int)), (4, .int .u64 0), (5, .int .i64 0), (6, .int .i64 2), (7, .int .i64 0), (17, .bool false), (25, .bool true)]) (A2 := A) rfl (by kernel_rfl) ?_
          refine EO.done rfl ?_
          refine blockQ_n ?_
          refine thenJ_n ?_
          refine J.region ?_
          refine EO.run 3 [0, 1, 4, 5, 6, 7, 17, 25] (S2 := [(0, .slice (some ⟨b, o, none⟩) ((p ++ z0 :: r).length) cap), (1, .int .i64 ((k : Nat) : Int)), (4, .int .u64 0), (5, .int .i64 0), (6, .int .i64 2), (7, .int .i64 1), (17, .bool false), (25, .bool true)]) (A2 := A) rfl (by kernel_rfl) ?_
          refine EO.done rfl ?_
          refine loopQ_n ?_
          refine JL.step ?_
          refine J.seq ?_
          refine J.sr ?_
          refine EO.run 3 [0, 1, 4, 5, 6, 7, 17, 18, 19, 20, 25] (S2 := [(0, .slice (some ⟨b, o, none⟩) ((p ++ z0 :: r).length) cap), (1, .int .i64 ((k : Nat) : Int)), (4, .int .u64 0), (5, .int .i64 0), (6, .int .i64 2), (7, .int .i64 1), (17, .bool false), (18, .int .i64 1), (19, .slice (some ⟨b, o, none⟩) ((p ++ z0 :: r).length) cap), (20, .int .i64 ((k : Nat) : Int)), (25, .bool true)]) (A2 := A) rfl (by kernel_rfl) ?_
          refine EO.index (v := .slice (some ⟨b, o, none⟩) ((p ++ z0 :: r).length) cap) (u := .int .i64 (Int.ofNat k)) (w := .pointer (some ⟨b, o + (k) * 1, none⟩)) rfl rfl rfl (by kernel_rfl) (by kernel_rfl) (by kernel_rfl) (aindexAddr_slice (elem := 5) (size := 1) (by kernel_rfl) (by kernel_rfl) (by simp only [List.length_append, List.length_cons] at *; omega)) ?_
          refine EO.load (ad := ⟨b, o + (k) * 1, none⟩) (w := .int .u8 z0) rfl rfl rfl (by kernel_rfl) (by kernel_rfl) (hr.load (by kernel_rfl) (by rw [List.getElem?_append_right (by omega), show k - p.length = 0 from by omega]; rfl)) ?_
          refine EO.run 7 [0, 1, 4, 5, 6, 7, 17, 18, 24, 25] (S2 := [(0, .slice (some ⟨b, o, none⟩) ((p ++ z0 :: r).length) cap), (1, .int .i64 ((k : Nat) : Int)), (4, .int .u64 0), (5, .int .i64 0), (6, .int .i64 2), (7, .int .i64 1), (17, .bool false), (18, .int .i64 1), (24, .int .i64 (IntKind.wrap .i64 (IntKind.wrap .u8 (Int.tdiv z0 64)))), (25, .bool true)]) (A2 := A) rfl (by kernel_rfl) ?_
          refine EO.cast (S2 := [(0, .slice (some ⟨b, o, none⟩) ((p ++ z0 :: r).length) cap), (1, .int .i64 ((k : Nat) : Int)), (4, .int .u64 0), (5, .int .i64 0), (6, .int .i64 2), (7, .int .i64 1), (17, .bool false), (18, .int .i64 1), (24, .int .i64 1), (25, .bool true)]) (by rw [quo64 hz0, hc]) ?_
          refine EO.run 8 [0, 1, 4, 5, 6, 7, 17, 25] (S2 := [(0, .slice (some ⟨b, o, none⟩) ((p ++ z0 :: r).length) cap), (1, .int .i64 ((k : Nat) : Int)), (4, .int .u64 0), (5, .int .i64 0), (6, .int .i64 2), (7, .int .i64 1), (17, .bool false), (25, .bool false)]) (A2 := A) rfl (by kernel_rfl) ?_
          refine EO.done rfl ?_
          refine J.cond false (by kernel_rfl) (fun h => Bool.noConfusion h) (fun _ => ?_)
          refine J.exit ?_
          refine thenJ_e ?_
          refine loopQ_e ?_
          refine blockQ_hit ?_
          refine thenJ_n ?_
          refine J.seq ?_
          refine J.sr ?_
          refine EO.run 6 [0, 1, 4, 5, 6, 7, 17, 25, 35] (S2 := [(0, .slice (some ⟨b, o, none⟩) ((p ++ z0 :: r).length) cap), (1, .int .i64 ((k : Nat) : Int)), (4, .int .u64 0), (5, .int .i64 0), (6, .int .i64 2), (7, .int .i64 1), (17, .bool false), (25, .bool false), (35, .bool (decide ((IntKind.wrap .i64 ((((p ++ z0 :: r).length : Nat) : Int) - ((k : Nat) : Int))) < 2)))]) (A2 := A) rfl (by kernel_rfl) ?_
          refine EO.done rfl ?_
          have d3 : (decide ((IntKind.wrap .i64 ((((p ++ z0 :: r).length : Nat) : Int) - ((k : Nat) : Int))) < 2)) = true := decide_eq_true (by rw [wrap_i64 (by simp only [List.length_append, List.length_cons] at *; omega) (by simp only [List.length_append, List.length_cons] at *; omega)]; simp only [List.length_append, List.length_cons] at *; omega)
          rw [d3]
          refine J.cond true (by kernel_rfl) (fun _ => ?_) (fun h => Bool.noConfusion h)
          refine J.sr ?_
          refine EO.run 2 [0, 1, 4, 5, 6, 7, 17, 25, 35] (S2 := [(0, .slice (some ⟨b, o, none⟩) ((p ++ z0 :: r).length) cap), (1, .int .i64 ((k : Nat) : Int)), (4, .int .u64 0), (5, .int .i64 (-1)), (6, .int .i64 2), (7, .int .i64 1), (17, .bool false), (25, .bool false), (35, .bool true)]) (A2 := A) rfl (by kernel_rfl) ?_
          refine EO.done rfl ?_
          refine J.ret ?_
          refine thenJ_r ?_
          refine Ends_r (vs := [.int .u64 0, .int .i64 (-1)]) (by kernel_rfl) ?_
          exact ⟨by unfold refV; rw [refOf_short hpk hu hl]; rfl, rfl⟩
        ·
          obtain ⟨z1, r1, rfl⟩ := exists_cons (r := r) (by simp at hl; omega)
          have hz1 := hr.byte z1 (by simp)
          refine J.fn (fn := Try.f11) hp Try.func11 rfl (Nat.le_of_ble_eq_true rfl) ?_
          refine J.sr ?_
          refine EO.run 2 [0, 1, 4, 5] (S2 := [(0, .slice (some ⟨b, o, none⟩) ((p ++ z0 :: z1 :: r1).length) cap), (1, .int .i64 ((k : Nat) : Int)), (4, .int .u64 0), (5, .int .i64 0)]) (A2 := A) rfl (by kernel_rfl) ?_
          refine EO.done rfl ?_
          refine J.seq ?_
          refine J.sr ?_
          refine EO.run 3 [0, 1, 4, 5, 12] (S2 := [(0, .slice (some ⟨b, o, none⟩) ((p ++ z0 :: z1 :: r1).length) cap), (1, .int .i64 ((k : Nat) : Int)), (4, .int .u64 0), (5, .int .i64 0), (12, .bool (decide (((k : Nat) : Int) < 0)))]) (A2 := A) rfl (by kernel_rfl) ?_
          have d1 : (decide (((k : Nat) : Int) < 0)) = false := decide_eq_false (by omega)
          rw [d1]
          refine EO.run 8 [0, 1, 4, 5, 17] (S2 := [(0, .slice (some ⟨b, o, none⟩) ((p ++ z0 :: z1 :: r1).length) cap), (1, .int .i64 ((k : Nat) : Int)), (4, .int .u64 0), (5, .int .i64 0), (17, .bool (decide (((k : Nat) : Int) ≥ (((p ++ z0 :: z1 :: r1).length : Nat) : Int))))]) (A2 := A) rfl (by kernel_rfl) ?_
          refine EO.done rfl ?_
          have d2 : (decide (((k : Nat) : Int) ≥ (((p ++ z0 :: z1 :: r1).length : Nat) : Int))) = false := decide_eq_false (by simp only [List.length_append, List.length_cons] at *; omega)
          rw [d2]
          refine J.cond false (by kernel_rfl) (fun h => Bool.noConfusion h) (fun _ => ?_)
          refine J.skip ?_
          refine thenJ_n ?_
          refine J.sr ?_
          refine EO.run 1 [0, 1, 4, 5, 6, 17] (S2 := [(0, .slice (some ⟨b, o, none⟩) ((p ++ z0 :: z1 :: r1).length) cap), (1, .int .i64 ((k : Nat) : Int)), (4, .int .u64 0), (5, .int .i64 0), (6, .int .i64 1), (17, .bool false)]) (A2 := A) rfl (by kernel_rfl) ?_
          refine EO.done rfl ?_
          refine J.seq ?_
          refine J.sr ?_
          refine EO.run 1 [0, 1, 4, 5, 6, 7, 17] (S2 := [(0, .slice (some ⟨b, o, none⟩) ((p ++ z0 :: z1 :: r1).length) cap), (1, .int .i64 ((k : Nat) : Int)), (4, .int .u64 0), (5, .int .i64 0), (6, .int .i64 1), (7, .int .i64 0), (17, .bool false)]) (A2 := A) rfl (by kernel_rfl) ?_
          refine EO.done rfl ?_
          refine J.block ?_
          refine J.unroll ?_
          refine JL.step ?_
          refine J.seq ?_
          refine J.sr ?_
          refine EO.run 3 [0, 1, 4, 5, 6, 7, 17, 18, 19, 20] (S2 := [(0, .slice (some ⟨b, o, none⟩) ((p ++ z0 :: z1 :: r1).length) cap), (1, .int .i64 ((k : Nat) : Int)), (4, .int .u64 0), (5, .int .i64 0), (6, .int .i64 1), (7, .int .i64 0), (17, .bool false), (18, .int .i64 0), (19, .slice (some ⟨b, o, none⟩) ((p ++ z0 :: z1 :: r1).length) cap), (20, .int .i64 ((k : Nat) : Int))]) (A2 := A) rfl (by kernel_rfl) ?_
          refine EO.index (v := .slice (some ⟨b, o, none⟩) ((p ++ z0 :: z1 :: r1).length) cap) (u := .int .i64 (Int.ofNat k)) (w := .pointer (some ⟨b, o + (k) * 1, none⟩)) rfl rfl rfl (by kernel_rfl) (by kernel_rfl) (by kernel_rfl) (aindexAddr_slice (elem := 5) (size := 1) (by kernel_rfl) (by kernel_rfl) (by simp only [List.length_append, List.length_cons] at *; omega)) ?_
          refine EO.load (ad := ⟨b, o + (k) * 1, none⟩) (w := .int .u8 z0) rfl rfl rfl (by kernel_rfl) (by kernel_rfl) (hr.load (by kernel_rfl) (by rw [List.getElem?_append_right (by omega), show k - p.length = 0 from by omega]; rfl)) ?_
          refine EO.run 7 [0, 1, 4, 5, 6, 7, 17, 18, 24] (S2 := [(0, .slice (some ⟨b, o, none⟩) ((p ++ z0 :: z1 :: r1).length) cap), (1, .int .i64 ((k : Nat) : Int)), (4, .int .u64 0), (5, .int .i64 0), (6, .int .i64 1), (7, .int .i64 0), (17, .bool false), (18, .int .i64 0), (24, .int .i64 (IntKind.wrap .i64 (IntKind.wrap .u8 (Int.tdiv z0 64))))]) (A2 := A) rfl (by kernel_rfl) ?_
          refine EO.cast (S2 := [(0, .slice (some ⟨b, o, none⟩) ((p ++ z0 :: z1 :: r1).length) cap), (1, .int .i64 ((k : Nat) : Int)), (4, .int .u64 0), (5, .int .i64 0), (6, .int .i64 1), (7, .int .i64 0), (17, .bool false), (18, .int .i64 0), (24, .int .i64 1)]) (by rw [quo64 hz0, hc]) ?_
          refine EO.run 8 [0, 1, 4, 5, 6, 7, 17, 25] (S2 := [(0, .slice (some ⟨b, o, none⟩) ((p ++ z0 :: z1 :: r1).length) cap), (1, .int .i64 ((k : Nat) : Int)), (4, .int .u64 0), (5, .int .i64 0), (6, .int .i64 1), (7, .int .i64 0), (17, .bool false), (25, .bool true)]) (A2 := A) rfl (by kernel_rfl) ?_
          refine EO.done rfl ?_
          refine J.cond true (by kernel_rfl) (fun _ => ?_) (fun h => Bool.noConfusion h)
          refine J.skip ?_
          refine thenJ_n ?_
          refine J.seq ?_
          refine J.block ?_
          refine J.region ?_
          refine EO.run 3 [0, 1, 4, 5, 6, 7, 17, 25] (S2 := [(0, .slice (some ⟨b, o, none⟩) ((p ++ z0 :: z1 :: r1).length) cap), (1, .int .i64 ((k : Nat) : Int)), (4, .int .u64 0), (5, .int .i64 0), (6, .int .i64 2), (7, .int .i64 0), (17, .bool false), (25, .bool true)]) (A2 := A) rfl (by kernel_rfl) ?_
          refine EO.done rfl ?_
          refine blockQ_n ?_
          refine thenJ_n ?_
          refine J.region ?_
          refine EO.run 3 [0, 1, 4, 5, 6, 7, 17, 25] (S2 := [(0, .slice (some ⟨b, o, none⟩) ((p ++ z0 :: z1 :: r1).length) cap), (1, .int .i64 ((k : Nat) : Int)), (4, .int .u64 0), (5, .int .i64 0), (6, .int .i64 2), (7, .int .i64 1), (17, .bool false), (25, .bool true)]) (A2 := A) rfl (by kernel_rfl) ?_
          refine EO.done rfl ?_
          refine loopQ_n ?_
          refine JL.step ?_
          refine J.seq ?_
          refine J.sr ?_
          refine EO.run 3 [0, 1, 4, 5, 6, 7, 17, 18, 19, 20, 25] (S2 := [(0, .slice (some ⟨b, o, none⟩) ((p ++ z0 :: z1 :: r1).length) cap), (1, .int .i64 ((k : Nat) : Int)), (4, .int .u64 0), (5, .int .i64 0), (6, .int .i64 2), (7, .int .i64 1), (17, .bool false), (18, .int .i64 1), (19, .slice (some ⟨b, o, none⟩) ((p ++ z0 :: z1 :: r1).length) cap), (20, .int .i64 ((k : Nat) : Int)), (25, .bool true)]) (A2 := A) rfl (by kernel_rfl) ?_
          refine EO.index (v := .slice (some ⟨b, o, none⟩) ((p ++ z0 :: z1 :: r1).length) cap) (u := .int .i64 (Int.ofNat k)) (w := .pointer (some ⟨b, o + (k) * 1, none⟩)) rfl rfl rfl (by kernel_rfl) (by kernel_rfl) (by kernel_rfl) (aindexAddr_slice (elem := 5) (size := 1) (by kernel_rfl) (by kernel_rfl) (by simp only [List.length_append, List.length_cons] at *; omega)) ?_
          refine EO.load (ad := ⟨b, o + (k) * 1, none⟩) (w := .int .u8 z0) rfl rfl rfl (by kernel_rfl) (by kernel_rfl) (hr.load (by kernel_rfl) (by rw [List.getElem?_append_right (by omega), show k - p.length = 0 from by omega]; rfl)) ?_
          refine EO.run 7 [0, 1, 4, 5, 6, 7, 17, 18, 24, 25] (S2 := [(0, .slice (some ⟨b, o, none⟩) ((p ++ z0 :: z1 :: r1).length) cap), (1, .int .i64 ((k : Nat) : Int)), (4, .int .u64 0), (5, .int .i64 0), (6, .int .i64 2), (7, .int .i64 1), (17, .bool false), (18, .int .i64 1), (24, .int .i64 (IntKind.wrap .i64 (IntKind.wrap .u8 (Int.tdiv z0 64)))), (25, .bool true)]) (A2 := A) rfl (by kernel_rfl) ?_
          refine EO.cast (S2 := [(0, .slice (some ⟨b, o, none⟩) ((p ++ z0 :: z1 :: r1).length) cap), (1, .int .i64 ((k : Nat) : Int)), (4, .int .u64 0), (5, .int .i64 0), (6, .int .i64 2), (7, .int .i64 1), (17, .bool false), (18, .int .i64 1), (24, .int .i64 1), (25, .bool true)]) (by rw [quo64 hz0, hc]) ?_
          refine EO.run 8 [0, 1, 4, 5, 6, 7, 17, 25] (S2 := [(0, .slice (some ⟨b, o, none⟩) ((p ++ z0 :: z1 :: r1).length) cap), (1, .int .i64 ((k : Nat) : Int)), (4, .int .u64 0), (5, .int .i64 0), (6, .int .i64 2), (7, .int .i64 1), (17, .bool false), (25, .bool false)]) (A2 := A) rfl (by kernel_rfl) ?_
          refine EO.done rfl ?_
          refine J.cond false (by kernel_rfl) (fun h => Bool.noConfusion h) (fun _ => ?_)
          refine J.exit ?_
          refine thenJ_e ?_
          refine loopQ_e ?_
          refine blockQ_hit ?_
          refine thenJ_n ?_
          refine J.seq ?_
          refine J.sr ?_
          refine EO.run 6 [0, 1, 4, 5, 6, 7, 17, 25, 35] (S2 := [(0, .slice (some ⟨b, o, none⟩) ((p ++ z0 :: z1 :: r1).length) cap), (1, .int .i64 ((k : Nat) : Int)), (4, .int .u64 0), (5, .int .i64 0), (6, .int .i64 2), (7, .int .i64 1), (17, .bool false), (25, .bool false), (35, .bool (decide ((IntKind.wrap .i64 ((((p ++ z0 :: z1 :: r1).length : Nat) : Int) - ((k : Nat) : Int))) < 2)))]) (A2 := A) rfl (by kernel_rfl) ?_
          refine EO.done rfl ?_
          have d3 : (decide ((IntKind.wrap .i64 ((((p ++ z0 :: z1 :: r1).length : Nat) : Int) - ((k : Nat) : Int))) < 2)) = false := decide_eq_false (by rw [wrap_i64 (by simp only [List.length_append, List.length_cons] at *; omega) (by simp only [List.length_append, List.length_cons] at *; omega)]; simp only [List.length_append, List.length_cons] at *; omega)
          rw [d3]
          refine J.cond false (by kernel_rfl) (fun h => Bool.noConfusion h) (fun _ => ?_)
          refine J.skip ?_
          refine thenJ_n ?_
          refine J.sr ?_
          refine EO.run 2 [0, 1, 4, 5, 6, 7, 17, 25, 35, 36, 37] (S2 := [(0, .slice (some ⟨b, o, none⟩) ((p ++ z0 :: z1 :: r1).length) cap), (1, .int .i64 ((k : Nat) : Int)), (4, .int .u64 0), (5, .int .i64 0), (6, .int .i64 2), (7, .int .i64 1), (17, .bool false), (25, .bool false), (35, .bool false), (36, .slice (some ⟨b, o, none⟩) ((p ++ z0 :: z1 :: r1).length) cap), (37, .int .i64 ((k : Nat) : Int))]) (A2 := A) rfl (by kernel_rfl) ?_
          refine EO.index (v := .slice (some ⟨b, o, none⟩) ((p ++ z0 :: z1 :: r1).length) cap) (u := .int .i64 (Int.ofNat k)) (w := .pointer (some ⟨b, o + (k) * 1, none⟩)) rfl rfl rfl (by kernel_rfl) (by kernel_rfl) (by kernel_rfl) (aindexAddr_slice (elem := 5) (size := 1) (by kernel_rfl) (by kernel_rfl) (by simp only [List.length_append, List.length_cons] at *; omega)) ?_
          refine EO.load (ad := ⟨b, o + (k) * 1, none⟩) (w := .int .u8 z0) rfl rfl rfl (by kernel_rfl) (by kernel_rfl) (hr.load (by kernel_rfl) (by rw [List.getElem?_append_right (by omega), show k - p.length = 0 from by omega]; rfl)) ?_
          refine EO.run 6 [0, 1, 4, 5, 6, 7, 17, 25, 35, 41] (S2 := [(0, .slice (some ⟨b, o, none⟩) ((p ++ z0 :: z1 :: r1).length) cap), (1, .int .i64 ((k : Nat) : Int)), (4, .int .u64 0), (5, .int .i64 0), (6, .int .i64 2), (7, .int .i64 1), (17, .bool false), (25, .bool false), (35, .bool false), (41, .int .u64 (IntKind.wrap .u64 (Int.tmod z0 64)))]) (A2 := A) rfl (by kernel_rfl) ?_
          refine EO.cast (S2 := [(0, .slice (some ⟨b, o, none⟩) ((p ++ z0 :: z1 :: r1).length) cap), (1, .int .i64 ((k : Nat) : Int)), (4, .int .u64 0), (5, .int .i64 0), (6, .int .i64 2), (7, .int .i64 1), (17, .bool false), (25, .bool false), (35, .bool false), (41, .int .u64 (z0 % 64))]) (by rw [rem64 hz0]) ?_
          refine EO.run 7 [0, 1, 4, 5, 6, 7, 8, 17, 25, 35] (S2 := [(0, .slice (some ⟨b, o, none⟩) ((p ++ z0 :: z1 :: r1).length) cap), (1, .int .i64 ((k : Nat) : Int)), (4, .int .u64 0), (5, .int .i64 0), (6, .int .i64 2), (7, .int .i64 1), (8, .int .u64 (z0 % 64)), (17, .bool false), (25, .bool false), (35, .bool false)]) (A2 := A) rfl (by kernel_rfl) ?_
          refine EO.done rfl ?_
          refine J.seq ?_
          refine J.sr ?_
          refine EO.run 1 [0, 1, 4, 5, 6, 7, 8, 9, 17, 25, 35] (S2 := [(0, .slice (some ⟨b, o, none⟩) ((p ++ z0 :: z1 :: r1).length) cap), (1, .int .i64 ((k : Nat) : Int)), (4, .int .u64 0), (5, .int .i64 0), (6, .int .i64 2), (7, .int .i64 1), (8, .int .u64 (z0 % 64)), (9, .int .i64 1), (17, .bool false), (25, .bool false), (35, .bool false)]) (A2 := A) rfl (by kernel_rfl) ?_
          refine EO.done rfl ?_
          refine J.block ?_
          refine J.unroll ?_
          refine JL.step ?_
          refine J.seq ?_
          refine J.sr ?_
          refine EO.run 3 [0, 1, 4, 5, 6, 7, 8, 9, 17, 25, 35, 44] (S2 := [(0, .slice (some ⟨b, o, none⟩) ((p ++ z0 :: z1 :: r1).length) cap), (1, .int .i64 ((k : Nat) : Int)), (4, .int .u64 0), (5, .int .i64 0), (6, .int .i64 2), (7, .int .i64 1), (8, .int .u64 (z0 % 64)), (9, .int .i64 1), (17, .bool false), (25, .bool false), (35, .bool false), (44, .bool true)]) (A2 := A) rfl (by kernel_rfl) ?_
          refine EO.done rfl ?_
          refine J.cond true (by kernel_rfl) (fun _ => ?_) (fun h => Bool.noConfusion h)
          refine J.skip ?_
          refine thenJ_n ?_
          refine J.seq ?_
          refine J.block ?_
          refine J.region ?_
          refine EO.run 6 [0, 1, 4, 5, 6, 7, 8, 9, 17, 25, 35, 44, 48, 49, 52] (S2 := [(0, .slice (some ⟨b, o, none⟩) ((p ++ z0 :: z1 :: r1).length) cap), (1, .int .i64 ((k : Nat) : Int)), (4, .int .u64 0), (5, .int .i64 0), (6, .int .i64 2), (7, .int .i64 1), (8, .int .u64 (z0 % 64)), (9, .int .i64 1), (17, .bool false), (25, .bool false), (35, .bool false), (44, .bool true), (48, .int .u64 (IntKind.wrap .u64 (256 * (z0 % 64)))), (49, .slice (some ⟨b, o, none⟩) ((p ++ z0 :: z1 :: r1).length) cap), (52, .int .i64 (IntKind.wrap .i64 (((k : Nat) : Int) + 1)))]) (A2 := A) rfl (by kernel_rfl) ?_
          refine EO.cast (S2 := [(0, .slice (some ⟨b, o, none⟩) ((p ++ z0 :: z1 :: r1).length) cap), (1, .int .i64 ((k : Nat) : Int)), (4, .int .u64 0), (5, .int .i64 0), (6, .int .i64 2), (7, .int .i64 1), (8, .int .u64 (z0 % 64)), (9, .int .i64 1), (17, .bool false), (25, .bool false), (35, .bool false), (44, .bool true), (48, .int .u64 (IntKind.wrap .u64 (256 * (z0 % 64)))), (49, .slice (some ⟨b, o, none⟩) ((p ++ z0 :: z1 :: r1).length) cap), (52, .int .i64 ((k + 1 : Nat) : Int))]) (by rw [show (IntKind.wrap .i64 (((k : Nat) : Int) + 1) : Int) = ((k + 1 : Nat) : Int) from by rw [wrap_i64 (by omega) (by omega)]; omega]) ?_
          refine EO.index (v := .slice (some ⟨b, o, none⟩) ((p ++ z0 :: z1 :: r1).length) cap) (u := .int .i64 (Int.ofNat (k + 1))) (w := .pointer (some ⟨b, o + (k + 1) * 1, none⟩)) rfl rfl rfl (by kernel_rfl) (by kernel_rfl) (by kernel_rfl) (aindexAddr_slice (elem := 5) (size := 1) (by kernel_rfl) (by kernel_rfl) (by simp only [List.length_append, List.length_cons] at *; omega)) ?_
          refine EO.load (ad := ⟨b, o + (k + 1) * 1, none⟩) (w := .int .u8 z1) rfl rfl rfl (by kernel_rfl) (by kernel_rfl) (hr.load (by kernel_rfl) (by rw [List.getElem?_append_right (by omega), show k + 1 - p.length = 1 from by omega]; rfl)) ?_
          refine EO.run 10 [0, 1, 4, 5, 6, 7, 8, 9, 17, 25, 35, 44, 56] (S2 := [(0, .slice (some ⟨b, o, none⟩) ((p ++ z0 :: z1 :: r1).length) cap), (1, .int .i64 ((k : Nat) : Int)), (4, .int .u64 0), (5, .int .i64 0), (6, .int .i64 2), (7, .int .i64 1), (8, .int .u64 (z0 % 64)), (9, .int .i64 1), (17, .bool false), (25, .bool false), (35, .bool false), (44, .bool true), (56, .int .u64 (IntKind.wrap .u64 ((IntKind.wrap .u64 (256 * (z0 % 64))) + (IntKind.wrap .u64 z1))))]) (A2 := A) rfl (by kernel_rfl) ?_
          refine EO.cast (S2 := [(0, .slice (some ⟨b, o, none⟩) ((p ++ z0 :: z1 :: r1).length) cap), (1, .int .i64 ((k : Nat) : Int)), (4, .int .u64 0), (5, .int .i64 0), (6, .int .i64 2), (7, .int .i64 1), (8, .int .u64 (z0 % 64)), (9, .int .i64 1), (17, .bool false), (25, .bool false), (35, .bool false), (44, .bool true), (56, .int .u64 (256 * (z0 % 64) + z1))]) (by rw [mul_step (x := z0 % 64) (by omega) (by omega) hz1]) ?_
          refine EO.run 11 [0, 1, 4, 5, 6, 7, 8, 9, 17, 25, 35, 44] (S2 := [(0, .slice (some ⟨b, o, none⟩) ((p ++ z0 :: z1 :: r1).length) cap), (1, .int .i64 ((k : Nat) : Int)), (4, .int .u64 0), (5, .int .i64 0), (6, .int .i64 2), (7, .int .i64 1), (8, .int .u64 (256 * (z0 % 64) + z1)), (9, .int .i64 1), (17, .bool false), (25, .bool false), (35, .bool false), (44, .bool true)]) (A2 := A) rfl (by kernel_rfl) ?_
          refine EO.done rfl ?_
          refine blockQ_n ?_
          refine thenJ_n ?_
          refine J.region ?_
          refine EO.run 3 [0, 1, 4, 5, 6, 7, 8, 9, 17, 25, 35, 44] (S2 := [(0, .slice (some ⟨b, o, none⟩) ((p ++ z0 :: z1 :: r1).length) cap), (1, .int .i64 ((k : Nat) : Int)), (4, .int .u64 0), (5, .int .i64 0), (6, .int .i64 2), (7, .int .i64 1), (8, .int .u64 (256 * (z0 % 64) + z1)), (9, .int .i64 2), (17, .bool false), (25, .bool false), (35, .bool false), (44, .bool true)]) (A2 := A) rfl (by kernel_rfl) ?_
          refine EO.done rfl ?_
          refine loopQ_n ?_
          refine JL.step ?_
          refine J.seq ?_
          refine J.sr ?_
          refine EO.run 3 [0, 1, 4, 5, 6, 7, 8, 9, 17, 25, 35, 44] (S2 := [(0, .slice (some ⟨b, o, none⟩) ((p ++ z0 :: z1 :: r1).length) cap), (1, .int .i64 ((k : Nat) : Int)), (4, .int .u64 0), (5, .int .i64 0), (6, .int .i64 2), (7, .int .i64 1), (8, .int .u64 (256 * (z0 % 64) + z1)), (9, .int .i64 2), (17, .bool false), (25, .bool false), (35, .bool false), (44, .bool false)]) (A2 := A) rfl (by kernel_rfl) ?_
          refine EO.done rfl ?_
          refine J.cond false (by kernel_rfl) (fun h => Bool.noConfusion h) (fun _ => ?_)
          refine J.exit ?_
          refine thenJ_e ?_
          refine loopQ_e ?_
          refine blockQ_hit ?_
          refine thenJ_n ?_
          refine J.sr ?_
          refine EO.run 4 [0, 1, 4, 5, 6, 7, 8, 9, 17, 25, 35, 44, 57, 60] (S2 := [(0, .slice (some ⟨b, o, none⟩) ((p ++ z0 :: z1 :: r1).length) cap), (1, .int .i64 ((k : Nat) : Int)), (4, .int .u64 0), (5, .int .i64 0), (6, .int .i64 2), (7, .int .i64 1), (8, .int .u64 (256 * (z0 % 64) + z1)), (9, .int .i64 2), (17, .bool false), (25, .bool false), (35, .bool false), (44, .bool false), (57, .int .u64 (256 * (z0 % 64) + z1)), (60, .int .i64 (IntKind.wrap .i64 (((k : Nat) : Int) + 2)))]) (A2 := A) rfl (by kernel_rfl) ?_
          refine EO.cast (S2 := [(0, .slice (some ⟨b, o, none⟩) ((p ++ z0 :: z1 :: r1).length) cap), (1, .int .i64 ((k : Nat) : Int)), (4, .int .u64 0), (5, .int .i64 0), (6, .int .i64 2), (7, .int .i64 1), (8, .int .u64 (256 * (z0 % 64) + z1)), (9, .int .i64 2), (17, .bool false), (25, .bool false), (35, .bool false), (44, .bool false), (57, .int .u64 (256 * (z0 % 64) + z1)), (60, .int .i64 ((k + 2 : Nat) : Int))]) (by rw [show (IntKind.wrap .i64 (((k : Nat) : Int) + 2) : Int) = ((k + 2 : Nat) : Int) from by rw [wrap_i64 (by omega) (by omega)]; omega]) ?_
          refine EO.run 6 [0, 1, 4, 5, 6, 7, 8, 9, 17, 25, 35, 44] (S2 := [(0, .slice (some ⟨b, o, none⟩) ((p ++ z0 :: z1 :: r1).length) cap), (1, .int .i64 ((k : Nat) : Int)), (4, .int .u64 (256 * (z0 % 64) + z1)), (5, .int .i64 ((k + 2 : Nat) : Int)), (6, .int .i64 2), (7, .int .i64 1), (8, .int .u64 (256 * (z0 % 64) + z1)), (9, .int .i64 2), (17, .bool false), (25, .bool false), (35, .bool false), (44, .bool false)]) (A2 := A) rfl (by kernel_rfl) ?_
          refine EO.done rfl ?_
          refine J.ret ?_
          refine Ends_r (vs := [.int .u64 (256 * (z0 % 64) + z1), .int .i64 ((k + 2 : Nat) : Int)]) (by kernel_rfl) ?_
          exact ⟨by unfold refV; rw [refOf_long hpk hu hl]; rfl, rfl⟩
      · have hu : 2 ^ (z0 / 64).toNat = 4 := by rw [hc]; rfl
        by_cases hl : r.length + 1 < 4
        ·
          refine J.fn (fn := Try.f11) hp Try.func11 rfl (Nat.le_of_ble_eq_true rfl) ?_
          refine J.sr ?_
          refine EO.run 2 [0, 1, 4, 5] (S2 := [(0, .slice (some ⟨b, o, none⟩) ((p ++ z0 :: r).length) cap), (1, .int .i64 ((k : Nat) : Int)), (4, .int .u64 0), (5, .int .i64 0)]) (A2 := A) rfl (by kernel_rfl) ?_
          refine EO.done rfl ?_
          refine J.seq ?_
          refine J.sr ?_
          refine EO.run 3 [0, 1, 4, 5, 12] (S2 := [(0, .slice (some ⟨b, o, none⟩) ((p ++ z0 :: r).length) cap), (1, .int .i64 ((k : Nat) : Int)), (4, .int .u64 0), (5, .int .i64 0), (12, .bool (decide (((k : Nat) : Int) < 0)))]) (A2 := A) rfl (by kernel_rfl) ?_
          have d1 : (decide (((k : Nat) : Int) < 0)) = false := decide_eq_false (by omega)
          rw [d1]
          refine EO.run 8 [0, 1, 4, 5, 17] (S2 := [(0, .slice (some ⟨b, o, none⟩) ((p ++ z0 :: r).length) cap), (1, .int .i64 ((k : Nat) : Int)), (4, .int .u64 0), (5, .int .i64 0), (17, .bool (decide (((k : Nat) : Int) ≥ (((p ++ z0 :: r).length : Nat) : Int))))]) (A2 := A) rfl (by kernel_rfl) ?_
          refine EO.done rfl ?_
          have d2 : (decide (((k : Nat) : Int) ≥ (((p ++ z0 :: r).length : Nat) : Int))) = false := decide_eq_false (by simp only [List.length_append, List.length_cons] at *; omega)
          rw [d2]
          refine J.cond false (by kernel_rfl) (fun h => Bool.noConfusion h) (fun _ => ?_)
          refine J.skip ?_
          refine thenJ_n ?_
          refine J.sr ?_
          refine EO.run 1 [0, 1, 4, 5, 6, 17] (S2 := [(0, .slice (some ⟨b, o, none⟩) ((p ++ z0 :: r).length) cap), (1, .int .i64 ((k : Nat) : Int)), (4, .int .u64 0), (5, .int .i64 0), (6, .int .i64 1), (17, .bool false)]) (A2 := A) rfl (by kernel_rfl) ?_
          refine EO.done rfl ?_
          refine J.seq ?_
          refine J.sr ?_
          refine EO.run 1 [0, 1, 4, 5, 6, 7, 17] (S2 := [(0, .slice (some ⟨b, o, none⟩) ((p ++ z0 :: r).length) cap), (1, .int .i64 ((k : Nat) : Int)), (4, .int .u64 0), (5, .int .i64 0), (6, .int .i64 1), (7, .int .i64 0), (17, .bool false)]) (A2 := A) rfl (by kernel_rfl) ?_
          refine EO.done rfl ?_
          refine J.block ?_
          refine J.unroll ?_
          refine JL.step ?_
          refine J.seq ?_
          refine J.sr ?_
          refine EO.run 3 [0, 1, 4, 5, 6, 7, 17, 18, 19, 20] (S2 := [(0, .slice (some ⟨b, o, none⟩) ((p ++ z0 :: r).length) cap), (1, .int .i64 ((k : Nat) : Int)), (4, .int .u64 0), (5, .int .i64 0), (6, .int .i64 1), (7, .int .i64 0), (17, .bool false), (18, .int .i64 0), (19, .slice (some ⟨b, o, none⟩) ((p ++ z0 :: r).length) cap), (20, .int .i64 ((k : Nat) : Int))]) (A2 := A) rfl (by kernel_rfl) ?_
          refine EO.index (v := .slice (some ⟨b, o, none⟩) ((p ++ z0 :: r).length) cap) (u := .int .i64 (Int.ofNat k)) (w := .pointer (some ⟨b, o + (k) * 1, none⟩)) rfl rfl rfl (by kernel_rfl) (by kernel_rfl) (by kernel_rfl) (aindexAddr_slice (elem := 5) (size := 1) (by kernel_rfl) (by kernel_rfl) (by simp only [List.length_append, List.length_cons] at *; omega)) ?_
          refine EO.load (ad := ⟨b, o + (k) * 1, none⟩) (w := .int .u8 z0) rfl rfl rfl (by kernel_rfl) (by kernel_rfl) (hr.load (by kernel_rfl) (by rw [List.getElem?_append_right (by omega), show k - p.length = 0 from by omega]; rfl)) ?_
          refine EO.run 7 [0, 1, 4, 5, 6, 7, 17, 18, 24] (S2 := [(0, .slice (some ⟨b, o, none⟩) ((p ++ z0 :: r).length) cap), (1, .int .i64 ((k : Nat) : Int)), (4, .int .u64 0), (5, .int .i64 0), (6, .int .i64 1), (7, .int .i64 0), (17, .bool false), (18, .int .i64 0), (24, .int .i64 (IntKind.wrap .i64 (IntKind.wrap .u8 (Int.tdiv z0 64))))]) (A2 := A) rfl (by kernel_rfl) ?_
          refine EO.cast (S2 := [(0, .slice (some ⟨b, o, none⟩) ((p ++ z0 :: r).length) cap), (1, .int .i64 ((k : Nat) : Int)), (4, .int .u64 0), (5, .int .i64 0), (6, .int .i64 1), (7, .int .i64 0), (17, .bool false), (18, .int .i64 0), (24, .int .i64 2)]) (by rw [quo64 hz0, hc]) ?_
          refine EO.run 8 [0, 1, 4, 5, 6, 7, 17, 25] (S2 := [(0, .slice (some ⟨b, o, none⟩) ((p ++ z0 :: r).length) cap), (1, .int .i64 ((k : Nat) : Int)), (4, .int .u64 0), (5, .int .i64 0), (6, .int .i64 1), (7, .int .i64 0), (17, .bool false), (25, .bool true)]) (A2 := A) rfl (by kernel_rfl) ?_
          refine EO.done rfl ?_
          refine J.cond true (by kernel_rfl) (fun _ => ?_) (fun h => Bool.noConfusion h)
          refine J.skip ?_
          refine thenJ_n ?_
          refine J.seq ?_
          refine J.block ?_
          refine J.region ?_
          refine EO.run 3 [0, 1, 4, 5, 6, 7, 17, 25] (S2 := [(0, .slice (some ⟨b, o, none⟩) ((p ++ z0 :: r).length) cap), (1, .int .i64 ((k : Nat) : Int)), (4, .int .u64 0), (5, .int .i64 0), (6, .int .i64 2), (7, .int .i64 0), (17, .bool false), (25, .bool true)]) (A2 := A) rfl (by kernel_rfl) ?_
          refine EO.done rfl ?_
          refine blockQ_n ?_
          refine thenJ_n ?_
          refine J.region ?_
          refine EO.run 3 [0, 1, 4, 5, 6, 7, 17, 25] (S2 := [(0, .slice (some ⟨b, o, none⟩) ((p ++ z0 :: r).length) cap), (1, .int .i64 ((k : Nat) : Int)), (4, .int .u64 0), (5, .int .i64 0), (6, .int .i64 2), (7, .int .i64 1), (17, .bool false), (25, .bool true)]) (A2 := A) rfl (by kernel_rfl) ?_
          refine EO.done rfl ?_
          refine loopQ_n ?_
          refine JL.step ?_
          refine J.seq ?_
          refine J.sr ?_
          refine EO.run 3 [0, 1, 4, 5, 6, 7, 17, 18, 19, 20, 25] (S2 := [(0, .slice (some ⟨b, o, none⟩) ((p ++ z0 :: r).length) cap), (1, .int .i64 ((k : Nat) : Int)), (4, .int .u64 0), (5, .int .i64 0), (6, .int .i64 2), (7, .int .i64 1), (17, .bool false), (18, .int .i64 1), (19, .slice (some ⟨b, o, none⟩) ((p ++ z0 :: r).length) cap), (20, .int .i64 ((k : Nat) : Int)), (25, .bool true)]) (A2 := A) rfl (by kernel_rfl) ?_
          refine EO.index (v := .slice (some ⟨b, o, none⟩) ((p ++ z0 :: r).length) cap) (u := .int .i64 (Int.ofNat k)) (w := .pointer (some ⟨b, o + (k) * 1, none⟩)) rfl rfl rfl (by kernel_rfl) (by kernel_rfl) (by kernel_rfl) (aindexAddr_slice (elem := 5) (size := 1) (by kernel_rfl) (by kernel_rfl) (by simp only [List.length_append, List.length_cons] at *; omega)) ?_
          refine EO.load (ad := ⟨b, o + (k) * 1, none⟩) (w := .int .u8 z0) rfl rfl rfl (by kernel_rfl) (by kernel_rfl) (hr.load (by kernel_rfl) (by rw [List.getElem?_append_right (by omega), show k - p.length = 0 from by omega]; rfl)) ?_
          refine EO.run 7 [0, 1, 4, 5, 6, 7, 17, 18, 24, 25] (S2 := [(0, .slice (some ⟨b, o, none⟩) ((p ++ z0 :: r).length) cap), (1, .int .i64 ((k : Nat) : Int)), (4, .int .u64 0), (5, .int .i64 0), (6, .int .i64 2), (7, .int .i64 1), (17, .bool false), (18, .int .i64 1), (24, .int .i64 (IntKind.wrap .i64 (IntKind.wrap .u8 (Int.tdiv z0 64)))), (25, .bool true)]) (A2 := A) rfl (by kernel_rfl) ?_
          refine EO.cast (S2 := [(0, .slice (some ⟨b, o, none⟩) ((p ++ z0 :: r).length) cap), (1, .int .i64 ((k : Nat) : Int)), (4, .int .u64 0), (5, .int .i64 0), (6, .int .i64 2), (7, .int .i64 1), (17, .bool false), (18, .int .i64 1), (24, .int .i64 2), (25, .bool true)]) (by rw [quo64 hz0, hc]) ?_
          refine EO.run 8 [0, 1, 4, 5, 6, 7, 17, 25] (S2 := [(0, .slice (some ⟨b, o, none⟩) ((p ++ z0 :: r).length) cap), (1, .int .i64 ((k : Nat) : Int)), (4, .int .u64 0), (5, .int .i64 0), (6, .int .i64 2), (7, .int .i64 1), (17, .bool false), (25, .bool true)]) (A2 := A) rfl (by kernel_rfl) ?_
          refine EO.done rfl ?_
          refine J.cond true (by kernel_rfl) (fun _ => ?_) (fun h => Bool.noConfusion h)
          refine J.skip ?_
          refine thenJ_n ?_
          refine J.seq ?_
          refine J.block ?_
          refine J.region ?_
          refine EO.run 3 [0, 1, 4, 5, 6, 7, 17, 25] (S2 := [(0, .slice (some ⟨b, o, none⟩) ((p ++ z0 :: r).length) cap), (1, .int .i64 ((k : Nat) : Int)), (4, .int .u64 0), (5, .int .i64 0), (6, .int .i64 4), (7, .int .i64 1), (17, .bool false), (25, .bool true)]) (A2 := A) rfl (by kernel_rfl) ?_
          refine EO.done rfl ?_
          refine blockQ_n ?_
          refine thenJ_n ?_
          refine J.region ?_
          refine EO.run 3 [0, 1, 4, 5, 6, 7, 17, 25] (S2 := [(0, .slice (some ⟨b, o, none⟩) ((p ++ z0 :: r).length) cap), (1, .int .i64 ((k : Nat) : Int)), (4, .int .u64 0), (5, .int .i64 0), (6, .int .i64 4), (7, .int .i64 2), (17, .bool false), (25, .bool true)]) (A2 := A) rfl (by kernel_rfl) ?_
          refine EO.done rfl ?_
          refine loopQ_n ?_
          refine JL.step ?_
          refine J.seq ?_
          refine J.sr ?_
          refine EO.run 3 [0, 1, 4, 5, 6, 7, 17, 18, 19, 20, 25] (S2 := [(0, .slice (some ⟨b, o, none⟩) ((p ++ z0 :: r).length) cap), (1, .int .i64 ((k : Nat) : Int)), (4, .int .u64 0), (5, .int .i64 0), (6, .int .i64 4), (7, .int .i64 2), (17, .bool false), (18, .int .i64 2), (19, .slice (some ⟨b, o, none⟩) ((p ++ z0 :: r).length) cap), (20, .int .i64 ((k : Nat) : Int)), (25, .bool true)]) (A2 := A) rfl (by kernel_rfl) ?_
          refine EO.index (v := .slice (some ⟨b, o, none⟩) ((p ++ z0 :: r).length) cap) (u := .int .i64 (Int.ofNat k)) (w := .pointer (some ⟨b, o + (k) * 1, none⟩)) rfl rfl rfl (by kernel_rfl) (by kernel_rfl) (by kernel_rfl) (aindexAddr_slice (elem := 5) (size := 1) (by kernel_rfl) (by kernel_rfl) (by simp only [List.length_append, List.length_cons] at *; omega)) ?_
          refine EO.load (ad := ⟨b, o + (k) * 1, none⟩) (w := .int .u8 z0) rfl rfl rfl (by kernel_rfl) (by kernel_rfl) (hr.load (by kernel_rfl) (by rw [List.getElem?_append_right (by omega), show k - p.length = 0 from by omega]; rfl)) ?_
          refine EO.run 7 [0, 1, 4, 5, 6, 7, 17, 18, 24, 25] (S2 := [(0, .slice (some ⟨b, o, none⟩) ((p ++ z0 :: r).length) cap), (1, .int .i64 ((k : Nat) : Int)), (4, .int .u64 0), (5, .int .i64 0), (6, .int .i64 4), (7, .int .i64 2), (17, .bool false), (18, .int .i64 2), (24, .int .i64 (IntKind.wrap .i64 (IntKind.wrap .u8 (Int.tdiv z0 64)))), (25, .bool true)]) (A2 := A) rfl (by kernel_rfl) ?_
          refine EO.cast (S2 := [(0, .slice (some ⟨b, o, none⟩) ((p ++ z0 :: r).length) cap), (1, .int .i64 ((k : Nat) : Int)), (4, .int .u64 0), (5, .int .i64 0), (6, .int .i64 4), (7, .int .i64 2), (17, .bool false), (18, .int .i64 2), (24, .int .i64 2), (25, .bool true)]) (by rw [quo64 hz0, hc]) ?_
          refine EO.run 8 [0, 1, 4, 5, 6, 7, 17, 25] (S2 := [(0, .slice (some ⟨b, o, none⟩) ((p ++ z0 :: r).length) cap), (1, .int .i64 ((k : Nat) : Int)), (4, .int .u64 0), (5, .int .i64 0), (6, .int .i64 4), (7, .int .i64 2), (17, .bool false), (25, .bool false)]) (A2 := A) rfl (by kernel_rfl) ?_
          refine EO.done rfl ?_
          refine J.cond false (by kernel_rfl) (fun h => Bool.noConfusion h) (fun _ => ?_)
          refine J.exit ?_
          refine thenJ_e ?_
          refine loopQ_e ?_
          refine blockQ_hit ?_
          refine thenJ_n ?_
          refine J.seq ?_
          refine J.sr ?_
          refine EO.run 6 [0, 1, 4, 5, 6, 7, 17, 25, 35] (S2 := [(0, .slice (some ⟨b, o, none⟩) ((p ++ z0 :: r).length) cap), (1, .int .i64 ((k : Nat) : Int)), (4, .int .u64 0), (5, .int .i64 0), (6, .int .i64 4), (7, .int .i64 2), (17, .bool false), (25, .bool false), (35, .bool (decide ((IntKind.wrap .i64 ((((p ++ z0 :: r).length : Nat) : Int) - ((k : Nat) : Int))) < 4)))]) (A2 := A) rfl (by kernel_rfl) ?_
          refine EO.done rfl ?_
          have d3 : (decide ((IntKind.wrap .i64 ((((p ++ z0 :: r).length : Nat) : Int) - ((k : Nat) : Int))) < 4)) = true := decide_eq_true (by rw [wrap_i64 (by simp only [List.length_append, List.length_cons] at *; omega) (by simp only [List.length_append, List.length_cons] at *; omega)]; simp only [List.length_append, List.length_cons] at *; omega)
          rw [d3]
          refine J.cond true (by kernel_rfl) (fun _ => ?_) (fun h => Bool.noConfusion h)
          refine J.sr ?_
          refine EO.run 2 [0, 1, 4, 5, 6, 7, 17, 25, 35] (S2 := [(0, .slice (some ⟨b, o, none⟩) ((p ++ z0 :: r).length) cap), (1, .int .i64 ((k : Nat) : Int)), (4, .int .u64 0), (5, .int .i64 (-1)), (6, .int .i64 4), (7, .int .i64 2), (17, .bool false), (25, .bool false), (35, .bool true)]) (A2 := A) rfl (by kernel_rfl) ?_
          refine EO.done rfl ?_
          refine J.ret ?_
          refine thenJ_r ?_
          refine Ends_r (vs := [.int .u64 0, .int .i64 (-1)]) (by kernel_rfl) ?_
          exact ⟨by unfold refV; rw [refOf_short hpk hu hl]; rfl, rfl⟩
        ·
          obtain ⟨z1, r1, rfl⟩ := exists_cons (r := r) (by simp at hl; omega)
          obtain ⟨z2, r2, rfl⟩ := exists_cons (r := r1) (by simp at hl; omega)
          obtain ⟨z3, r3, rfl⟩ := exists_cons (r := r2) (by simp at hl; omega)
          have hz1 := hr.byte z1 (by simp)
          have hz2 := hr.byte z2 (by simp)
          have hz3 := hr.byte z3 (by simp)
          refine J.fn (fn := Try.f11) hp Try.func11 rfl (Nat.le_of_ble_eq_true rfl) ?_
          refine J.sr ?_
          refine EO.run 2 [0, 1, 4, 5] (S2 := [(0, .slice (some ⟨b, o, none⟩) ((p ++ z0 :: z1 :: z2 :: z3 :: r3).length) cap), (1, .int .i64 ((k : Nat) : Int)), (4, .int .u64 0), (5, .int .i64 0)]) (A2 := A) rfl (by kernel_rfl) ?_
          refine EO.done rfl ?_
          refine J.seq ?_
          refine J.sr ?_
          refine EO.run 3 [0, 1, 4, 5, 12] (S2 := [(0, .slice (some ⟨b, o, none⟩) ((p ++ z0 :: z1 :: z2 :: z3 :: r3).length) cap), (1, .int .i64 ((k : Nat) : Int)), (4, .int .u64 0), (5, .int .i64 0), (12, .bool (decide (((k : Nat) : Int) < 0)))]) (A2 := A) rfl (by kernel_rfl) ?_
          have d1 : (decide (((k : Nat) : Int) < 0)) = false := decide_eq_false (by omega)
          rw [d1]
          refine EO.run 8 [0, 1, 4, 5, 17] (S2 := [(0, .slice (some ⟨b, o, none⟩) ((p ++ z0 :: z1 :: z2 :: z3 :: r3).length) cap), (1, .int .i64 ((k : Nat) : Int)), (4, .int .u64 0), (5, .int .i64 0), (17, .bool (decide (((k : Nat) : Int) ≥ (((p ++ z0 :: z1 :: z2 :: z3 :: r3).length : Nat) : Int))))]) (A2 := A) rfl (by kernel_rfl) ?_
          refine EO.done rfl ?_
          have d2 : (decide (((k : Nat) : Int) ≥ (((p ++ z0 :: z1 :: z2 :: z3 :: r3).length : Nat) : Int))) = false := decide_eq_false (by simp only [List.length_append, List.length_cons] at *; omega)
          rw [d2]
          refine J.cond false (by kernel_rfl) (fun h => Bool.noConfusion h) (fun _ => ?_)
          refine J.skip ?_
          refine thenJ_n ?_
          refine J.sr ?_
          refine EO.run 1 [0, 1, 4, 5, 6, 17] (S2 := [(0, .slice (some ⟨b, o, none⟩) ((p ++ z0 :: z1 :: z2 :: z3 :: r3).length) cap), (1, .int .i64 ((k : Nat) : Int)), (4, .int .u64 0), (5, .int .i64 0), (6, .int .i64 1), (17, .bool false)]) (A2 := A) rfl (by kernel_rfl) ?_
          refine EO.done rfl ?_
          refine J.seq ?_
          refine J.sr ?_
          refine EO.run 1 [0, 1, 4, 5, 6, 7, 17] (S2 := [(0, .slice (some ⟨b, o, none⟩) ((p ++ z0 :: z1 :: z2 :: z3 :: r3).length) cap), (1, .int .i64 ((k : Nat) : Int)), (4, .int .u64 0), (5, .int .i64 0), (6, .int .i64 1), (7, .int .i64 0), (17, .bool false)]) (A2 := A) rfl (by kernel_rfl) ?_
          refine EO.done rfl ?_
          refine J.block ?_
          refine J.unroll ?_
          refine JL.step ?_
          refine J.seq ?_
          refine J.sr ?_
          refine EO.run 3 [0, 1, 4, 5, 6, 7, 17, 18, 19, 20] (S2 := [(0, .slice (some ⟨b, o, none⟩) ((p ++ z0 :: z1 :: z2 :: z3 :: r3).length) cap), (1, .int .i64 ((k : Nat) : Int)), (4, .int .u64 0), (5, .int .i64 0), (6, .int .i64 1), (7, .int .i64 0), (17, .bool false), (18, .int .i64 0), (19, .slice (some ⟨b, o, none⟩) ((p ++ z0 :: z1 :: z2 :: z3 :: r3).length) cap), (20, .int .i64 ((k : Nat) : Int))]) (A2 := A) rfl (by kernel_rfl) ?_
          refine EO.index (v := .slice (some ⟨b, o, none⟩) ((p ++ z0 :: z1 :: z2 :: z3 :: r3).length) cap) (u := .int .i64 (Int.ofNat k)) (w := .pointer (some ⟨b, o + (k) * 1, none⟩)) rfl rfl rfl (by kernel_rfl) (by kernel_rfl) (by kernel_rfl) (aindexAddr_slice (elem := 5) (size := 1) (by kernel_rfl) (by kernel_rfl) (by simp only [List.length_append, List.length_cons] at *; omega)) ?_
          refine EO.load (ad := ⟨b, o + (k) * 1, none⟩) (w := .int .u8 z0) rfl rfl rfl (by kernel_rfl) (by kernel_rfl) (hr.load (by kernel_rfl) (by rw [List.getElem?_append_right (by omega), show k - p.length = 0 from by omega]; rfl)) ?_
          refine EO.run 7 [0, 1, 4, 5, 6, 7, 17, 18, 24] (S2 := [(0, .slice (some ⟨b, o, none⟩) ((p ++ z0 :: z1 :: z2 :: z3 :: r3).length) cap), (1, .int .i64 ((k : Nat) : Int)), (4, .int .u64 0), (5, .int .i64 0), (6, .int .i64 1), (7, .int .i64 0), (17, .bool false), (18, .int .i64 0), (24, .int .i64 (IntKind.wrap .i64 (IntKind.wrap .u8 (Int.tdiv z0 64))))]) (A2 := A) rfl (by kernel_rfl) ?_
          refine EO.cast (S2 := [(0, .slice (some ⟨b, o, none⟩) ((p ++ z0 :: z1 :: z2 :: z3 :: r3).length) cap), (1, .int .i64 ((k : Nat) : Int)), (4, .int .u64 0), (5, .int .i64 0), (6, .int .i64 1), (7, .int .i64 0), (17, .bool false), (18, .int .i64 0), (24, .int .i64 2)]) (by rw [quo64 hz0, hc]) ?_
          refine EO.run 8 [0, 1, 4, 5, 6, 7, 17, 25] (S2 := [(0, .slice (some ⟨b, o, none⟩) ((p ++ z0 :: z1 :: z2 :: z3 :: r3).length) cap), (1, .int .i64 ((k : Nat) : Int)), (4, .int .u64 0), (5, .int .i64 0), (6, .int .i64 1), (7, .int .i64 0), (17, .bool false), (25, .bool true)]) (A2 := A) rfl (by kernel_rfl) ?_
          refine EO.done rfl ?_
          refine J.cond true (by kernel_rfl) (fun _ => ?_) (fun h => Bool.noConfusion h)
          refine J.skip ?_
          refine thenJ_n ?_
          refine J.seq ?_
          refine J.block ?_
          refine J.region ?_
          refine EO.run 3 [0, 1, 4, 5, 6, 7, 17, 25] (S2 := [(0, .slice (some ⟨b, o, none⟩) ((p ++ z0 :: z1 :: z2 :: z3 :: r3).length) cap), (1, .int .i64 ((k : Nat) : Int)), (4, .int .u64 0), (5, .int .i64 0), (6, .int .i64 2), (7, .int .i64 0), (17, .bool false), (25, .bool true)]) (A2 := A) rfl (by kernel_rfl) ?_
          refine EO.done rfl ?_
          refine blockQ_n ?_
          refine thenJ_n ?_
          refine J.region ?_
          refine EO.run 3 [0, 1, 4, 5, 6, 7, 17, 25] (S2 := [(0, .slice (some ⟨b, o, none⟩) ((p ++ z0 :: z1 :: z2 :: z3 :: r3).length) cap), (1, .int .i64 ((k : Nat) : Int)), (4, .int .u64 0), (5, .int .i64 0), (6, .int .i64 2), (7, .int .i64 1), (17, .bool false), (25, .bool true)]) (A2 := A) rfl (by kernel_rfl) ?_
          refine EO.done rfl ?_
          refine loopQ_n ?_
          refine JL.step ?_
          refine J.seq ?_
          refine J.sr ?_
          refine EO.run 3 [0, 1, 4, 5, 6, 7, 17, 18, 19, 20, 25] (S2 := [(0, .slice (some ⟨b, o, none⟩) ((p ++ z0 :: z1 :: z2 :: z3 :: r3).length) cap), (1, .int .i64 ((k : Nat) : Int)), (4, .int .u64 0), (5, .int .i64 0), (6, .int .i64 2), (7, .int .i64 1), (17, .bool false), (18, .int .i64 1), (19, .slice (some ⟨b, o, none⟩) ((p ++ z0 :: z1 :: z2 :: z3 :: r3).length) cap), (20, .int .i64 ((k : Nat) : Int)), (25, .bool true)]) (A2 := A) rfl (by kernel_rfl) ?_
          refine EO.index (v := .slice (some ⟨b, o, none⟩) ((p ++ z0 :: z1 :: z2 :: z3 :: r3).length) cap) (u := .int .i64 (Int.ofNat k)) (w := .pointer (some ⟨b, o + (k) * 1, none⟩)) rfl rfl rfl (by kernel_rfl) (by kernel_rfl) (by kernel_rfl) (aindexAddr_slice (elem := 5) (size := 1) (by kernel_rfl) (by kernel_rfl) (by simp only [List.length_append, List.length_cons] at *; omega)) ?_
          refine EO.load (ad := ⟨b, o + (k) * 1, none⟩) (w := .int .u8 z0) rfl rfl rfl (by kernel_rfl) (by kernel_rfl) (hr.load (by kernel_rfl) (by rw [List.getElem?_append_right (by omega), show k - p.length = 0 from by omega]; rfl)) ?_
          refine EO.run 7 [0, 1, 4, 5, 6, 7, 17, 18, 24, 25] (S2 := [(0, .slice (some ⟨b, o, none⟩) ((p ++ z0 :: z1 :: z2 :: z3 :: r3).length) cap), (1, .int .i64 ((k : Nat) : Int)), (4, .int .u64 0), (5, .int .i64 0), (6, .int .i64 2), (7, .int .i64 1), (17, .bool false), (18, .int .i64 1), (24, .int .i64 (IntKind.wrap .i64 (IntKind.wrap .u8 (Int.tdiv z0 64)))), (25, .bool true)]) (A2 := A) rfl (by kernel_rfl) ?_
          refine EO.cast (S2 := [(0, .slice (some ⟨b, o, none⟩) ((p ++ z0 :: z1 :: z2 :: z3 :: r3).length) cap), (1, .int .i64 ((k : Nat) : Int)), (4, .int .u64 0), (5, .int .i64 0), (6, .int .i64 2), (7, .int .i64 1), (17, .bool false), (18, .int .i64 1), (24, .int .i64 2), (25, .bool true)]) (by rw [quo64 hz0, hc]) ?_
          refine EO.run 8 [0, 1, 4, 5, 6, 7, 17, 25] (S2 := [(0, .slice (some ⟨b, o, none⟩) ((p ++ z0 :: z1 :: z2 :: z3 :: r3).length) cap), (1, .int .i64 ((k : Nat) : Int)), (4, .int .u64 0), (5, .int .i64 0), (6, .int .i64 2), (7, .int .i64 1), (17, .bool false), (25, .bool true)]) (A2 := A) rfl (by kernel_rfl) ?_
          refine EO.done rfl ?_
          refine J.cond true (by kernel_rfl) (fun _ => ?_) (fun h => Bool.noConfusion h)
          refine J.skip ?_
          refine thenJ_n ?_
          refine J.seq ?_
          refine J.block ?_
          refine J.region ?_
          refine EO.run 3 [0, 1, 4, 5, 6, 7, 17, 25] (S2 := [(0, .slice (some ⟨b, o, none⟩) ((p ++ z0 :: z1 :: z2 :: z3 :: r3).length) cap), (1, .int .i64 ((k : Nat) : Int)), (4, .int .u64 0), (5, .int .i64 0), (6, .int .i64 4), (7, .int .i64 1), (17, .bool false), (25, .bool true)]) (A2 := A) rfl (by kernel_rfl) ?_
          refine EO.done rfl ?_
          refine blockQ_n ?_
          refine thenJ_n ?_
          refine J.region ?_
          refine EO.run 3 [0, 1, 4, 5, 6, 7, 17, 25] (S2 := [(0, .slice (some ⟨b, o, none⟩) ((p ++ z0 :: z1 :: z2 :: z3 :: r3).length) cap), (1, .int .i64 ((k : Nat) : Int)), (4, .int .u64 0), (5, .int .i64 0), (6, .int .i64 4), (7, .int .i64 2), (17, .bool false), (25, .bool true)]) (A2 := A) rfl (by kernel_rfl) ?_
          refine EO.done rfl ?_
          refine loopQ_n ?_
          refine JL.step ?_
          refine J.seq ?_
          refine J.sr ?_
          refine EO.run 3 [0, 1, 4, 5, 6, 7, 17, 18, 19, 20, 25] (S2 := [(0, .slice (some ⟨b, o, none⟩) ((p ++ z0 :: z1 :: z2 :: z3 :: r3).length) cap), (1, .int .i64 ((k : Nat) : Int)), (4, .int .u64 0), (5, .int .i64 0), (6, .int .i64 4), (7, .int .i64 2), (17, .bool false), (18, .int .i64 2), (19, .slice (some ⟨b, o, none⟩) ((p ++ z0 :: z1 :: z2 :: z3 :: r3).length) cap), (20, .int .i64 ((k : Nat) : Int)), (25, .bool true)]) (A2 := A) rfl (by kernel_rfl) ?_
          refine EO.index (v := .slice (some ⟨b, o, none⟩) ((p ++ z0 :: z1 :: z2 :: z3 :: r3).length) cap) (u := .int .i64 (Int.ofNat k)) (w := .pointer (some ⟨b, o + (k) * 1, none⟩)) rfl rfl rfl (by kernel_rfl) (by kernel_rfl) (by kernel_rfl) (aindexAddr_slice (elem := 5) (size := 1) (by kernel_rfl) (by kernel_rfl) (by simp only [List.length_append, List.length_cons] at *; omega)) ?_
          refine EO.load (ad := ⟨b, o + (k) * 1, none⟩) (w := .int .u8 z0) rfl rfl rfl (by kernel_rfl) (by kernel_rfl) (hr.load (by kernel_rfl) (by rw [List.getElem?_append_right (by omega), show k - p.length = 0 from by omega]; rfl)) ?_
          refine EO.run 7 [0, 1, 4, 5, 6, 7, 17, 18, 24, 25] (S2 := [(0, .slice (some ⟨b, o, none⟩) ((p ++ z0 :: z1 :: z2 :: z3 :: r3).length) cap), (1, .int .i64 ((k : Nat) : Int)), (4, .int .u64 0), (5, .int .i64 0), (6, .int .i64 4), (7, .int .i64 2), (17, .bool false), (18, .int .i64 2), (24, .int .i64 (IntKind.wrap .i64 (IntKind.wrap .u8 (Int.tdiv z0 64)))), (25, .bool true)]) (A2 := A) rfl (by kernel_rfl) ?_
          refine EO.cast (S2 := [(0, .slice (some ⟨b, o, none⟩) ((p ++ z0 :: z1 :: z2 :: z3 :: r3).length) cap), (1, .int .i64 ((k : Nat) : Int)), (4, .int .u64 0), (5, .int .i64 0), (6, .int .i64 4), (7, .int .i64 2), (17, .bool false), (18, .int .i64 2), (24, .int .i64 2), (25, .bool true)]) (by rw [quo64 hz0, hc]) ?_
          refine EO.run 8 [0, 1, 4, 5, 6, 7, 17, 25] (S2 := [(0, .slice (some ⟨b, o, none⟩) ((p ++ z0 :: z1 :: z2 :: z3 :: r3).length) cap), (1, .int .i64 ((k : Nat) : Int)), (4, .int .u64 0), (5, .int .i64 0), (6, .int .i64 4), (7, .int .i64 2), (17, .bool false), (25, .bool false)]) (A2 := A) rfl (by kernel_rfl) ?_
          refine EO.done rfl ?_
          refine J.cond false (by kernel_rfl) (fun h => Bool.noConfusion h) (fun _ => ?_)
          refine J.exit ?_
          refine thenJ_e ?_
          refine loopQ_e ?_
          refine blockQ_hit ?_
          refine thenJ_n ?_
          refine J.seq ?_
          refine J.sr ?_
          refine EO.run 6 [0, 1, 4, 5, 6, 7, 17, 25, 35] (S2 := [(0, .slice (some ⟨b, o, none⟩) ((p ++ z0 :: z1 :: z2 :: z3 :: r3).length) cap), (1, .int .i64 ((k : Nat) : Int)), (4, .int .u64 0), (5, .int .i64 0), (6, .int .i64 4), (7, .int .i64 2), (17, .bool false), (25, .bool false), (35, .bool (decide ((IntKind.wrap .i64 ((((p ++ z0 :: z1 :: z2 :: z3 :: r3).length : Nat) : Int) - ((k : Nat) : Int))) < 4)))]) (A2 := A) rfl (by kernel_rfl) ?_
          refine EO.done rfl ?_
          have d3 : (decide ((IntKind.wrap .i64 ((((p ++ z0 :: z1 :: z2 :: z3 :: r3).length : Nat) : Int) - ((k : Nat) : Int))) < 4)) = false := decide_eq_false (by rw [wrap_i64 (by simp only [List.length_append, List.length_cons] at *; omega) (by simp only [List.length_append, List.length_cons] at *; omega)]; simp only [List.length_append, List.length_cons] at *; omega)
          rw [d3]
          refine J.cond false (by kernel_rfl) (fun h => Bool.noConfusion h) (fun _ => ?_)
          refine J.skip ?_
          refine thenJ_n ?_
          refine J.sr ?_
          refine EO.run 2 [0, 1, 4, 5, 6, 7, 17, 25, 35, 36, 37] (S2 := [(0, .slice (some ⟨b, o, none⟩) ((p ++ z0 :: z1 :: z2 :: z3 :: r3).length) cap), (1, .int .i64 ((k : Nat) : Int)), (4, .int .u64 0), (5, .int .i64 0), (6, .int .i64 4), (7, .int .i64 2), (17, .bool false), (25, .bool false), (35, .bool false), (36, .slice (some ⟨b, o, none⟩) ((p ++ z0 :: z1 :: z2 :: z3 :: r3).length) cap), (37, .int .i64 ((k : Nat) : Int))]) (A2 := A) rfl (by kernel_rfl) ?_
          refine EO.index (v := .slice (some ⟨b, o, none⟩) ((p ++ z0 :: z1 :: z2 :: z3 :: r3).length) cap) (u := .int .i64 (Int.ofNat k)) (w := .pointer (some ⟨b, o + (k) * 1, none⟩)) rfl rfl rfl (by kernel_rfl) (by kernel_rfl) (by kernel_rfl) (aindexAddr_slice (elem := 5) (size := 1) (by kernel_rfl) (by kernel_rfl) (by simp only [List.length_append, List.length_cons] at *; omega)) ?_
          refine EO.load (ad := ⟨b, o + (k) * 1, none⟩) (w := .int .u8 z0) rfl rfl rfl (by kernel_rfl) (by kernel_rfl) (hr.load (by kernel_rfl) (by rw [List.getElem?_append_right (by omega), show k - p.length = 0 from by omega]; rfl)) ?_
          refine EO.run 6 [0, 1, 4, 5, 6, 7, 17, 25, 35, 41] (S2 := [(0, .slice (some ⟨b, o, none⟩) ((p ++ z0 :: z1 :: z2 :: z3 :: r3).length) cap), (1, .int .i64 ((k : Nat) : Int)), (4, .int .u64 0), (5, .int .i64 0), (6, .int .i64 4), (7, .int .i64 2), (17, .bool false), (25, .bool false), (35, .bool false), (41, .int .u64 (IntKind.wrap .u64 (Int.tmod z0 64)))]) (A2 := A) rfl (by kernel_rfl) ?_
          refine EO.cast (S2 := [(0, .slice (some ⟨b, o, none⟩) ((p ++ z0 :: z1 :: z2 :: z3 :: r3).length) cap), (1, .int .i64 ((k : Nat) : Int)), (4, .int .u64 0), (5, .int .i64 0), (6, .int .i64 4), (7, .int .i64 2), (17, .bool false), (25, .bool false), (35, .bool false), (41, .int .u64 (z0 % 64))]) (by rw [rem64 hz0]) ?_
          refine EO.run 7 [0, 1, 4, 5, 6, 7, 8, 17, 25, 35] (S2 := [(0, .slice (some ⟨b, o, none⟩) ((p ++ z0 :: z1 :: z2 :: z3 :: r3).length) cap), (1, .int .i64 ((k : Nat) : Int)), (4, .int .u64 0), (5, .int .i64 0), (6, .int .i64 4), (7, .int .i64 2), (8, .int .u64 (z0 % 64)), (17, .bool false), (25, .bool false), (35, .bool false)]) (A2 := A) rfl (by kernel_rfl) ?_
          refine EO.done rfl ?_
          refine J.seq ?_
          refine J.sr ?_
          refine EO.run 1 [0, 1, 4, 5, 6, 7, 8, 9, 17, 25, 35] (S2 := [(0, .slice (some ⟨b, o, none⟩) ((p ++ z0 :: z1 :: z2 :: z3 :: r3).length) cap), (1, .int .i64 ((k : Nat) : Int)), (4, .int .u64 0), (5, .int .i64 0), (6, .int .i64 4), (7, .int .i64 2), (8, .int .u64 (z0 % 64)), (9, .int .i64 1), (17, .bool false), (25, .bool false), (35, .bool false)]) (A2 := A) rfl (by kernel_rfl) ?_
          refine EO.done rfl ?_
          refine J.block ?_
          refine J.unroll ?_
          refine JL.step ?_
          refine J.seq ?_
          refine J.sr ?_
          refine EO.run 3 [0, 1, 4, 5, 6, 7, 8, 9, 17, 25, 35, 44] (S2 := [(0, .slice (some ⟨b, o, none⟩) ((p ++ z0 :: z1 :: z2 :: z3 :: r3).length) cap), (1, .int .i64 ((k : Nat) : Int)), (4, .int .u64 0), (5, .int .i64 0), (6, .int .i64 4), (7, .int .i64 2), (8, .int .u64 (z0 % 64)), (9, .int .i64 1), (17, .bool false), (25, .bool false), (35, .bool false), (44, .bool true)]) (A2 := A) rfl (by kernel_rfl) ?_
          refine EO.done rfl ?_
          refine J.cond true (by kernel_rfl) (fun _ => ?_) (fun h => Bool.noConfusion h)
          refine J.skip ?_
          refine thenJ_n ?_
          refine J.seq ?_
          refine J.block ?_
          refine J.region ?_
          refine EO.run 6 [0, 1, 4, 5, 6, 7, 8, 9, 17, 25, 35, 44, 48, 49, 52] (S2 := [(0, .slice (some ⟨b, o, none⟩) ((p ++ z0 :: z1 :: z2 :: z3 :: r3).length) cap), (1, .int .i64 ((k : Nat) : Int)), (4, .int .u64 0), (5, .int .i64 0), (6, .int .i64 4), (7, .int .i64 2), (8, .int .u64 (z0 % 64)), (9, .int .i64 1), (17, .bool false), (25, .bool false), (35, .bool false), (44, .bool true), (48, .int .u64 (IntKind.wrap .u64 (256 * (z0 % 64)))), (49, .slice (some ⟨b, o, none⟩) ((p ++ z0 :: z1 :: z2 :: z3 :: r3).length) cap), (52, .int .i64 (IntKind.wrap .i64 (((k : Nat) : Int) + 1)))]) (A2 := A) rfl (by kernel_rfl) ?_
          refine EO.cast (S2 := [(0, .slice (some ⟨b, o, none⟩) ((p ++ z0 :: z1 :: z2 :: z3 :: r3).length) cap), (1, .int .i64 ((k : Nat) : Int)), (4, .int .u64 0), (5, .int .i64 0), (6, .int .i64 4), (7, .int .i64 2), (8, .int .u64 (z0 % 64)), (9, .int .i64 1), (17, .bool false), (25, .bool false), (35, .bool false), (44, .bool true), (48, .int .u64 (IntKind.wrap .u64 (256 * (z0 % 64)))), (49, .slice (some ⟨b, o, none⟩) ((p ++ z0 :: z1 :: z2 :: z3 :: r3).length) cap), (52, .int .i64 ((k + 1 : Nat) : Int))]) (by rw [show (IntKind.wrap .i64 (((k : Nat) : Int) + 1) : Int) = ((k + 1 : Nat) : Int) from by rw [wrap_i64 (by omega) (by omega)]; omega]) ?_
          refine EO.index (v := .slice (some ⟨b, o, none⟩) ((p ++ z0 :: z1 :: z2 :: z3 :: r3).length) cap) (u := .int .i64 (Int.ofNat (k + 1))) (w := .pointer (some ⟨b, o + (k + 1) * 1, none⟩)) rfl rfl rfl (by kernel_rfl) (by kernel_rfl) (by kernel_rfl) (aindexAddr_slice (elem := 5) (size := 1) (by kernel_rfl) (by kernel_rfl) (by simp only [List.length_append, List.length_cons] at *; omega)) ?_
          refine EO.load (ad := ⟨b, o + (k + 1) * 1, none⟩) (w := .int .u8 z1) rfl rfl rfl (by kernel_rfl) (by kernel_rfl) (hr.load (by kernel_rfl) (by rw [List.getElem?_append_right (by omega), show k + 1 - p.length = 1 from by omega]; rfl)) ?_
          refine EO.run 10 [0, 1, 4, 5, 6, 7, 8, 9, 17, 25, 35, 44, 56] (S2 := [(0, .slice (some ⟨b, o, none⟩) ((p ++ z0 :: z1 :: z2 :: z3 :: r3).length) cap), (1, .int .i64 ((k : Nat) : Int)), (4, .int .u64 0), (5, .int .i64 0), (6, .int .i64 4), (7, .int .i64 2), (8, .int .u64 (z0 % 64)), (9, .int .i64 1), (17, .bool false), (25, .bool false), (35, .bool false), (44, .bool true), (56, .int .u64 (IntKind.wrap .u64 ((IntKind.wrap .u64 (256 * (z0 % 64))) + (IntKind.wrap .u64 z1))))]) (A2 := A) rfl (by kernel_rfl) ?_
          refine EO.cast (S2 := [(0, .slice (some ⟨b, o, none⟩) ((p ++ z0 :: z1 :: z2 :: z3 :: r3).length) cap), (1, .int .i64 ((k : Nat) : Int)), (4, .int .u64 0), (5, .int .i64 0), (6, .int .i64 4), (7, .int .i64 2), (8, .int .u64 (z0 % 64)), (9, .int .i64 1), (17, .bool false), (25, .bool false), (35, .bool false), (44, .bool true), (56, .int .u64 (256 * (z0 % 64) + z1))]) (by rw [mul_step (x := z0 % 64) (by omega) (by omega) hz1]) ?_
          refine EO.run 11 [0, 1, 4, 5, 6, 7, 8, 9, 17, 25, 35, 44] (S2 := [(0, .slice (some ⟨b, o, none⟩) ((p ++ z0 :: z1 :: z2 :: z3 :: r3).length) cap), (1, .int .i64 ((k : Nat) : Int)), (4, .int .u64 0), (5, .int .i64 0), (6, .int .i64 4), (7, .int .i64 2), (8, .int .u64 (256 * (z0 % 64) + z1)), (9, .int .i64 1), (17, .bool false), (25, .bool false), (35, .bool false), (44, .bool true)]) (A2 := A) rfl (by kernel_rfl) ?_
          refine EO.done rfl ?_
          refine blockQ_n ?_
          refine thenJ_n ?_
          refine J.region ?_
          refine EO.run 3 [0, 1, 4, 5, 6, 7, 8, 9, 17, 25, 35, 44] (S2 := [(0, .slice (some ⟨b, o, none⟩) ((p ++ z0 :: z1 :: z2 :: z3 :: r3).length) cap), (1, .int .i64 ((k : Nat) : Int)), (4, .int .u64 0), (5, .int .i64 0), (6, .int .i64 4), (7, .int .i64 2), (8, .int .u64 (256 * (z0 % 64) + z1)), (9, .int .i64 2), (17, .bool false), (25, .bool false), (35, .bool false), (44, .bool true)]) (A2 := A) rfl (by kernel_rfl) ?_
          refine EO.done rfl ?_
          refine loopQ_n ?_
          refine JL.step ?_
          refine J.seq ?_
          refine J.sr ?_
          refine EO.run 3 [0, 1, 4, 5, 6, 7, 8, 9, 17, 25, 35, 44] (S2 := [(0, .slice (some ⟨b, o, none⟩) ((p ++ z0 :: z1 :: z2 :: z3 :: r3).length) cap), (1, .int .i64 ((k : Nat) : Int)), (4, .int .u64 0), (5, .int .i64 0), (6, .int .i64 4), (7, .int .i64 2), (8, .int .u64 (256 * (z0 % 64) + z1)), (9, .int .i64 2), (17, .bool false), (25, .bool false), (35, .bool false), (44, .bool true)]) (A2 := A) rfl (by kernel_rfl) ?_
          refine EO.done rfl ?_
          refine J.cond true (by kernel_rfl) (fun _ => ?_) (fun h => Bool.noConfusion h)
          refine J.skip ?_
          refine thenJ_n ?_
          refine J.seq ?_
          refine J.block ?_
          refine J.region ?_
          refine EO.run 6 [0, 1, 4, 5, 6, 7, 8, 9, 17, 25, 35, 44, 48, 49, 52] (S2 := [(0, .slice (some ⟨b, o, none⟩) ((p ++ z0 :: z1 :: z2 :: z3 :: r3).length) cap), (1, .int .i64 ((k : Nat) : Int)), (4, .int .u64 0), (5, .int .i64 0), (6, .int .i64 4), (7, .int .i64 2), (8, .int .u64 (256 * (z0 % 64) + z1)), (9, .int .i64 2), (17, .bool false), (25, .bool false), (35, .bool false), (44, .bool true), (48, .int .u64 (IntKind.wrap .u64 (256 * (256 * (z0 % 64) + z1)))), (49, .slice (some ⟨b, o, none⟩) ((p ++ z0 :: z1 :: z2 :: z3 :: r3).length) cap), (52, .int .i64 (IntKind.wrap .i64 (((k : Nat) : Int) + 2)))]) (A2 := A) rfl (by kernel_rfl) ?_
          refine EO.cast (S2 := [(0, .slice (some ⟨b, o, none⟩) ((p ++ z0 :: z1 :: z2 :: z3 :: r3).length) cap), (1, .int .i64 ((k : Nat) : Int)), (4, .int .u64 0), (5, .int .i64 0), (6, .int .i64 4), (7, .int .i64 2), (8, .int .u64 (256 * (z0 % 64) + z1)), (9, .int .i64 2), (17, .bool false), (25, .bool false), (35, .bool false), (44, .bool true), (48, .int .u64 (IntKind.wrap .u64 (256 * (256 * (z0 % 64) + z1)))), (49, .slice (some ⟨b, o, none⟩) ((p ++ z0 :: z1 :: z2 :: z3 :: r3).length) cap), (52, .int .i64 ((k + 2 : Nat) : Int))]) (by rw [show (IntKind.wrap .i64 (((k : Nat) : Int) + 2) : Int) = ((k + 2 : Nat) : Int) from by rw [wrap_i64 (by omega) (by omega)]; omega]) ?_
          refine EO.index (v := .slice (some ⟨b, o, none⟩) ((p ++ z0 :: z1 :: z2 :: z3 :: r3).length) cap) (u := .int .i64 (Int.ofNat (k + 2))) (w := .pointer (some ⟨b, o + (k + 2) * 1, none⟩)) rfl rfl rfl (by kernel_rfl) (by kernel_rfl) (by kernel_rfl) (aindexAddr_slice (elem := 5) (size := 1) (by kernel_rfl) (by kernel_rfl) (by simp only [List.length_append, List.length_cons] at *; omega)) ?_
          refine EO.load (ad := ⟨b, o + (k + 2) * 1, none⟩) (w := .int .u8 z2) rfl rfl rfl (by kernel_rfl) (by kernel_rfl) (hr.load (by kernel_rfl) (by rw [List.getElem?_append_right (by omega), show k + 2 - p.length = 2 from by omega]; rfl)) ?_
          refine EO.run 10 [0, 1, 4, 5, 6, 7, 8, 9, 17, 25, 35, 44, 56] (S2 := [(0, .slice (some ⟨b, o, none⟩) ((p ++ z0 :: z1 :: z2 :: z3 :: r3).length) cap), (1, .int .i64 ((k : Nat) : Int)), (4, .int .u64 0), (5, .int .i64 0), (6, .int .i64 4), (7, .int .i64 2), (8, .int .u64 (256 * (z0 % 64) + z1)), (9, .int .i64 2), (17, .bool false), (25, .bool false), (35, .bool false), (44, .bool true), (56, .int .u64 (IntKind.wrap .u64 ((IntKind.wrap .u64 (256 * (256 * (z0 % 64) + z1))) + (IntKind.wrap .u64 z2))))]) (A2 := A) rfl (by kernel_rfl) ?_
          refine EO.cast (S2 := [(0, .slice (some ⟨b, o, none⟩) ((p ++ z0 :: z1 :: z2 :: z3 :: r3).length) cap), (1, .int .i64 ((k : Nat) : Int)), (4, .int .u64 0), (5, .int .i64 0), (6, .int .i64 4), (7, .int .i64 2), (8, .int .u64 (256 * (z0 % 64) + z1)), (9, .int .i64 2), (17, .bool false), (25, .bool false), (35, .bool false), (44, .bool true), (56, .int .u64 (256 * (256 * (z0 % 64) + z1) + z2))]) (by rw [mul_step (x := 256 * (z0 % 64) + z1) (by omega) (by omega) hz2]) ?_
          refine EO.run 11 [0, 1, 4, 5, 6, 7, 8, 9, 17, 25, 35, 44] (S2 := [(0, .slice (some ⟨b, o, none⟩) ((p ++ z0 :: z1 :: z2 :: z3 :: r3).length) cap), (1, .int .i64 ((k : Nat) : Int)), (4, .int .u64 0), (5, .int .i64 0), (6, .int .i64 4), (7, .int .i64 2), (8, .int .u64 (256 * (256 * (z0 % 64) + z1) + z2)), (9, .int .i64 2), (17, .bool false), (25, .bool false), (35, .bool false), (44, .bool true)]) (A2 := A) rfl (by kernel_rfl) ?_
          refine EO.done rfl ?_
          refine blockQ_n ?_
          refine thenJ_n ?_
          refine J.region ?_
          refine EO.run 3 [0, 1, 4, 5, 6, 7, 8, 9, 17, 25, 35, 44] (S2 := [(0, .slice (some ⟨b, o, none⟩) ((p ++ z0 :: z1 :: z2 :: z3 :: r3).length) cap), (1, .int .i64 ((k : Nat) : Int)), (4, .int .u64 0), (5, .int .i64 0), (6, .int .i64 4), (7, .int .i64 2), (8, .int .u64 (256 * (256 * (z0 % 64) + z1) + z2)), (9, .int .i64 3), (17, .bool false), (25, .bool false), (35, .bool false), (44, .bool true)]) (A2 := A) rfl (by kernel_rfl) ?_
          refine EO.done rfl ?_
          refine loopQ_n ?_
          refine JL.step ?_
          refine J.seq ?_
          refine J.sr ?_
          refine EO.run 3 [0, 1, 4, 5, 6, 7, 8, 9, 17, 25, 35, 44] (S2 := [(0, .slice (some ⟨b, o, none⟩) ((p ++ z0 :: z1 :: z2 :: z3 :: r3).length) cap), (1, .int .i64 ((k : Nat) : Int)), (4, .int .u64 0), (5, .int .i64 0), (6, .int .i64 4), (7, .int .i64 2), (8, .int .u64 (256 * (256 * (z0 % 64) + z1) + z2)), (9, .int .i64 3), (17, .bool false), (25, .bool false), (35, .bool false), (44, .bool true)]) (A2 := A) rfl (by kernel_rfl) ?_
          refine EO.done rfl ?_
          refine J.cond true (by kernel_rfl) (fun _ => ?_) (fun h => Bool.noConfusion h)
          refine J.skip ?_
          refine thenJ_n ?_
          refine J.seq ?_
          refine J.block ?_
          refine J.region ?_
          refine EO.run 6 [0, 1, 4, 5, 6, 7, 8, 9, 17, 25, 35, 44, 48, 49, 52] (S2 := [(0, .slice (some ⟨b, o, none⟩) ((p ++ z0 :: z1 :: z2 :: z3 :: r3).length) cap), (1, .int .i64 ((k : Nat) : Int)), (4, .int .u64 0), (5, .int .i64 0), (6, .int .i64 4), (7, .int .i64 2), (8, .int .u64 (256 * (256 * (z0 % 64) + z1) + z2)), (9, .int .i64 3), (17, .bool false), (25, .bool false), (35, .bool false), (44, .bool true), (48, .int .u64 (IntKind.wrap .u64 (256 * (256 * (256 * (z0 % 64) + z1) + z2)))), (49, .slice (some ⟨b, o, none⟩) ((p ++ z0 :: z1 :: z2 :: z3 :: r3).length) cap), (52, .int .i64 (IntKind.wrap .i64 (((k : Nat) : Int) + 3)))]) (A2 := A) rfl (by kernel_rfl) ?_
          refine EO.cast (S2 := [(0, .slice (some ⟨b, o, none⟩) ((p ++ z0 :: z1 :: z2 :: z3 :: r3).length) cap), (1, .int .i64 ((k : Nat) : Int)), (4, .int .u64 0), (5, .int .i64 0), (6, .int .i64 4), (7, .int .i64 2), (8, .int .u64 (256 * (256 * (z0 % 64) + z1) + z2)), (9, .int .i64 3), (17, .bool false), (25, .bool false), (35, .bool false), (44, .bool true), (48, .int .u64 (IntKind.wrap .u64 (256 * (256 * (256 * (z0 % 64) + z1) + z2)))), (49, .slice (some ⟨b, o, none⟩) ((p ++ z0 :: z1 :: z2 :: z3 :: r3).length) cap), (52, .int .i64 ((k + 3 : Nat) : Int))]) (by rw [show (IntKind.wrap .i64 (((k : Nat) : Int) + 3) : Int) = ((k + 3 : Nat) : Int) from by rw [wrap_i64 (by omega) (by omega)]; omega]) ?_
          refine EO.index (v := .slice (some ⟨b, o, none⟩) ((p ++ z0 :: z1 :: z2 :: z3 :: r3).length) cap) (u := .int .i64 (Int.ofNat (k + 3))) (w := .pointer (some ⟨b, o + (k + 3) * 1, none⟩)) rfl rfl rfl (by kernel_rfl) (by kernel_rfl) (by kernel_rfl) (aindexAddr_slice (elem := 5) (size := 1) (by kernel_rfl) (by kernel_rfl) (by simp only [List.length_append, List.length_cons] at *; omega)) ?_
          refine EO.load (ad := ⟨b, o + (k + 3) * 1, none⟩) (w := .int .u8 z3) rfl rfl rfl (by kernel_rfl) (by kernel_rfl) (hr.load (by kernel_rfl) (by rw [List.getElem?_append_right (by omega), show k + 3 - p.length = 3 from by omega]; rfl)) ?_
          refine EO.run 10 [0, 1, 4, 5, 6, 7, 8, 9, 17, 25, 35, 44, 56] (S2 := [(0, .slice (some ⟨b, o, none⟩) ((p ++ z0 :: z1 :: z2 :: z3 :: r3).length) cap), (1, .int .i64 ((k : Nat) : Int)), (4, .int .u64 0), (5, .int .i64 0), (6, .int .i64 4), (7, .int .i64 2), (8, .int .u64 (256 * (256 * (z0 % 64) + z1) + z2)), (9, .int .i64 3), (17, .bool false), (25, .bool false), (35, .bool false), (44, .bool true), (56, .int .u64 (IntKind.wrap .u64 ((IntKind.wrap .u64 (256 * (256 * (256 * (z0 % 64) + z1) + z2))) + (IntKind.wrap .u64 z3))))]) (A2 := A) rfl (by kernel_rfl) ?_
          refine EO.cast (S2 := [(0, .slice (some ⟨b, o, none⟩) ((p ++ z0 :: z1 :: z2 :: z3 :: r3).length) cap), (1, .int .i64 ((k : Nat) : Int)), (4, .int .u64 0), (5, .int .i64 0), (6, .int .i64 4), (7, .int .i64 2), (8, .int .u64 (256 * (256 * (z0 % 64) + z1) + z2)), (9, .int .i64 3), (17, .bool false), (25, .bool false), (35, .bool false), (44, .bool true), (56, .int .u64 (256 * (256 * (256 * (z0 % 64) + z1) + z2) + z3))]) (by rw [mul_step (x := 256 * (256 * (z0 % 64) + z1) + z2) (by omega) (by omega) hz3]) ?_
          refine EO.run 11 [0, 1, 4, 5, 6, 7, 8, 9, 17, 25, 35, 44] (S2 := [(0, .slice (some ⟨b, o, none⟩) ((p ++ z0 :: z1 :: z2 :: z3 :: r3).length) cap), (1, .int .i64 ((k : Nat) : Int)), (4, .int .u64 0), (5, .int .i64 0), (6, .int .i64 4), (7, .int .i64 2), (8, .int .u64 (256 * (256 * (256 * (z0 % 64) + z1) + z2) + z3)), (9, .int .i64 3), (17, .bool false), (25, .bool false), (35, .bool false), (44, .bool true)]) (A2 := A) rfl (by kernel_rfl) ?_
          refine EO.done rfl ?_
          refine blockQ_n ?_
          refine thenJ_n ?_
          refine J.region ?_
          refine EO.run 3 [0, 1, 4, 5, 6, 7, 8, 9, 17, 25, 35, 44] (S2 := [(0, .slice (some ⟨b, o, none⟩) ((p ++ z0 :: z1 :: z2 :: z3 :: r3).length) cap), (1, .int .i64 ((k : Nat) : Int)), (4, .int .u64 0), (5, .int .i64 0), (6, .int .i64 4), (7, .int .i64 2), (8, .int .u64 (256 * (256 * (256 * (z0 % 64) + z1) + z2) + z3)), (9, .int .i64 4), (17, .bool false), (25, .bool false), (35, .bool false), (44, .bool true)]) (A2 := A) rfl (by kernel_rfl) ?_
          refine EO.done rfl ?_
          refine loopQ_n ?_
          refine JL.step ?_
          refine J.seq ?_
          refine J.sr ?_
          refine EO.run 3 [0, 1, 4, 5, 6, 7, 8, 9, 17, 25, 35, 44] (S2 := [(0, .slice (some ⟨b, o, none⟩) ((p ++ z0 :: z1 :: z2 :: z3 :: r3).length) cap), (1, .int .i64 ((k : Nat) : Int)), (4, .int .u64 0), (5, .int .i64 0), (6, .int .i64 4), (7, .int .i64 2), (8, .int .u64 (256 * (256 * (256 * (z0 % 64) + z1) + z2) + z3)), (9, .int .i64 4), (17, .bool false), (25, .bool false), (35, .bool false), (44, .bool false)]) (A2 := A) rfl (by kernel_rfl) ?_
          refine EO.done rfl ?_
          refine J.cond false (by kernel_rfl) (fun h => Bool.noConfusion h) (fun _ => ?_)
          refine J.exit ?_
          refine thenJ_e ?_
          refine loopQ_e ?_
          refine blockQ_hit ?_
          refine thenJ_n ?_
          refine J.sr ?_
          refine EO.run 4 [0, 1, 4, 5, 6, 7, 8, 9, 17, 25, 35, 44, 57, 60] (S2 := [(0, .slice (some ⟨b, o, none⟩) ((p ++ z0 :: z1 :: z2 :: z3 :: r3).length) cap), (1, .int .i64 ((k : Nat) : Int)), (4, .int .u64 0), (5, .int .i64 0), (6, .int .i64 4), (7, .int .i64 2), (8, .int .u64 (256 * (256 * (256 * (z0 % 64) + z1) + z2) + z3)), (9, .int .i64 4), (17, .bool false), (25, .bool false), (35, .bool false), (44, .bool false), (57, .int .u64 (256 * (256 * (256 * (z0 % 64) + z1) + z2) + z3)), (60, .int .i64 (IntKind.wrap .i64 (((k : Nat) : Int) + 4)))]) (A2 := A) rfl (by kernel_rfl) ?_
          refine EO.cast (S2 := [(0, .slice (some ⟨b, o, none⟩) ((p ++ z0 :: z1 :: z2 :: z3 :: r3).length) cap), (1, .int .i64 ((k : Nat) : Int)), (4, .int .u64 0), (5, .int .i64 0), (6, .int .i64 4), (7, .int .i64 2), (8, .int .u64 (256 * (256 * (256 * (z0 % 64) + z1) + z2) + z3)), (9, .int .i64 4), (17, .bool false), (25, .bool false), (35, .bool false), (44, .bool false), (57, .int .u64 (256 * (256 * (256 * (z0 % 64) + z1) + z2) + z3)), (60, .int .i64 ((k + 4 : Nat) : Int))]) (by rw [show (IntKind.wrap .i64 (((k : Nat) : Int) + 4) : Int) = ((k + 4 : Nat) : Int) from by rw [wrap_i64 (by omega) (by omega)]; omega]) ?_
          refine EO.run 6 [0, 1, 4, 5, 6, 7, 8, 9, 17, 25, 35, 44] (S2 := [(0, .slice (some ⟨b, o, none⟩) ((p ++ z0 :: z1 :: z2 :: z3 :: r3).length) cap), (1, .int .i64 ((k : Nat) : Int)), (4, .int .u64 (256 * (256 * (256 * (z0 % 64) + z1) + z2) + z3)), (5, .int .i64 ((k + 4 : Nat) : Int)), (6, .int .i64 4), (7, .int .i64 2), (8, .int .u64 (256 * (256 * (256 * (z0 % 64) + z1) + z2) + z3)), (9, .int .i64 4), (17, .bool false), (25, .bool false), (35, .bool false), (44, .bool false)]) (A2 := A) rfl (by kernel_rfl) ?_
          refine EO.done rfl ?_
          refine J.ret ?_
          refine Ends_r (vs := [.int .u64 (256 * (256 * (256 * (z0 % 64) + z1) + z2) + z3), .int .i64 ((k + 4 : Nat) : Int)]) (by kernel_rfl) ?_
          exact ⟨by unfold refV; rw [refOf_long hpk hu hl]; rfl, rfl⟩
      · have hu : 2 ^ (z0 / 64).toNat = 8 := by rw [hc]; rfl
        by_cases hl : r.length + 1 < 8
        ·
          refine J.fn (fn := Try.f11) hp Try.func11 rfl (Nat.le_of_ble_eq_true rfl) ?_
          refine J.sr ?_
          refine EO.run 2 [0, 1, 4, 5] (S2 := [(0, .slice (some ⟨b, o, none⟩) ((p ++ z0 :: r).length) cap), (1, .int .i64 ((k : Nat) : Int)), (4, .int .u64 0), (5, .int .i64 0)]) (A2 := A) rfl (by kernel_rfl) ?_
          refine EO.done rfl ?_
          refine J.seq ?_
          refine J.sr ?_
          refine EO.run 3 [0, 1, 4, 5, 12] (S2 := [(0, .slice (some ⟨b, o, none⟩) ((p ++ z0 :: r).length) cap), (1, .int .i64 ((k : Nat) : Int)), (4, .int .u64 0), (5, .int .i64 0), (12, .bool (decide (((k : Nat) : Int) < 0)))]) (A2 := A) rfl (by kernel_rfl) ?_
          have d1 : (decide (((k : Nat) : Int) < 0)) = false := decide_eq_false (by omega)
          rw [d1]
          refine EO.run 8 [0, 1, 4, 5, 17] (S2 := [(0, .slice (some ⟨b, o, none⟩) ((p ++ z0 :: r).length) cap), (1, .int .i64 ((k : Nat) : Int)), (4, .int .u64 0), (5, .int .i64 0), (17, .bool (decide (((k : Nat) : Int) ≥ (((p ++ z0 :: r).length : Nat) : Int))))]) (A2 := A) rfl (by kernel_rfl) ?_
          refine EO.done rfl ?_
          have d2 : (decide (((k : Nat) : Int) ≥ (((p ++ z0 :: r).length : Nat) : Int))) = false := decide_eq_false (by simp only [List.length_append, List.length_cons] at *; omega)
          rw [d2]
          refine J.cond false (by kernel_rfl) (fun h => Bool.noConfusion h) (fun _ => ?_)
          refine J.skip ?_
          refine thenJ_n ?_
          refine J.sr ?_
          refine EO.run 1 [0, 1, 4, 5, 6, 17] (S2 := [(0, .slice (some ⟨b, o, none⟩) ((p ++ z0 :: r).length) cap), (1, .int .i64 ((k : Nat) : Int)), (4, .int .u64 0), (5, .int .i64 0), (6, .int .i64 1), (17, .bool false)]) (A2 := A) rfl (by kernel_rfl) ?_
          refine EO.done rfl ?_
          refine J.seq ?_
          refine J.sr ?_
          refine EO.run 1 [0, 1, 4, 5, 6, 7, 17] (S2 := [(0, .slice (some ⟨b, o, none⟩) ((p ++ z0 :: r).length) cap), (1, .int .i64 ((k : Nat) : Int)), (4, .int .u64 0), (5, .int .i64 0), (6, .int .i64 1), (7, .int .i64 0), (17, .bool false)]) (A2 := A) rfl (by kernel_rfl) ?_
          refine EO.done rfl ?_
          refine J.block ?_
          refine J.unroll ?_
          refine JL.step ?_
          refine J.seq ?_
          refine J.sr ?_
          refine EO.run 3 [0, 1, 4, 5, 6, 7, 17, 18, 19, 20] (S2 := [(0, .slice (some ⟨b, o, none⟩) ((p ++ z0 :: r).length) cap), (1, .int .i64 ((k : Nat) : Int)), (4, .int .u64 0), (5, .int .i64 0), (6, .int .i64 1), (7, .int .i64 0), (17, .bool false), (18, .int .i64 0), (19, .slice (some ⟨b, o, none⟩) ((p ++ z0 :: r).length) cap), (20, .int .i64 ((k : Nat) : Int))]) (A2 := A) rfl (by kernel_rfl) ?_
          refine EO.index (v := .slice (some ⟨b, o, none⟩) ((p ++ z0 :: r).length) cap) (u := .int .i64 (Int.ofNat k)) (w := .pointer (some ⟨b, o + (k) * 1, none⟩)) rfl rfl rfl (by kernel_rfl) (by kernel_rfl) (by kernel_rfl) (aindexAddr_slice (elem := 5) (size := 1) (by kernel_rfl) (by kernel_rfl) (by simp only [List.length_append, List.length_cons] at *; omega)) ?_
          refine EO.load (ad := ⟨b, o + (k) * 1, none⟩) (w := .int .u8 z0) rfl rfl rfl (by kernel_rfl) (by kernel_rfl) (hr.load (by kernel_rfl) (by rw [List.getElem?_append_right (by omega), show k - p.length = 0 from by omega]; rfl)) ?_
          refine EO.run 7 [0, 1, 4, 5, 6, 7, 17, 18, 24] (S2 := [(0, .slice (some ⟨b, o, none⟩) ((p ++ z0 :: r).length) cap), (1, .int .i64 ((k : Nat) : Int)), (4, .int .u64 0), (5, .int .i64 0), (6, .int .i64 1), (7, .int .i64 0), (17, .bool false), (18, .int .i64 0), (24, .int .i64 (IntKind.wrap .i64 (IntKind.wrap .u8 (Int.tdiv z0 64))))]) (A2 := A) rfl (by kernel_rfl) ?_
          refine EO.cast (S2 := [(0, .slice (some ⟨b, o, none⟩) ((p ++ z0 :: r).length) cap), (1, .int .i64 ((k : Nat) : Int)), (4, .int .u64 0), (5, .int .i64 0), (6, .int .i64 1), (7, .int .i64 0), (17, .bool false), (18, .int .i64 0), (24, .int .i64 3)]) (by rw [quo64 hz0, hc]) ?_
          refine EO.run 8 [0, 1, 4, 5, 6, 7, 17, 25] (S2 := [(0, .slice (some ⟨b, o, none⟩) ((p ++ z0 :: r).length) cap), (1, .int .i64 ((k : Nat) : Int)), (4, .int .u64 0), (5, .int .i64 0), (6, .int .i64 1), (7, .int .i64 0), (17, .bool false), (25, .bool true)]) (A2 := A) rfl (by kernel_rfl) ?_
          refine EO.done rfl ?_
          refine J.cond true (by kernel_rfl) (fun _ => ?_) (fun h => Bool.noConfusion h)
          refine J.skip ?_
          refine thenJ_n ?_
          refine J.seq ?_
          refine J.block ?_
          refine J.region ?_
          refine EO.run 3 [0, 1, 4, 5, 6, 7, 17, 25] (S2 := [(0, .slice (some ⟨b, o, none⟩) ((p ++ z0 :: r).length) cap), (1, .int .i64 ((k : Nat) : Int)), (4, .int .u64 0), (5, .int .i64 0), (6, .int .i64 2), (7, .int .i64 0), (17, .bool false), (25, .bool true)]) (A2 := A) rfl (by kernel_rfl) ?_
          refine EO.done rfl ?_
          refine blockQ_n ?_
          refine thenJ_n ?_
          refine J.region ?_
          refine EO.run 3 [0, 1, 4, 5, 6, 7, 17, 25] (S2 := [(0, .slice (some ⟨b, o, none⟩) ((p ++ z0 :: r).length) cap), (1, .int .i64 ((k : Nat) : Int)), (4, .int .u64 0), (5, .int .i64 0), (6, .int .i64 2), (7, .int .i64 1), (17, .bool false), (25, .bool true)]) (A2 := A) rfl (by kernel_rfl) ?_
          refine EO.done rfl ?_
          refine loopQ_n ?_
          refine JL.step ?_
          refine J.seq ?_
          refine J.sr ?_
          refine EO.run 3 [0, 1, 4, 5, 6, 7, 17, 18, 19, 20, 25] (S2 := [(0, .slice (some ⟨b, o, none⟩) ((p ++ z0 :: r).length) cap), (1, .int .i64 ((k : Nat) : Int)), (4, .int .u64 0), (5, .int .i64 0), (6, .int .i64 2), (7, .int .i64 1), (17, .bool false), (18, .int .i64 1), (19, .slice (some ⟨b, o, none⟩) ((p ++ z0 :: r).length) cap), (20, .int .i64 ((k : Nat) : Int)), (25, .bool true)]) (A2 := A) rfl (by kernel_rfl) ?_
          refine EO.index (v := .slice (some ⟨b, o, none⟩) ((p ++ z0 :: r).length) cap) (u := .int .i64 (Int.ofNat k)) (w := .pointer (some ⟨b, o + (k) * 1, none⟩)) rfl rfl rfl (by kernel_rfl) (by kernel_rfl) (by kernel_rfl) (aindexAddr_slice (elem := 5) (size := 1) (by kernel_rfl) (by kernel_rfl) (by simp only [List.length_append, List.length_cons] at *; omega)) ?_
          refine EO.load (ad := ⟨b, o + (k) * 1, none⟩) (w := .int .u8 z0) rfl rfl rfl (by kernel_rfl) (by kernel_rfl) (hr.load (by kernel_rfl) (by rw [List.getElem?_append_right (by omega), show k - p.length = 0 from by omega]; rfl)) ?_
          refine EO.run 7 [0, 1, 4, 5, 6, 7, 17, 18, 24, 25] (S2 := [(0, .slice (some ⟨b, o, none⟩) ((p ++ z0 :: r).length) cap), (1, .int .i64 ((k : Nat) : Int)), (4, .int .u64 0), (5, .int .i64 0), (6, .int .i64 2), (7, .int .i64 1), (17, .bool false), (18, .int .i64 1), (24, .int .i64 (IntKind.wrap .i64 (IntKind.wrap .u8 (Int.tdiv z0 64)))), (25, .bool true)]) (A2 := A) rfl (by kernel_rfl) ?_
          refine EO.cast (S2 := [(0, .slice (some ⟨b, o, none⟩) ((p ++ z0 :: r).length) cap), (1, .int .i64 ((k : Nat) : Int)), (4, .int .u64 0), (5, .int .i64 0), (6, .int .i64 2), (7, .int .i64 1), (17, .bool false), (18, .int .i64 1), (24, .int .i64 3), (25, .bool true)]) (by rw [quo64 hz0, hc]) ?_
          refine EO.run 8 [0, 1, 4, 5, 6, 7, 17, 25] (S2 := [(0, .slice (some ⟨b, o, none⟩) ((p ++ z0 :: r).length) cap), (1, .int .i64 ((k : Nat) : Int)), (4, .int .u64 0), (5, .int .i64 0), (6, .int .i64 2), (7, .int .i64 1), (17, .bool false), (25, .bool true)]) (A2 := A) rfl (by kernel_rfl) ?_
          refine EO.done rfl ?_
          refine J.cond true (by kernel_rfl) (fun _ => ?_) (fun h => Bool.noConfusion h)
          refine J.skip ?_
          refine thenJ_n ?_
          refine J.seq ?_
          refine J.block ?_
          refine J.region ?_
          refine EO.run 3 [0, 1, 4, 5, 6, 7, 17, 25] (S2 := [(0, .slice (some ⟨b, o, none⟩) ((p ++ z0 :: r).length) cap), (1, .int .i64 ((k : Nat) : Int)), (4, .int .u64 0), (5, .int .i64 0), (6, .int .i64 4), (7, .int .i64 1), (17, .bool false), (25, .bool true)]) (A2 := A) rfl (by kernel_rfl) ?_
          refine EO.done rfl ?_
          refine blockQ_n ?_
          refine thenJ_n ?_
          refine J.region ?_
          refine EO.run 3 [0, 1, 4, 5, 6, 7, 17, 25] (S2 := [(0, .slice (some ⟨b, o, none⟩) ((p ++ z0 :: r).length) cap), (1, .int .i64 ((k : Nat) : Int)), (4, .int .u64 0), (5, .int .i64 0), (6, .int .i64 4), (7, .int .i64 2), (17, .bool false), (25, .bool true)]) (A2 := A) rfl (by kernel_rfl) ?_
          refine EO.done rfl ?_
          refine loopQ_n ?_
          refine JL.step ?_
          refine J.seq ?_
          refine J.sr ?_
          refine EO.run 3 [0, 1, 4, 5, 6, 7, 17, 18, 19, 20, 25] (S2 := [(0, .slice (some ⟨b, o, none⟩) ((p ++ z0 :: r).length) cap), (1, .int .i64 ((k : Nat) : Int)), (4, .int .u64 0), (5, .int .i64 0), (6, .int .i64 4), (7, .int .i64 2), (17, .bool false), (18, .int .i64 2), (19, .slice (some ⟨b, o, none⟩) ((p ++ z0 :: r).length) cap), (20, .int .i64 ((k : Nat) : Int)), (25, .bool true)]) (A2 := A) rfl (by kernel_rfl) ?_
          refine EO.index (v := .slice (some ⟨b, o, none⟩) ((p ++ z0 :: r).length) cap) (u := .int .i64 (Int.ofNat k)) (w := .pointer (some ⟨b, o + (k) * 1, none⟩)) rfl rfl rfl (by kernel_rfl) (by kernel_rfl) (by kernel_rfl) (aindexAddr_slice (elem := 5) (size := 1) (by kernel_rfl) (by kernel_rfl) (by simp only [List.length_append, List.length_cons] at *; omega)) ?_
          refine EO.load (ad := ⟨b, o + (k) * 1, none⟩) (w := .int .u8 z0) rfl rfl rfl (by kernel_rfl) (by kernel_rfl) (hr.load (by kernel_rfl) (by rw [List.getElem?_append_right (by omega), show k - p.length = 0 from by omega]; rfl)) ?_
          refine EO.run 7 [0, 1, 4, 5, 6, 7, 17, 18, 24, 25] (S2 := [(0, .slice (some ⟨b, o, none⟩) ((p ++ z0 :: r).length) cap), (1, .int .i64 ((k : Nat) : Int)), (4, .int .u64 0), (5, .int .i64 0), (6, .int .i64 4), (7, .int .i64 2), (17, .bool false), (18, .int .i64 2), (24, .int .i64 (IntKind.wrap .i64 (IntKind.wrap .u8 (Int.tdiv z0 64)))), (25, .bool true)]) (A2 := A) rfl (by kernel_rfl) ?_
          refine EO.cast (S2 := [(0, .slice (some ⟨b, o, none⟩) ((p ++ z0 :: r).length) cap), (1, .int .i64 ((k : Nat) : Int)), (4, .int .u64 0), (5, .int .i64 0), (6, .int .i64 4), (7, .int .i64 2), (17, .bool false), (18, .int .i64 2), (24, .int .i64 3), (25, .bool true)]) (by rw [quo64 hz0, hc]) ?_
          refine EO.run 8 [0, 1, 4, 5, 6, 7, 17, 25] (S2 := [(0, .slice (some ⟨b, o, none⟩) ((p ++ z0 :: r).length) cap), (1, .int .i64 ((k : Nat) : Int)), (4, .int .u64 0), (5, .int .i64 0), (6, .int .i64 4), (7, .int .i64 2), (17, .bool false), (25, .bool true)]) (A2 := A) rfl (by kernel_rfl) ?_
          refine EO.done rfl ?_
          refine J.cond true (by kernel_rfl) (fun _ => ?_) (fun h => Bool.noConfusion h)
          refine J.skip ?_
          refine thenJ_n ?_
          refine J.seq ?_
          refine J.block ?_
          refine J.region ?_
          refine EO.run 3 [0, 1, 4, 5, 6, 7, 17, 25] (S2 := [(0, .slice (some ⟨b, o, none⟩) ((p ++ z0 :: r).length) cap), (1, .int .i64 ((k : Nat) : Int)), (4, .int .u64 0), (5, .int .i64 0), (6, .int .i64 8), (7, .int .i64 2), (17, .bool false), (25, .bool true)]) (A2 := A) rfl (by kernel_rfl) ?_
          refine EO.done rfl ?_
          refine blockQ_n ?_
          refine thenJ_n ?_
          refine J.region ?_
          refine EO.run 3 [0, 1, 4, 5, 6, 7, 17, 25] (S2 := [(0, .slice (some ⟨b, o, none⟩) ((p ++ z0 :: r).length) cap), (1, .int .i64 ((k : Nat) : Int)), (4, .int .u64 0), (5, .int .i64 0), (6, .int .i64 8), (7, .int .i64 3), (17, .bool false), (25, .bool true)]) (A2 := A) rfl (by kernel_rfl) ?_
          refine EO.done rfl ?_
          refine loopQ_n ?_
          refine JL.step ?_
          refine J.seq ?_
          refine J.sr ?_
          refine EO.run 3 [0, 1, 4, 5, 6, 7, 17, 18, 19, 20, 25] (S2 := [(0, .slice (some ⟨b, o, none⟩) ((p ++ z0 :: r).length) cap), (1, .int .i64 ((k : Nat) : Int)), (4, .int .u64 0), (5, .int .i64 0), (6, .int .i64 8), (7, .int .i64 3), (17, .bool false), (18, .int .i64 3), (19, .slice (some ⟨b, o, none⟩) ((p ++ z0 :: r).length) cap), (20, .int .i64 ((k : Nat) : Int)), (25, .bool true)]) (A2 := A) rfl (by kernel_rfl) ?_
          refine EO.index (v := .slice (some ⟨b, o, none⟩) ((p ++ z0 :: r).length) cap) (u := .int .i64 (Int.ofNat k)) (w := .pointer (some ⟨b, o + (k) * 1, none⟩)) rfl rfl rfl (by kernel_rfl) (by kernel_rfl) (by kernel_rfl) (aindexAddr_slice (elem := 5) (size := 1) (by kernel_rfl) (by kernel_rfl) (by simp only [List.length_append, List.length_cons] at *; omega)) ?_
          refine EO.load (ad := ⟨b, o + (k) * 1, none⟩) (w := .int .u8 z0) rfl rfl rfl (by kernel_rfl) (by kernel_rfl) (hr.load (by kernel_rfl) (by rw [List.getElem?_append_right (by omega), show k - p.length = 0 from by omega]; rfl)) ?_
          refine EO.run 7 [0, 1, 4, 5, 6, 7, 17, 18, 24, 25] (S2 := [(0, .slice (some ⟨b, o, none⟩) ((p ++ z0 :: r).length) cap), (1, .int .i64 ((k : Nat) : Int)), (4, .int .u64 0), (5, .int .i64 0), (6, .int .i64 8), (7, .int .i64 3), (17, .bool false), (18, .int .i64 3), (24, .int .i64 (IntKind.wrap .i64 (IntKind.wrap .u8 (Int.tdiv z0 64)))), (25, .bool true)]) (A2 := A) rfl (by kernel_rfl) ?_
          refine EO.cast (S2 := [(0, .slice (some ⟨b, o, none⟩) ((p ++ z0 :: r).length) cap), (1, .int .i64 ((k : Nat) : Int)), (4, .int .u64 0), (5, .int .i64 0), (6, .int .i64 8), (7, .int .i64 3), (17, .bool false), (18, .int .i64 3), (24, .int .i64 3), (25, .bool true)]) (by rw [quo64 hz0, hc]) ?_
          refine EO.run 8 [0, 1, 4, 5, 6, 7, 17, 25] (S2 := [(0, .slice (some ⟨b, o, none⟩) ((p ++ z0 :: r).length) cap), (1, .int .i64 ((k : Nat) : Int)), (4, .int .u64 0), (5, .int .i64 0), (6, .int .i64 8), (7, .int .i64 3), (17, .bool false), (25, .bool false)]) (A2 := A) rfl (by kernel_rfl) ?_
          refine EO.done rfl ?_
          refine J.cond false (by kernel_rfl) (fun h => Bool.noConfusion h) (fun _ => ?_)
          refine J.exit ?_
          refine thenJ_e ?_
          refine loopQ_e ?_
          refine blockQ_hit ?_
          refine thenJ_n ?_
          refine J.seq ?_
          refine J.sr ?_
          refine EO.run 6 [0, 1, 4, 5, 6, 7, 17, 25, 35] (S2 := [(0, .slice (some ⟨b, o, none⟩) ((p ++ z0 :: r).length) cap), (1, .int .i64 ((k : Nat) : Int)), (4, .int .u64 0), (5, .int .i64 0), (6, .int .i64 8), (7, .int .i64 3), (17, .bool false), (25, .bool false), (35, .bool (decide ((IntKind.wrap .i64 ((((p ++ z0 :: r).length : Nat) : Int) - ((k : Nat) : Int))) < 8)))]) (A2 := A) rfl (by kernel_rfl) ?_
          refine EO.done rfl ?_
          have d3 : (decide ((IntKind.wrap .i64 ((((p ++ z0 :: r).length : Nat) : Int) - ((k : Nat) : Int))) < 8)) = true := decide_eq_true (by rw [wrap_i64 (by simp only [List.length_append, List.length_cons] at *; omega) (by simp only [List.length_append, List.length_cons] at *; omega)]; simp only [List.length_append, List.length_cons] at *; omega)
          rw [d3]
          refine J.cond true (by kernel_rfl) (fun _ => ?_) (fun h => Bool.noConfusion h)
          refine J.sr ?_
          refine EO.run 2 [0, 1, 4, 5, 6, 7, 17, 25, 35] (S2 := [(0, .slice (some ⟨b, o, none⟩) ((p ++ z0 :: r).length) cap), (1, .int .i64 ((k : Nat) : Int)), (4, .int .u64 0), (5, .int .i64 (-1)), (6, .int .i64 8), (7, .int .i64 3), (17, .bool false), (25, .bool false), (35, .bool true)]) (A2 := A) rfl (by kernel_rfl) ?_
          refine EO.done rfl ?_
          refine J.ret ?_
          refine thenJ_r ?_
          refine Ends_r (vs := [.int .u64 0, .int .i64 (-1)]) (by kernel_rfl) ?_
          exact ⟨by unfold refV; rw [refOf_short hpk hu hl]; rfl, rfl⟩
        ·
          obtain ⟨z1, r1, rfl⟩ := exists_cons (r := r) (by simp at hl; omega)
          obtain ⟨z2, r2, rfl⟩ := exists_cons (r := r1) (by simp at hl; omega)
          obtain ⟨z3, r3, rfl⟩ := exists_cons (r := r2) (by simp at hl; omega)
          obtain ⟨z4, r4, rfl⟩ := exists_cons (r := r3) (by simp at hl; omega)
          obtain ⟨z5, r5, rfl⟩ := exists_cons (r := r4) (by simp at hl; omega)
          obtain ⟨z6, r6, rfl⟩ := exists_cons (r := r5) (by simp at hl; omega)
          obtain ⟨z7, r7, rfl⟩ := exists_cons (r := r6) (by simp at hl; omega)
          have hz1 := hr.byte z1 (by simp)
          have hz2 := hr.byte z2 (by simp)
          have hz3 := hr.byte z3 (by simp)
          have hz4 := hr.byte z4 (by simp)
          have hz5 := hr.byte z5 (by simp)
          have hz6 := hr.byte z6 (by simp)
          have hz7 := hr.byte z7 (by simp)
          refine J.fn (fn := Try.f11) hp Try.func11 rfl (Nat.le_of_ble_eq_true rfl) ?_
          refine J.sr ?_
          refine EO.run 2 [0, 1, 4, 5] (S2 := [(0, .slice (some ⟨b, o, none⟩) ((p ++ z0 :: z1 :: z2 :: z3 :: z4 :: z5 :: z6 :: z7 :: r7).length) cap), (1, .int .i64 ((k : Nat) : Int)), (4, .int .u64 0), (5, .int .i64 0)]) (A2 := A) rfl (by kernel_rfl) ?_
          refine EO.done rfl ?_
          refine J.seq ?_
          refine J.sr ?_
          refine EO.run 3 [0, 1, 4, 5, 12] (S2 := [(0, .slice (some ⟨b, o, none⟩) ((p ++ z0 :: z1 :: z2 :: z3 :: z4 :: z5 :: z6 :: z7 :: r7).length) cap), (1, .int .i64 ((k : Nat) : Int)), (4, .int .u64 0), (5, .int .i64 0), (12, .bool (decide (((k : Nat) : Int) < 0)))]) (A2 := A) rfl (by kernel_rfl) ?_
          have d1 : (decide (((k : Nat) : Int) < 0)) = false := decide_eq_false (by omega)
          rw [d1]
          refine EO.run 8 [0, 1, 4, 5, 17] (S2 := [(0, .slice (some ⟨b, o, none⟩) ((p ++ z0 :: z1 :: z2 :: z3 :: z4 :: z5 :: z6 :: z7 :: r7).length) cap), (1, .int .i64 ((k : Nat) : Int)), (4, .int .u64 0), (5, .int .i64 0), (17, .bool (decide (((k : Nat) : Int) ≥ (((p ++ z0 :: z1 :: z2 :: z3 :: z4 :: z5 :: z6 :: z7 :: r7).length : Nat) : Int))))]) (A2 := A) rfl (by kernel_rfl) ?_
          refine EO.done rfl ?_
          have d2 : (decide (((k : Nat) : Int) ≥ (((p ++ z0 :: z1 :: z2 :: z3 :: z4 :: z5 :: z6 :: z7 :: r7).length : Nat) : Int))) = false := decide_eq_false (by simp only [List.length_append, List.length_cons] at *; omega)
          rw [d2]
          refine J.cond false (by kernel_rfl) (fun h => Bool.noConfusion h) (fun _ => ?_)
          refine J.skip ?_
          refine thenJ_n ?_
          refine J.sr ?_
          refine EO.run 1 [0, 1, 4, 5, 6, 17] (S2 := [(0, .slice (some ⟨b, o, none⟩) ((p ++ z0 :: z1 :: z2 :: z3 :: z4 :: z5 :: z6 :: z7 :: r7).length) cap), (1, .int .i64 ((k : Nat) : Int)), (4, .int .u64 0), (5, .int .i64 0), (6, .int .i64 1), (17, .bool false)]) (A2 := A) rfl (by kernel_rfl) ?_
          refine EO.done rfl ?_
          refine J.seq ?_
          refine J.sr ?_
          refine EO.run 1 [0, 1, 4, 5, 6, 7, 17] (S2 := [(0, .slice (some ⟨b, o, none⟩) ((p ++ z0 :: z1 :: z2 :: z3 :: z4 :: z5 :: z6 :: z7 :: r7).length) cap), (1, .int .i64 ((k : Nat) : Int)), (4, .int .u64 0), (5, .int .i64 0), (6, .int .i64 1), (7, .int .i64 0), (17, .bool false)]) (A2 := A) rfl (by kernel_rfl) ?_
          refine EO.done rfl ?_
          refine J.block ?_
          refine J.unroll ?_
          refine JL.step ?_
          refine J.seq ?_
          refine J.sr ?_
          refine EO.run 3 [0, 1, 4, 5, 6, 7, 17, 18, 19, 20] (S2 := [(0, .slice (some ⟨b, o, none⟩) ((p ++ z0 :: z1 :: z2 :: z3 :: z4 :: z5 :: z6 :: z7 :: r7).length) cap), (1, .int .i64 ((k : Nat) : Int)), (4, .int .u64 0), (5, .int .i64 0), (6, .int .i64 1), (7, .int .i64 0), (17, .bool false), (18, .int .i64 0), (19, .slice (some ⟨b, o, none⟩) ((p ++ z0 :: z1 :: z2 :: z3 :: z4 :: z5 :: z6 :: z7 :: r7).length) cap), (20, .int .i64 ((k : Nat) : Int))]) (A2 := A) rfl (by kernel_rfl) ?_
          refine EO.index (v := .slice (some ⟨b, o, none⟩) ((p ++ z0 :: z1 :: z2 :: z3 :: z4 :: z5 :: z6 :: z7 :: r7).length) cap) (u := .int .i64 (Int.ofNat k)) (w := .pointer (some ⟨b, o + (k) * 1, none⟩)) rfl rfl rfl (by kernel_rfl) (by kernel_rfl) (by kernel_rfl) (aindexAddr_slice (elem := 5) (size := 1) (by kernel_rfl) (by kernel_rfl) (by simp only [List.length_append, List.length_cons] at *; omega)) ?_
          refine EO.load (ad := ⟨b, o + (k) * 1, none⟩) (w := .int .u8 z0) rfl rfl rfl (by kernel_rfl) (by kernel_rfl) (hr.load (by kernel_rfl) (by rw [List.getElem?_append_right (by omega), show k - p.length = 0 from by omega]; rfl)) ?_
          refine EO.run 7 [0, 1, 4, 5, 6, 7, 17, 18, 24] (S2 := [(0, .slice (some ⟨b, o, none⟩) ((p ++ z0 :: z1 :: z2 :: z3 :: z4 :: z5 :: z6 :: z7 :: r7).length) cap), (1, .int .i64 ((k : Nat) : Int)), (4, .int .u64 0), (5, .int .i64 0), (6, .int .i64 1), (7, .int .i64 0), (17, .bool false), (18, .int .i64 0), (24, .int .i64 (IntKind.wrap .i64 (IntKind.wrap .u8 (Int.tdiv z0 64))))]) (A2 := A) rfl (by kernel_rfl) ?_
          refine EO.cast (S2 := [(0, .slice (some ⟨b, o, none⟩) ((p ++ z0 :: z1 :: z2 :: z3 :: z4 :: z5 :: z6 :: z7 :: r7).length) cap), (1, .int .i64 ((k : Nat) : Int)), (4, .int .u64 0), (5, .int .i64 0), (6, .int .i64 1), (7, .int .i64 0), (17, .bool false), (18, .int .i64 0), (24, .int .i64 3)]) (by rw [quo64 hz0, hc]) ?_
          refine EO.run 8 [0, 1, 4, 5, 6, 7, 17, 25] (S2 := [(0, .slice (some ⟨b, o, none⟩) ((p ++ z0 :: z1 :: z2 :: z3 :: z4 :: z5 :: z6 :: z7 :: r7).length) cap), (1, .int .i64 ((k : Nat) : Int)), (4, .int .u64 0), (5, .int .i64 0), (6, .int .i64 1), (7, .int .i64 0), (17, .bool false), (25, .bool true)]) (A2 := A) rfl (by kernel_rfl) ?_
          refine EO.done rfl ?_
          refine J.cond true (by kernel_rfl) (fun _ => ?_) (fun h => Bool.noConfusion h)
          refine J.skip ?_
          refine thenJ_n ?_
          refine J.seq ?_
          refine J.block ?_
          refine J.region ?_
          refine EO.run 3 [0, 1, 4, 5, 6, 7, 17, 25] (S2 := [(0, .slice (some ⟨b, o, none⟩) ((p ++ z0 :: z1 :: z2 :: z3 :: z4 :: z5 :: z6 :: z7 :: r7).length) cap), (1, .int .i64 ((k : Nat) : Int)), (4, .int .u64 0), (5, .int .i64 0), (6, .int .i64 2), (7, .int .i64 0), (17, .bool false), (25, .bool true)]) (A2 := A) rfl (by kernel_rfl) ?_
          refine EO.done rfl ?_
          refine blockQ_n ?_
          refine thenJ_n ?_
          refine J.region ?_
          refine EO.run 3 [0, 1, 4, 5, 6, 7, 17, 25] (S2 := [(0, .slice (some ⟨b, o, none⟩) ((p ++ z0 :: z1 :: z2 :: z3 :: z4 :: z5 :: z6 :: z7 :: r7).length) cap), (1, .int .i64 ((k : Nat) : Int)), (4, .int .u64 0), (5, .int .i64 0), (6, .int .i64 2), (7, .int .i64 1), (17, .bool false), (25, .bool true)]) (A2 := A) rfl (by kernel_rfl) ?_
          refine EO.done rfl ?_
          refine loopQ_n ?_
          refine JL.step ?_
          refine J.seq ?_
          refine J.sr ?_
          refine EO.run 3 [0, 1, 4, 5, 6, 7, 17, 18, 19, 20, 25] (S2 := [(0, .slice (some ⟨b, o, none⟩) ((p ++ z0 :: z1 :: z2 :: z3 :: z4 :: z5 :: z6 :: z7 :: r7).length) cap), (1, .int .i64 ((k : Nat) : Int)), (4, .int .u64 0), (5, .int .i64 0), (6, .int .i64 2), (7, .int .i64 1), (17, .bool false), (18, .int .i64 1), (19, .slice (some ⟨b, o, none⟩) ((p ++ z0 :: z1 :: z2 :: z3 :: z4 :: z5 :: z6 :: z7 :: r7).length) cap), (20, .int .i64 ((k : Nat) : Int)), (25, .bool true)]) (A2 := A) rfl (by kernel_rfl) ?_
          refine EO.index (v := .slice (some ⟨b, o, none⟩) ((p ++ z0 :: z1 :: z2 :: z3 :: z4 :: z5 :: z6 :: z7 :: r7).length) cap) (u := .int .i64 (Int.ofNat k)) (w := .pointer (some ⟨b, o + (k) * 1, none⟩)) rfl rfl rfl (by kernel_rfl) (by kernel_rfl) (by kernel_rfl) (aindexAddr_slice (elem := 5) (size := 1) (by kernel_rfl) (by kernel_rfl) (by simp only [List.length_append, List.length_cons] at *; omega)) ?_
          refine EO.load (ad := ⟨b, o + (k) * 1, none⟩) (w := .int .u8 z0) rfl rfl rfl (by kernel_rfl) (by kernel_rfl) (hr.load (by kernel_rfl) (by rw [List.getElem?_append_right (by omega), show k - p.length = 0 from by omega]; rfl)) ?_
          refine EO.run 7 [0, 1, 4, 5, 6, 7, 17, 18, 24, 25] (S2 := [(0, .slice (some ⟨b, o, none⟩) ((p ++ z0 :: z1 :: z2 :: z3 :: z4 :: z5 :: z6 :: z7 :: r7).length) cap), (1, .int .i64 ((k : Nat) : Int)), (4, .int .u64 0), (5, .int .i64 0), (6, .int .i64 2), (7, .int .i64 1), (17, .bool false), (18, .int .i64 1), (24, .int .i64 (IntKind.wrap .i64 (IntKind.wrap .u8 (Int.tdiv z0 64)))), (25, .bool true)]) (A2 := A) rfl (by kernel_rfl) ?_
          refine EO.cast (S2 := [(0, .slice (some ⟨b, o, none⟩) ((p ++ z0 :: z1 :: z2 :: z3 :: z4 :: z5 :: z6 :: z7 :: r7).length) cap), (1, .int .i64 ((k : Nat) : Int)), (4, .int .u64 0), (5, .int .i64 0), (6, .int .i64 2), (7, .int .i64 1), (17, .bool false), (18, .int .i64 1), (24, .int .i64 3), (25, .bool true)]) (by rw [quo64 hz0, hc]) ?_
          refine EO.run 8 [0, 1, 4, 5, 6, 7, 17, 25] (S2 := [(0, .slice (some ⟨b, o, none⟩) ((p ++ z0 :: z1 :: z2 :: z3 :: z4 :: z5 :: z6 :: z7 :: r7).length) cap), (1, .int .i64 ((k : Nat) : Int)), (4, .int .u64 0), (5, .int .i64 0), (6, .int .i64 2), (7, .int .i64 1), (17, .bool false), (25, .bool true)]) (A2 := A) rfl (by kernel_rfl) ?_
          refine EO.done rfl ?_
          refine J.cond true (by kernel_rfl) (fun _ => ?_) (fun h => Bool.noConfusion h)
          refine J.skip ?_
          refine thenJ_n ?_
          refine J.seq ?_
          refine J.block ?_
          refine J.region ?_
          refine EO.run 3 [0, 1, 4, 5, 6, 7, 17, 25] (S2 := [(0, .slice (some ⟨b, o, none⟩) ((p ++ z0 :: z1 :: z2 :: z3 :: z4 :: z5 :: z6 :: z7 :: r7).length) cap), (1, .int .i64 ((k : Nat) : Int)), (4, .int .u64 0), (5, .int .i64 0), (6, .int .i64 4), (7, .int .i64 1), (17, .bool false), (25, .bool true)]) (A2 := A) rfl (by kernel_rfl) ?_
          refine EO.done rfl ?_
          refine blockQ_n ?_
          refine thenJ_n ?_
          refine J.region ?_
          refine EO.run 3 [0, 1, 4, 5, 6, 7, 17, 25] (S2 := [(0, .slice (some ⟨b, o, none⟩) ((p ++ z0 :: z1 :: z2 :: z3 :: z4 :: z5 :: z6 :: z7 :: r7).length) cap), (1, .int .i64 ((k : Nat) : Int)), (4, .int .u64 0), (5, .int .i64 0), (6, .int .i64 4), (7, .int .i64 2), (17, .bool false), (25, .bool true)]) (A2 := A) rfl (by kernel_rfl) ?_
          refine EO.done rfl ?_
          refine loopQ_n ?_
          refine JL.step ?_
          refine J.seq ?_
          refine J.sr ?_
          refine EO.run 3 [0, 1, 4, 5, 6, 7, 17, 18, 19, 20, 25] (S2 := [(0, .slice (some ⟨b, o, none⟩) ((p ++ z0 :: z1 :: z2 :: z3 :: z4 :: z5 :: z6 :: z7 :: r7).length) cap), (1, .int .i64 ((k : Nat) : Int)), (4, .int .u64 0), (5, .int .i64 0), (6, .int .i64 4), (7, .int .i64 2), (17, .bool false), (18, .int .i64 2), (19, .slice (some ⟨b, o, none⟩) ((p ++ z0 :: z1 :: z2 :: z3 :: z4 :: z5 :: z6 :: z7 :: r7).length) cap), (20, .int .i64 ((k : Nat) : Int)), (25, .bool true)]) (A2 := A) rfl (by kernel_rfl) ?_
          refine EO.index (v := .slice (some ⟨b, o, none⟩) ((p ++ z0 :: z1 :: z2 :: z3 :: z4 :: z5 :: z6 :: z7 :: r7).length) cap) (u := .int .i64 (Int.ofNat k)) (w := .pointer (some ⟨b, o + (k) * 1, none⟩)) rfl rfl rfl (by kernel_rfl) (by kernel_rfl) (by kernel_rfl) (aindexAddr_slice (elem := 5) (size := 1) (by kernel_rfl) (by kernel_rfl) (by simp only [List.length_append, List.length_cons] at *; omega)) ?_
          refine EO.load (ad := ⟨b, o + (k) * 1, none⟩) (w := .int .u8 z0) rfl rfl rfl (by kernel_rfl) (by kernel_rfl) (hr.load (by kernel_rfl) (by rw [List.getElem?_append_right (by omega), show k - p.length = 0 from by omega]; rfl)) ?_
          refine EO.run 7 [0, 1, 4, 5, 6, 7, 17, 18, 24, 25] (S2 := [(0, .slice (some ⟨b, o, none⟩) ((p ++ z0 :: z1 :: z2 :: z3 :: z4 :: z5 :: z6 :: z7 :: r7).length) cap), (1, .int .i64 ((k : Nat) : Int)), (4, .int .u64 0), (5, .int .i64 0), (6, .int .i64 4), (7, .int .i64 2), (17, .bool false), (18, .int .i64 2), (24, .int .i64 (IntKind.wrap .i64 (IntKind.wrap .u8 (Int.tdiv z0 64)))), (25, .bool true)]) (A2 := A) rfl (by kernel_rfl) ?_
          refine EO.cast (S2 := [(0, .slice (some ⟨b, o, none⟩) ((p ++ z0 :: z1 :: z2 :: z3 :: z4 :: z5 :: z6 :: z7 :: r7).length) cap), (1, .int .i64 ((k : Nat) : Int)), (4, .int .u64 0), (5, .int .i64 0), (6, .int .i64 4), (7, .int .i64 2), (17, .bool false), (18, .int .i64 2), (24, .int .i64 3), (25, .bool true)]) (by rw [quo64 hz0, hc]) ?_
          refine EO.run 8 [0, 1, 4, 5, 6, 7, 17, 25] (S2 := [(0, .slice (some ⟨b, o, none⟩) ((p ++ z0 :: z1 :: z2 :: z3 :: z4 :: z5 :: z6 :: z7 :: r7).length) cap), (1, .int .i64 ((k : Nat) : Int)), (4, .int .u64 0), (5, .int .i64 0), (6, .int .i64 4), (7, .int .i64 2), (17, .bool false), (25, .bool true)]) (A2 := A) rfl (by kernel_rfl) ?_
          refine EO.done rfl ?_
          refine J.cond true (by kernel_rfl) (fun _ => ?_) (fun h => Bool.noConfusion h)
          refine J.skip ?_
          refine thenJ_n ?_
          refine J.seq ?_
          refine J.block ?_
          refine J.region ?_
          refine EO.run 3 [0, 1, 4, 5, 6, 7, 17, 25] (S2 := [(0, .slice (some ⟨b, o, none⟩) ((p ++ z0 :: z1 :: z2 :: z3 :: z4 :: z5 :: z6 :: z7 :: r7).length) cap), (1, .int .i64 ((k : Nat) : Int)), (4, .int .u64 0), (5, .int .i64 0), (6, .int .i64 8), (7, .int .i64 2), (17, .bool false), (25, .bool true)]) (A2 := A) rfl (by kernel_rfl) ?_
          refine EO.done rfl ?_
          refine blockQ_n ?_
          refine thenJ_n ?_
          refine J.region ?_
          refine EO.run 3 [0, 1, 4, 5, 6, 7, 17, 25] (S2 := [(0, .slice (some ⟨b, o, none⟩) ((p ++ z0 :: z1 :: z2 :: z3 :: z4 :: z5 :: z6 :: z7 :: r7).length) cap), (1, .int .i64 ((k : Nat) : Int)), (4, .int .u64 0), (5, .int .i64 0), (6, .int .i64 8), (7, .int .i64 3), (17, .bool false), (25, .bool true)]) (A2 := A) rfl (by kernel_rfl) ?_
          refine EO.done rfl ?_
          refine loopQ_n ?_
          refine JL.step ?_
          refine J.seq ?_
          refine J.sr ?_
          refine EO.run 3 [0, 1, 4, 5, 6, 7, 17, 18, 19, 20, 25] (S2 := [(0, .slice (some ⟨b, o, none⟩) ((p ++ z0 :: z1 :: z2 :: z3 :: z4 :: z5 :: z6 :: z7 :: r7).length) cap), (1, .int .i64 ((k : Nat) : Int)), (4, .int .u64 0), (5, .int .i64 0), (6, .int .i64 8), (7, .int .i64 3), (17, .bool false), (18, .int .i64 3), (19, .slice (some ⟨b, o, none⟩) ((p ++ z0 :: z1 :: z2 :: z3 :: z4 :: z5 :: z6 :: z7 :: r7).length) cap), (20, .int .i64 ((k : Nat) : Int)), (25, .bool true)]) (A2 := A) rfl (by kernel_rfl) ?_
          refine EO.index (v := .slice (some ⟨b, o, none⟩) ((p ++ z0 :: z1 :: z2 :: z3 :: z4 :: z5 :: z6 :: z7 :: r7).length) cap) (u := .int .i64 (Int.ofNat k)) (w := .pointer (some ⟨b, o + (k) * 1, none⟩)) rfl rfl rfl (by kernel_rfl) (by kernel_rfl) (by kernel_rfl) (aindexAddr_slice (elem := 5) (size := 1) (by kernel_rfl) (by kernel_rfl) (by simp only [List.length_append, List.length_cons] at *; omega)) ?_
          refine EO.load (ad := ⟨b, o + (k) * 1, none⟩) (w := .int .u8 z0) rfl rfl rfl (by kernel_rfl) (by kernel_rfl) (hr.load (by kernel_rfl) (by rw [List.getElem?_append_right (by omega), show k - p.length = 0 from by omega]; rfl)) ?_
          refine EO.run 7 [0, 1, 4, 5, 6, 7, 17, 18, 24, 25] (S2 := [(0, .slice (some ⟨b, o, none⟩) ((p ++ z0 :: z1 :: z2 :: z3 :: z4 :: z5 :: z6 :: z7 :: r7).length) cap), (1, .int .i64 ((k : Nat) : Int)), (4, .int .u64 0), (5, .int .i64 0), (6, .int .i64 8), (7, .int .i64 3), (17, .bool false), (18, .int .i64 3), (24, .int .i64 (IntKind.wrap .i64 (IntKind.wrap .u8 (Int.tdiv z0 64)))), (25, .bool true)]) (A2 := A) rfl (by kernel_rfl) ?_
          refine EO.cast (S2 := [(0, .slice (some ⟨b, o, none⟩) ((p ++ z0 :: z1 :: z2 :: z3 :: z4 :: z5 :: z6 :: z7 :: r7).length) cap), (1, .int .i64 ((k : Nat) : Int)), (4, .int .u64 0), (5, .int .i64 0), (6, .int .i64 8), (7, .int .i64 3), (17, .bool false), (18, .int .i64 3), (24, .int .i64 3), (25, .bool true)]) (by rw [quo64 hz0, hc]) ?_
          refine EO.run 8 [0, 1, 4, 5, 6, 7, 17, 25] (S2 := [(0, .slice (some ⟨b, o, none⟩) ((p ++ z0 :: z1 :: z2 :: z3 :: z4 :: z5 :: z6 :: z7 :: r7).length) cap), (1, .int .i64 ((k : Nat) : Int)), (4, .int .u64 0), (5, .int .i64 0), (6, .int .i64 8), (7, .int .i64 3), (17, .bool false), (25, .bool false)]) (A2 := A) rfl (by kernel_rfl) ?_
          refine EO.done rfl ?_
          refine J.cond false (by kernel_rfl) (fun h => Bool.noConfusion h) (fun _ => ?_)
          refine J.exit ?_
          refine thenJ_e ?_
          refine loopQ_e ?_
          refine blockQ_hit ?_
          refine thenJ_n ?_
          refine J.seq ?_
          refine J.sr ?_
          refine EO.run 6 [0, 1, 4, 5, 6, 7, 17, 25, 35] (S2 := [(0, .slice (some ⟨b, o, none⟩) ((p ++ z0 :: z1 :: z2 :: z3 :: z4 :: z5 :: z6 :: z7 :: r7).length) cap), (1, .int .i64 ((k : Nat) : Int)), (4, .int .u64 0), (5, .int .i64 0), (6, .int .i64 8), (7, .int .i64 3), (17, .bool false), (25, .bool false), (35, .bool (decide ((IntKind.wrap .i64 ((((p ++ z0 :: z1 :: z2 :: z3 :: z4 :: z5 :: z6 :: z7 :: r7).length : Nat) : Int) - ((k : Nat) : Int))) < 8)))]) (A2 := A) rfl (by kernel_rfl) ?_
          refine EO.done rfl ?_
          have d3 : (decide ((IntKind.wrap .i64 ((((p ++ z0 :: z1 :: z2 :: z3 :: z4 :: z5 :: z6 :: z7 :: r7).length : Nat) : Int) - ((k : Nat) : Int))) < 8)) = false := decide_eq_false (by rw [wrap_i64 (by simp only [List.length_append, List.length_cons] at *; omega) (by simp only [List.length_append, List.length_cons] at *; omega)]; simp only [List.length_append, List.length_cons] at *; omega)
          rw [d3]
          refine J.cond false (by kernel_rfl) (fun h => Bool.noConfusion h) (fun _ => ?_)
          refine J.skip ?_
          refine thenJ_n ?_
          refine J.sr ?_
          refine EO.run 2 [0, 1, 4, 5, 6, 7, 17, 25, 35, 36, 37] (S2 := [(0, .slice (some ⟨b, o, none⟩) ((p ++ z0 :: z1 :: z2 :: z3 :: z4 :: z5 :: z6 :: z7 :: r7).length) cap), (1, .int .i64 ((k : Nat) : Int)), (4, .int .u64 0), (5, .int .i64 0), (6, .int .i64 8), (7, .int .i64 3), (17, .bool false), (25, .bool false), (35, .bool false), (36, .slice (some ⟨b, o, none⟩) ((p ++ z0 :: z1 :: z2 :: z3 :: z4 :: z5 :: z6 :: z7 :: r7).length) cap), (37, .int .i64 ((k : Nat) : Int))]) (A2 := A) rfl (by kernel_rfl) ?_
          refine EO.index (v := .slice (some ⟨b, o, none⟩) ((p ++ z0 :: z1 :: z2 :: z3 :: z4 :: z5 :: z6 :: z7 :: r7).length) cap) (u := .int .i64 (Int.ofNat k)) (w := .pointer (some ⟨b, o + (k) * 1, none⟩)) rfl rfl rfl (by kernel_rfl) (by kernel_rfl) (by kernel_rfl) (aindexAddr_slice (elem := 5) (size := 1) (by kernel_rfl) (by kernel_rfl) (by simp only [List.length_append, List.length_cons] at *; omega)) ?_
          refine EO.load (ad := ⟨b, o + (k) * 1, none⟩) (w := .int .u8 z0) rfl rfl rfl (by kernel_rfl) (by kernel_rfl) (hr.load (by kernel_rfl) (by rw [List.getElem?_append_right (by omega), show k - p.length = 0 from by omega]; rfl)) ?_
          refine EO.run 6 [0, 1, 4, 5, 6, 7, 17, 25, 35, 41] (S2 := [(0, .slice (some ⟨b, o, none⟩) ((p ++ z0 :: z1 :: z2 :: z3 :: z4 :: z5 :: z6 :: z7 :: r7).length) cap), (1, .int .i64 ((k : Nat) : Int)), (4, .int .u64 0), (5, .int .i64 0), (6, .int .i64 8), (7, .int .i64 3), (17, .bool false), (25, .bool false), (35, .bool false), (41, .int .u64 (IntKind.wrap .u64 (Int.tmod z0 64)))]) (A2 := A) rfl (by kernel_rfl) ?_
          refine EO.cast (S2 := [(0, .slice (some ⟨b, o, none⟩) ((p ++ z0 :: z1 :: z2 :: z3 :: z4 :: z5 :: z6 :: z7 :: r7).length) cap), (1, .int .i64 ((k : Nat) : Int)), (4, .int .u64 0), (5, .int .i64 0), (6, .int .i64 8), (7, .int .i64 3), (17, .bool false), (25, .bool false), (35, .bool false), (41, .int .u64 (z0 % 64))]) (by rw [rem64 hz0]) ?_
          refine EO.run 7 [0, 1, 4, 5, 6, 7, 8, 17, 25, 35] (S2 := [(0, .slice (some ⟨b, o, none⟩) ((p ++ z0 :: z1 :: z2 :: z3 :: z4 :: z5 :: z6 :: z7 :: r7).length) cap), (1, .int .i64 ((k : Nat) : Int)), (4, .int .u64 0), (5, .int .i64 0), (6, .int .i64 8), (7, .int .i64 3), (8, .int .u64 (z0 % 64)), (17, .bool false), (25, .bool false), (35, .bool false)]) (A2 := A) rfl (by kernel_rfl) ?_
          refine EO.done rfl ?_
          refine J.seq ?_
          refine J.sr ?_
          refine EO.run 1 [0, 1, 4, 5, 6, 7, 8, 9, 17, 25, 35] (S2 := [(0, .slice (some ⟨b, o, none⟩) ((p ++ z0 :: z1 :: z2 :: z3 :: z4 :: z5 :: z6 :: z7 :: r7).length) cap), (1, .int .i64 ((k : Nat) : Int)), (4, .int .u64 0), (5, .int .i64 0), (6, .int .i64 8), (7, .int .i64 3), (8, .int .u64 (z0 % 64)), (9, .int .i64 1), (17, .bool false), (25, .bool false), (35, .bool false)]) (A2 := A) rfl (by kernel_rfl) ?_
          refine EO.done rfl ?_
          refine J.block ?_
          refine J.unroll ?_
          refine JL.step ?_
          refine J.seq ?_
          refine J.sr ?_
          refine EO.run 3 [0, 1, 4, 5, 6, 7, 8, 9, 17, 25, 35, 44] (S2 := [(0, .slice (some ⟨b, o, none⟩) ((p ++ z0 :: z1 :: z2 :: z3 :: z4 :: z5 :: z6 :: z7 :: r7).length) cap), (1, .int .i64 ((k : Nat) : Int)), (4, .int .u64 0), (5, .int .i64 0), (6, .int .i64 8), (7, .int .i64 3), (8, .int .u64 (z0 % 64)), (9, .int .i64 1), (17, .bool false), (25, .bool false), (35, .bool false), (44, .bool true)]) (A2 := A) rfl (by kernel_rfl) ?_
          refine EO.done rfl ?_
          refine J.cond true (by kernel_rfl) (fun _ => ?_) (fun h => Bool.noConfusion h)
          refine J.skip ?_
          refine thenJ_n ?_
          refine J.seq ?_
          refine J.block ?_
          refine J.region ?_
          refine EO.run 6 [0, 1, 4, 5, 6, 7, 8, 9, 17, 25, 35, 44, 48, 49, 52] (S2 := [(0, .slice (some ⟨b, o, none⟩) ((p ++ z0 :: z1 :: z2 :: z3 :: z4 :: z5 :: z6 :: z7 :: r7).length) cap), (1, .int .i64 ((k : Nat) : Int)), (4, .int .u64 0), (5, .int .i64 0), (6, .int .i64 8), (7, .int .i64 3), (8, .int .u64 (z0 % 64)), (9, .int .i64 1), (17, .bool false), (25, .bool false), (35, .bool false), (44, .bool true), (48, .int .u64 (IntKind.wrap .u64 (256 * (z0 % 64)))), (49, .slice (some ⟨b, o, none⟩) ((p ++ z0 :: z1 :: z2 :: z3 :: z4 :: z5 :: z6 :: z7 :: r7).length) cap), (52, .int .i64 (IntKind.wrap .i64 (((k : Nat) : Int) + 1)))]) (A2 := A) rfl (by kernel_rfl) ?_
          refine EO.cast (S2 := [(0, .slice (some ⟨b, o, none⟩) ((p ++ z0 :: z1 :: z2 :: z3 :: z4 :: z5 :: z6 :: z7 :: r7).length) cap), (1, .int .i64 ((k : Nat) : Int)), (4, .int .u64 0), (5, .int .i64 0), (6, .int .i64 8), (7, .int .i64 3), (8, .int .u64 (z0 % 64)), (9, .int .i64 1), (17, .bool false), (25, .bool false), (35, .bool false), (44, .bool true), (48, .int .u64 (IntKind.wrap .u64 (256 * (z0 % 64)))), (49, .slice (some ⟨b, o, none⟩) ((p ++ z0 :: z1 :: z2 :: z3 :: z4 :: z5 :: z6 :: z7 :: r7).length) cap), (52, .int .i64 ((k + 1 : Nat) : Int))]) (by rw [show (IntKind.wrap .i64 (((k : Nat) : Int) + 1) : Int) = ((k + 1 : Nat) : Int) from by rw [wrap_i64 (by omega) (by omega)]; omega]) ?_
          refine EO.index (v := .slice (some ⟨b, o, none⟩) ((p ++ z0 :: z1 :: z2 :: z3 :: z4 :: z5 :: z6 :: z7 :: r7).length) cap) (u := .int .i64 (Int.ofNat (k + 1))) (w := .pointer (some ⟨b, o + (k + 1) * 1, none⟩)) rfl rfl rfl (by kernel_rfl) (by kernel_rfl) (by kernel_rfl) (aindexAddr_slice (elem := 5) (size := 1) (by kernel_rfl) (by kernel_rfl) (by simp only [List.length_append, List.length_cons] at *; omega)) ?_
          refine EO.load (ad := ⟨b, o + (k + 1) * 1, none⟩) (w := .int .u8 z1) rfl rfl rfl (by kernel_rfl) (by kernel_rfl) (hr.load (by kernel_rfl) (by rw [List.getElem?_append_right (by omega), show k + 1 - p.length = 1 from by omega]; rfl)) ?_
          refine EO.run 10 [0, 1, 4, 5, 6, 7, 8, 9, 17, 25, 35, 44, 56] (S2 := [(0, .slice (some ⟨b, o, none⟩) ((p ++ z0 :: z1 :: z2 :: z3 :: z4 :: z5 :: z6 :: z7 :: r7).length) cap), (1, .int .i64 ((k : Nat) : Int)), (4, .int .u64 0), (5, .int .i64 0), (6, .int .i64 8), (7, .int .i64 3), (8, .int .u64 (z0 % 64)), (9, .int .i64 1), (17, .bool false), (25, .bool false), (35, .bool false), (44, .bool true), (56, .int .u64 (IntKind.wrap .u64 ((IntKind.wrap .u64 (256 * (z0 % 64))) + (IntKind.wrap .u64 z1))))]) (A2 := A) rfl (by kernel_rfl) ?_
          refine EO.cast (S2 := [(0, .slice (some ⟨b, o, none⟩) ((p ++ z0 :: z1 :: z2 :: z3 :: z4 :: z5 :: z6 :: z7 :: r7).length) cap), (1, .int .i64 ((k : Nat) : Int)), (4, .int .u64 0), (5, .int .i64 0), (6, .int .i64 8), (7, .int .i64 3), (8, .int .u64 (z0 % 64)), (9, .int .i64 1), (17, .bool false), (25, .bool false), (35, .bool false), (44, .bool true), (56, .int .u64 (256 * (z0 % 64) + z1))]) (by rw [mul_step (x := z0 % 64) (by omega) (by omega) hz1]) ?_
          refine EO.run 11 [0, 1, 4, 5, 6, 7, 8, 9, 17, 25, 35, 44] (S2 := [(0, .slice (some ⟨b, o, none⟩) ((p ++ z0 :: z1 :: z2 :: z3 :: z4 :: z5 :: z6 :: z7 :: r7).length) cap), (1, .int .i64 ((k : Nat) : Int)), (4, .int .u64 0), (5, .int .i64 0), (6, .int .i64 8), (7, .int .i64 3), (8, .int .u64 (256 * (z0 % 64) + z1)), (9, .int .i64 1), (17, .bool false), (25, .bool false), (35, .bool false), (44, .bool true)]) (A2 := A) rfl (by kernel_rfl) ?_
          refine EO.done rfl ?_
          refine blockQ_n ?_
          refine thenJ_n ?_
          refine J.region ?_
          refine EO.run 3 [0, 1, 4, 5, 6, 7, 8, 9, 17, 25, 35, 44] (S2 := [(0, .slice (some ⟨b, o, none⟩) ((p ++ z0 :: z1 :: z2 :: z3 :: z4 :: z5 :: z6 :: z7 :: r7).length) cap), (1, .int .i64 ((k : Nat) : Int)), (4, .int .u64 0), (5, .int .i64 0), (6, .int .i64 8), (7, .int .i64 3), (8, .int .u64 (256 * (z0 % 64) + z1)), (9, .int .i64 2), (17, .bool false), (25, .bool false), (35, .bool false), (44, .bool true)]) (A2 := A) rfl (by kernel_rfl) ?_
          refine EO.done rfl ?_
          refine loopQ_n ?_
          refine JL.step ?_
          refine J.seq ?_
          refine J.sr ?_
          refine EO.run 3 [0, 1, 4, 5, 6, 7, 8, 9, 17, 25, 35, 44] (S2 := [(0, .slice (some ⟨b, o, none⟩) ((p ++ z0 :: z1 :: z2 :: z3 :: z4 :: z5 :: z6 :: z7 :: r7).length) cap), (1, .int .i64 ((k : Nat) : Int)), (4, .int .u64 0), (5, .int .i64 0), (6, .int .i64 8), (7, .int .i64 3), (8, .int .u64 (256 * (z0 % 64) + z1)), (9, .int .i64 2), (17, .bool false), (25, .bool false), (35, .bool false), (44, .bool true)]) (A2 := A) rfl (by kernel_rfl) ?_
          refine EO.done rfl ?_
          refine J.cond true (by kernel_rfl) (fun _ => ?_) (fun h => Bool.noConfusion h)
          refine J.skip ?_
          refine thenJ_n ?_
          refine J.seq ?_
          refine J.block ?_
          refine J.region ?_
          refine EO.run 6 [0, 1, 4, 5, 6, 7, 8, 9, 17, 25, 35, 44, 48, 49, 52] (S2 := [(0, .slice (some ⟨b, o, none⟩) ((p ++ z0 :: z1 :: z2 :: z3 :: z4 :: z5 :: z6 :: z7 :: r7).length) cap), (1, .int .i64 ((k : Nat) : Int)), (4, .int .u64 0), (5, .int .i64 0), (6, .int .i64 8), (7, .int .i64 3), (8, .int .u64 (256 * (z0 % 64) + z1)), (9, .int .i64 2), (17, .bool false), (25, .bool false), (35, .bool false), (44, .bool true), (48, .int .u64 (IntKind.wrap .u64 (256 * (256 * (z0 % 64) + z1)))), (49, .slice (some ⟨b, o, none⟩) ((p ++ z0 :: z1 :: z2 :: z3 :: z4 :: z5 :: z6 :: z7 :: r7).length) cap), (52, .int .i64 (IntKind.wrap .i64 (((k : Nat) : Int) + 2)))]) (A2 := A) rfl (by kernel_rfl) ?_
          refine EO.cast (S2 := [(0, .slice (some ⟨b, o, none⟩) ((p ++ z0 :: z1 :: z2 :: z3 :: z4 :: z5 :: z6 :: z7 :: r7).length) cap), (1, .int .i64 ((k : Nat) : Int)), (4, .int .u64 0), (5, .int .i64 0), (6, .int .i64 8), (7, .int .i64 3), (8, .int .u64 (256 * (z0 % 64) + z1)), (9, .int .i64 2), (17, .bool false), (25, .bool false), (35, .bool false), (44, .bool true), (48, .int .u64 (IntKind.wrap .u64 (256 * (256 * (z0 % 64) + z1)))), (49, .slice (some ⟨b, o, none⟩) ((p ++ z0 :: z1 :: z2 :: z3 :: z4 :: z5 :: z6 :: z7 :: r7).length) cap), (52, .int .i64 ((k + 2 : Nat) : Int))]) (by rw [show (IntKind.wrap .i64 (((k : Nat) : Int) + 2) : Int) = ((k + 2 : Nat) : Int) from by rw [wrap_i64 (by omega) (by omega)]; omega]) ?_
          refine EO.index (v := .slice (some ⟨b, o, none⟩) ((p ++ z0 :: z1 :: z2 :: z3 :: z4 :: z5 :: z6 :: z7 :: r7).length) cap) (u := .int .i64 (Int.ofNat (k + 2))) (w := .pointer (some ⟨b, o + (k + 2) * 1, none⟩)) rfl rfl rfl (by kernel_rfl) (by kernel_rfl) (by kernel_rfl) (aindexAddr_slice (elem := 5) (size := 1) (by kernel_rfl) (by kernel_rfl) (by simp only [List.length_append, List.length_cons] at *; omega)) ?_
          refine EO.load (ad := ⟨b, o + (k + 2) * 1, none⟩) (w := .int .u8 z2) rfl rfl rfl (by kernel_rfl) (by kernel_rfl) (hr.load (by kernel_rfl) (by rw [List.getElem?_append_right (by omega), show k + 2 - p.length = 2 from by omega]; rfl)) ?_
          refine EO.run 10 [0, 1, 4, 5, 6, 7, 8, 9, 17, 25, 35, 44, 56] (S2 := [(0, .slice (some ⟨b, o, none⟩) ((p ++ z0 :: z1 :: z2 :: z3 :: z4 :: z5 :: z6 :: z7 :: r7).length) cap), (1, .int .i64 ((k : Nat) : Int)), (4, .int .u64 0), (5, .int .i64 0), (6, .int .i64 8), (7, .int .i64 3), (8, .int .u64 (256 * (z0 % 64) + z1)), (9, .int .i64 2), (17, .bool false), (25, .bool false), (35, .bool false), (44, .bool true), (56, .int .u64 (IntKind.wrap .u64 ((IntKind.wrap .u64 (256 * (256 * (z0 % 64) + z1))) + (IntKind.wrap .u64 z2))))]) (A2 := A) rfl (by kernel_rfl) ?_
          refine EO.cast (S2 := [(0, .slice (some ⟨b, o, none⟩) ((p ++ z0 :: z1 :: z2 :: z3 :: z4 :: z5 :: z6 :: z7 :: r7).length) cap), (1, .int .i64 ((k : Nat) : Int)), (4, .int .u64 0), (5, .int .i64 0), (6, .int .i64 8), (7, .int .i64 3), (8, .int .u64 (256 * (z0 % 64) + z1)), (9, .int .i64 2), (17, .bool false), (25, .bool false), (35, .bool false), (44, .bool true), (56, .int .u64 (256 * (256 * (z0 % 64) + z1) + z2))]) (by rw [mul_step (x := 256 * (z0 % 64) + z1) (by omega) (by omega) hz2]) ?_
          refine EO.run 11 [0, 1, 4, 5, 6, 7, 8, 9, 17, 25, 35, 44] (S2 := [(0, .slice (some ⟨b, o, none⟩) ((p ++ z0 :: z1 :: z2 :: z3 :: z4 :: z5 :: z6 :: z7 :: r7).length) cap), (1, .int .i64 ((k : Nat) : Int)), (4, .int .u64 0), (5, .int .i64 0), (6, .int .i64 8), (7, .int .i64 3), (8, .int .u64 (256 * (256 * (z0 % 64) + z1) + z2)), (9, .int .i64 2), (17, .bool false), (25, .bool false), (35, .bool false), (44, .bool true)]) (A2 := A) rfl (by kernel_rfl) ?_
          refine EO.done rfl ?_
          refine blockQ_n ?_
          refine thenJ_n ?_
          refine J.region ?_
          refine EO.run 3 [0, 1, 4, 5, 6, 7, 8, 9, 17, 25, 35, 44] (S2 := [(0, .slice (some ⟨b, o, none⟩) ((p ++ z0 :: z1 :: z2 :: z3 :: z4 :: z5 :: z6 :: z7 :: r7).length) cap), (1, .int .i64 ((k : Nat) : Int)), (4, .int .u64 0), (5, .int .i64 0), (6, .int .i64 8), (7, .int .i64 3), (8, .int .u64 (256 * (256 * (z0 % 64) + z1) + z2)), (9, .int .i64 3), (17, .bool false), (25, .bool false), (35, .bool false), (44, .bool true)]) (A2 := A) rfl (by kernel_rfl) ?_
          refine EO.done rfl ?_
          refine loopQ_n ?_
          refine JL.step ?_
          refine J.seq ?_
          refine J.sr ?_
          refine EO.run 3 [0, 1, 4, 5, 6, 7, 8, 9, 17, 25, 35, 44] (S2 := [(0, .slice (some ⟨b, o, none⟩) ((p ++ z0 :: z1 :: z2 :: z3 :: z4 :: z5 :: z6 :: z7 :: r7).length) cap), (1, .int .i64 ((k : Nat) : Int)), (4, .int .u64 0), (5, .int .i64 0), (6, .int .i64 8), (7, .int .i64 3), (8, .int .u64 (256 * (256 * (z0 % 64) + z1) + z2)), (9, .int .i64 3), (17, .bool false), (25, .bool false), (35, .bool false), (44, .bool true)]) (A2 := A) rfl (by kernel_rfl) ?_
          refine EO.done rfl ?_
          refine J.cond true (by kernel_rfl) (fun _ => ?_) (fun h => Bool.noConfusion h)
          refine J.skip ?_
          refine thenJ_n ?_
          refine J.seq ?_
          refine J.block ?_
          refine J.region ?_
          refine EO.run 6 [0, 1, 4, 5, 6, 7, 8, 9, 17, 25, 35, 44, 48, 49, 52] (S2 := [(0, .slice (some ⟨b, o, none⟩) ((p ++ z0 :: z1 :: z2 :: z3 :: z4 :: z5 :: z6 :: z7 :: r7).length) cap), (1, .int .i64 ((k : Nat) : Int)), (4, .int .u64 0), (5, .int .i64 0), (6, .int .i64 8), (7, .int .i64 3), (8, .int .u64 (256 * (256 * (z0 % 64) + z1) + z2)), (9, .int .i64 3), (17, .bool false), (25, .bool false), (35, .bool false), (44, .bool true), (48, .int .u64 (IntKind.wrap .u64 (256 * (256 * (256 * (z0 % 64) + z1) + z2)))), (49, .slice (some ⟨b, o, none⟩) ((p ++ z0 :: z1 :: z2 :: z3 :: z4 :: z5 :: z6 :: z7 :: r7).length) cap), (52, .int .i64 (IntKind.wrap .i64 (((k : Nat) : Int) + 3)))]) (A2 := A) rfl (by kernel_rfl) ?_
          refine EO.cast (S2 := [(0, .slice (some ⟨b, o, none⟩) ((p ++ z0 :: z1 :: z2 :: z3 :: z4 :: z5 :: z6 :: z7 :: r7).length) cap), (1, .int .i64 ((k : Nat) : Int)), (4, .int .u64 0), (5, .int .i64 0), (6, .int .i64 8), (7, .int .i64 3), (8, .int .u64 (256 * (256 * (z0 % 64) + z1) + z2)), (9, .int .i64 3), (17, .bool false), (25, .bool false), (35, .bool false), (44, .bool true), (48, .int .u64 (IntKind.wrap .u64 (256 * (256 * (256 * (z0 % 64) + z1) + z2)))), (49, .slice (some ⟨b, o, none⟩) ((p ++ z0 :: z1 :: z2 :: z3 :: z4 :: z5 :: z6 :: z7 :: r7).length) cap), (52, .int .i64 ((k + 3 : Nat) : Int))]) (by rw [show (IntKind.wrap .i64 (((k : Nat) : Int) + 3) : Int) = ((k + 3 : Nat) : Int) from by rw [wrap_i64 (by omega) (by omega)]; omega]) ?_
          refine EO.index (v := .slice (some ⟨b, o, none⟩) ((p ++ z0 :: z1 :: z2 :: z3 :: z4 :: z5 :: z6 :: z7 :: r7).length) cap) (u := .int .i64 (Int.ofNat (k + 3))) (w := .pointer (some ⟨b, o + (k + 3) * 1, none⟩)) rfl rfl rfl (by kernel_rfl) (by kernel_rfl) (by kernel_rfl) (aindexAddr_slice (elem := 5) (size := 1) (by kernel_rfl) (by kernel_rfl) (by simp only [List.length_append, List.length_cons] at *; omega)) ?_
          refine EO.load (ad := ⟨b, o + (k + 3) * 1, none⟩) (w := .int .u8 z3) rfl rfl rfl (by kernel_rfl) (by kernel_rfl) (hr.load (by kernel_rfl) (by rw [List.getElem?_append_right (by omega), show k + 3 - p.length = 3 from by omega]; rfl)) ?_
          refine EO.run 10 [0, 1, 4, 5, 6, 7, 8, 9, 17, 25, 35, 44, 56] (S2 := [(0, .slice (some ⟨b, o, none⟩) ((p ++ z0 :: z1 :: z2 :: z3 :: z4 :: z5 :: z6 :: z7 :: r7).length) cap), (1, .int .i64 ((k : Nat) : Int)), (4, .int .u64 0), (5, .int .i64 0), (6, .int .i64 8), (7, .int .i64 3), (8, .int .u64 (256 * (256 * (z0 % 64) + z1) + z2)), (9, .int .i64 3), (17, .bool false), (25, .bool false), (35, .bool false), (44, .bool true), (56, .int .u64 (IntKind.wrap .u64 ((IntKind.wrap .u64 (256 * (256 * (256 * (z0 % 64) + z1) + z2))) + (IntKind.wrap .u64 z3))))]) (A2 := A) rfl (by kernel_rfl) ?_
          refine EO.cast (S2 := [(0, .slice (some ⟨b, o, none⟩) ((p ++ z0 :: z1 :: z2 :: z3 :: z4 :: z5 :: z6 :: z7 :: r7).length) cap), (1, .int .i64 ((k : Nat) : Int)), (4, .int .u64 0), (5, .int .i64 0), (6, .int .i64 8), (7, .int .i64 3), (8, .int .u64 (256 * (256 * (z0 % 64) + z1) + z2)), (9, .int .i64 3), (17, .bool false), (25, .bool false), (35, .bool false), (44, .bool true), (56, .int .u64 (256 * (256 * (256 * (z0 % 64) + z1) + z2) + z3))]) (by rw [mul_step (x := 256 * (256 * (z0 % 64) + z1) + z2) (by omega) (by omega) hz3]) ?_
          refine EO.run 11 [0, 1, 4, 5, 6, 7, 8, 9, 17, 25, 35, 44] (S2 := [(0, .slice (some ⟨b, o, none⟩) ((p ++ z0 :: z1 :: z2 :: z3 :: z4 :: z5 :: z6 :: z7 :: r7).length) cap), (1, .int .i64 ((k : Nat) : Int)), (4, .int .u64 0), (5, .int .i64 0), (6, .int .i64 8), (7, .int .i64 3), (8, .int .u64 (256 * (256 * (256 * (z0 % 64) + z1) + z2) + z3)), (9, .int .i64 3), (17, .bool false), (25, .bool false), (35, .bool false), (44, .bool true)]) (A2 := A) rfl (by kernel_rfl) ?_
          refine EO.done rfl ?_
          refine blockQ_n ?_
          refine thenJ_n ?_
          refine J.region ?_
          refine EO.run 3 [0, 1, 4, 5, 6, 7, 8, 9, 17, 25, 35, 44] (S2 := [(0, .slice (some ⟨b, o, none⟩) ((p ++ z0 :: z1 :: z2 :: z3 :: z4 :: z5 :: z6 :: z7 :: r7).length) cap), (1, .int .i64 ((k : Nat) : Int)), (4, .int .u64 0), (5, .int .i64 0), (6, .int .i64 8), (7, .int .i64 3), (8, .int .u64 (256 * (256 * (256 * (z0 % 64) + z1) + z2) + z3)), (9, .int .i64 4), (17, .bool false), (25, .bool false), (35, .bool false), (44, .bool true)]) (A2 := A) rfl (by kernel_rfl) ?_
          refine EO.done rfl ?_
          refine loopQ_n ?_
          refine JL.step ?_
          refine J.seq ?_
          refine J.sr ?_
          refine EO.run 3 [0, 1, 4, 5, 6, 7, 8, 9, 17, 25, 35, 44] (S2 := [(0, .slice (some ⟨b, o, none⟩) ((p ++ z0 :: z1 :: z2 :: z3 :: z4 :: z5 :: z6 :: z7 :: r7).length) cap), (1, .int .i64 ((k : Nat) : Int)), (4, .int .u64 0), (5, .int .i64 0), (6, .int .i64 8), (7, .int .i64 3), (8, .int .u64 (256 * (256 * (256 * (z0 % 64) + z1) + z2) + z3)), (9, .int .i64 4), (17, .bool false), (25, .bool false), (35, .bool false), (44, .bool true)]) (A2 := A) rfl (by kernel_rfl) ?_
          refine EO.done rfl ?_
          refine J.cond true (by kernel_rfl) (fun _ => ?_) (fun h => Bool.noConfusion h)
          refine J.skip ?_
          refine thenJ_n ?_
          refine J.seq ?_
          refine J.block ?_
          refine J.region ?_
          refine EO.run 6 [0, 1, 4, 5, 6, 7, 8, 9, 17, 25, 35, 44, 48, 49, 52] (S2 := [(0, .slice (some ⟨b, o, none⟩) ((p ++ z0 :: z1 :: z2 :: z3 :: z4 :: z5 :: z6 :: z7 :: r7).length) cap), (1, .int .i64 ((k : Nat) : Int)), (4, .int .u64 0), (5, .int .i64 0), (6, .int .i64 8), (7, .int .i64 3), (8, .int .u64 (256 * (256 * (256 * (z0 % 64) + z1) + z2) + z3)), (9, .int .i64 4), (17, .bool false), (25, .bool false), (35, .bool false), (44, .bool true), (48, .int .u64 (IntKind.wrap .u64 (256 * (256 * (256 * (256 * (z0 % 64) + z1) + z2) + z3)))), (49, .slice (some ⟨b, o, none⟩) ((p ++ z0 :: z1 :: z2 :: z3 :: z4 :: z5 :: z6 :: z7 :: r7).length) cap), (52, .int .i64 (IntKind.wrap .i64 (((k : Nat) : Int) + 4)))]) (A2 := A) rfl (by kernel_rfl) ?_
          refine EO.cast (S2 := [(0, .slice (some ⟨b, o, none⟩) ((p ++ z0 :: z1 :: z2 :: z3 :: z4 :: z5 :: z6 :: z7 :: r7).length) cap), (1, .int .i64 ((k : Nat) : Int)), (4, .int .u64 0), (5, .int .i64 0), (6, .int .i64 8), (7, .int .i64 3), (8, .int .u64 (256 * (256 * (256 * (z0 % 64) + z1) + z2) + z3)), (9, .int .i64 4), (17, .bool false), (25, .bool false), (35, .bool false), (44, .bool true), (48, .int .u64 (IntKind.wrap .u64 (256 * (256 * (256 * (256 * (z0 % 64) + z1) + z2) + z3)))), (49, .slice (some ⟨b, o, none⟩) ((p ++ z0 :: z1 :: z2 :: z3 :: z4 :: z5 :: z6 :: z7 :: r7).length) cap), (52, .int .i64 ((k + 4 : Nat) : Int))]) (by rw [show (IntKind.wrap .i64 (((k : Nat) : Int) + 4) : Int) = ((k + 4 : Nat) : Int) from by rw [wrap_i64 (by omega) (by omega)]; omega]) ?_
          refine EO.index (v := .slice (some ⟨b, o, none⟩) ((p ++ z0 :: z1 :: z2 :: z3 :: z4 :: z5 :: z6 :: z7 :: r7).length) cap) (u := .int .i64 (Int.ofNat (k + 4))) (w := .pointer (some ⟨b, o + (k + 4) * 1, none⟩)) rfl rfl rfl (by kernel_rfl) (by kernel_rfl) (by kernel_rfl) (aindexAddr_slice (elem := 5) (size := 1) (by kernel_rfl) (by kernel_rfl) (by simp only [List.length_append, List.length_cons] at *; omega)) ?_
          refine EO.load (ad := ⟨b, o + (k + 4) * 1, none⟩) (w := .int .u8 z4) rfl rfl rfl (by kernel_rfl) (by kernel_rfl) (hr.load (by kernel_rfl) (by rw [List.getElem?_append_right (by omega), show k + 4 - p.length = 4 from by omega]; rfl)) ?_
          refine EO.run 10 [0, 1, 4, 5, 6, 7, 8, 9, 17, 25, 35, 44, 56] (S2 := [(0, .slice (some ⟨b, o, none⟩) ((p ++ z0 :: z1 :: z2 :: z3 :: z4 :: z5 :: z6 :: z7 :: r7).length) cap), (1, .int .i64 ((k : Nat) : Int)), (4, .int .u64 0), (5, .int .i64 0), (6, .int .i64 8), (7, .int .i64 3), (8, .int .u64 (256 * (256 * (256 * (z0 % 64) + z1) + z2) + z3)), (9, .int .i64 4), (17, .bool false), (25, .bool false), (35, .bool false), (44, .bool true), (56, .int .u64 (IntKind.wrap .u64 ((IntKind.wrap .u64 (256 * (256 * (256 * (256 * (z0 % 64) + z1) + z2) + z3))) + (IntKind.wrap .u64 z4))))]) (A2 := A) rfl (by kernel_rfl) ?_
          refine EO.cast (S2 := [(0, .slice (some ⟨b, o, none⟩) ((p ++ z0 :: z1 :: z2 :: z3 :: z4 :: z5 :: z6 :: z7 :: r7).length) cap), (1, .int .i64 ((k : Nat) : Int)), (4, .int .u64 0), (5, .int .i64 0), (6, .int .i64 8), (7, .int .i64 3), (8, .int .u64 (256 * (256 * (256 * (z0 % 64) + z1) + z2) + z3)), (9, .int .i64 4), (17, .bool false), (25, .bool false), (35, .bool false), (44, .bool true), (56, .int .u64 (256 * (256 * (256 * (256 * (z0 % 64) + z1) + z2) + z3) + z4))]) (by rw [mul_step (x := 256 * (256 * (256 * (z0 % 64) + z1) + z2) + z3) (by omega) (by omega) hz4]) ?_
          refine EO.run 11 [0, 1, 4, 5, 6, 7, 8, 9, 17, 25, 35, 44] (S2 := [(0, .slice (some ⟨b, o, none⟩) ((p ++ z0 :: z1 :: z2 :: z3 :: z4 :: z5 :: z6 :: z7 :: r7).length) cap), (1, .int .i64 ((k : Nat) : Int)), (4, .int .u64 0), (5, .int .i64 0), (6, .int .i64 8), (7, .int .i64 3), (8, .int .u64 (256 * (256 * (256 * (256 * (z0 % 64) + z1) + z2) + z3) + z4)), (9, .int .i64 4), (17, .bool false), (25, .bool false), (35, .bool false), (44, .bool true)]) (A2 := A) rfl (by kernel_rfl) ?_
          refine EO.done rfl ?_
          refine blockQ_n ?_
          refine thenJ_n ?_
          refine J.region ?_
          refine EO.run 3 [0, 1, 4, 5, 6, 7, 8, 9, 17, 25, 35, 44] (S2 := [(0, .slice (some ⟨b, o, none⟩) ((p ++ z0 :: z1 :: z2 :: z3 :: z4 :: z5 :: z6 :: z7 :: r7).length) cap), (1, .int .i64 ((k : Nat) : Int)), (4, .int .u64 0), (5, .int .i64 0), (6, .int .i64 8), (7, .int .i64 3), (8, .int .u64 (256 * (256 * (256 * (256 * (z0 % 64) + z1) + z2) + z3) + z4)), (9, .int .i64 5), (17, .bool false), (25, .bool false), (35, .bool false), (44, .bool true)]) (A2 := A) rfl (by kernel_rfl) ?_
          refine EO.done rfl ?_
          refine loopQ_n ?_
          refine JL.step ?_
          refine J.seq ?_
          refine J.sr ?_
          refine EO.run 3 [0, 1, 4, 5, 6, 7, 8, 9, 17, 25, 35, 44] (S2 := [(0, .slice (some ⟨b, o, none⟩) ((p ++ z0 :: z1 :: z2 :: z3 :: z4 :: z5 :: z6 :: z7 :: r7).length) cap), (1, .int .i64 ((k : Nat) : Int)), (4, .int .u64 0), (5, .int .i64 0), (6, .int .i64 8), (7, .int .i64 3), (8, .int .u64 (256 * (256 * (256 * (256 * (z0 % 64) + z1) + z2) + z3) + z4)), (9, .int .i64 5), (17, .bool false), (25, .bool false), (35, .bool false), (44, .bool true)]) (A2 := A) rfl (by kernel_rfl) ?_
          refine EO.done rfl ?_
          refine J.cond true (by kernel_rfl) (fun _ => ?_) (fun h => Bool.noConfusion h)
          refine J.skip ?_
          refine thenJ_n ?_
          refine J.seq ?_
          refine J.block ?_
          refine J.region ?_
          refine EO.run 6 [0, 1, 4, 5, 6, 7, 8, 9, 17, 25, 35, 44, 48, 49, 52] (S2 := [(0, .slice (some ⟨b, o, none⟩) ((p ++ z0 :: z1 :: z2 :: z3 :: z4 :: z5 :: z6 :: z7 :: r7).length) cap), (1, .int .i64 ((k : Nat) : Int)), (4, .int .u64 0), (5, .int .i64 0), (6, .int .i64 8), (7, .int .i64 3), (8, .int .u64 (256 * (256 * (256 * (256 * (z0 % 64) + z1) + z2) + z3) + z4)), (9, .int .i64 5), (17, .bool false), (25, .bool false), (35, .bool false), (44, .bool true), (48, .int .u64 (IntKind.wrap .u64 (256 * (256 * (256 * (256 * (256 * (z0 % 64) + z1) + z2) + z3) + z4)))), (49, .slice (some ⟨b, o, none⟩) ((p ++ z0 :: z1 :: z2 :: z3 :: z4 :: z5 :: z6 :: z7 :: r7).length) cap), (52, .int .i64 (IntKind.wrap .i64 (((k : Nat) : Int) + 5)))]) (A2 := A) rfl (by kernel_rfl) ?_
          refine EO.cast (S2 := [(0, .slice (some ⟨b, o, none⟩) ((p ++ z0 :: z1 :: z2 :: z3 :: z4 :: z5 :: z6 :: z7 :: r7).length) cap), (1, .int .i64 ((k : Nat) : Int)), (4, .int .u64 0), (5, .int .i64 0), (6, .int .i64 8), (7, .int .i64 3), (8, .int .u64 (256 * (256 * (256 * (256 * (z0 % 64) + z1) + z2) + z3) + z4)), (9, .int .i64 5), (17, .bool false), (25, .bool false), (35, .bool false), (44, .bool true), (48, .int .u64 (IntKind.wrap .u64 (256 * (256 * (256 * (256 * (256 * (z0 % 64) + z1) + z2) + z3) + z4)))), (49, .slice (some ⟨b, o, none⟩) ((p ++ z0 :: z1 :: z2 :: z3 :: z4 :: z5 :: z6 :: z7 :: r7).length) cap), (52, .int .i64 ((k + 5 : Nat) : Int))]) (by rw [show (IntKind.wrap .i64 (((k : Nat) : Int) + 5) : Int) = ((k + 5 : Nat) : Int) from by rw [wrap_i64 (by omega) (by omega)]; omega]) ?_
          refine EO.index (v := .slice (some ⟨b, o, none⟩) ((p ++ z0 :: z1 :: z2 :: z3 :: z4 :: z5 :: z6 :: z7 :: r7).length) cap) (u := .int .i64 (Int.ofNat (k + 5))) (w := .pointer (some ⟨b, o + (k + 5) * 1, none⟩)) rfl rfl rfl (by kernel_rfl) (by kernel_rfl) (by kernel_rfl) (aindexAddr_slice (elem := 5) (size := 1) (by kernel_rfl) (by kernel_rfl) (by simp only [List.length_append, List.length_cons] at *; omega)) ?_
          refine EO.load (ad := ⟨b, o + (k + 5) * 1, none⟩) (w := .int .u8 z5) rfl rfl rfl (by kernel_rfl) (by kernel_rfl) (hr.load (by kernel_rfl) (by rw [List.getElem?_append_right (by omega), show k + 5 - p.length = 5 from by omega]; rfl)) ?_
          refine EO.run 10 [0, 1, 4, 5, 6, 7, 8, 9, 17, 25, 35, 44, 56] (S2 := [(0, .slice (some ⟨b, o, none⟩) ((p ++ z0 :: z1 :: z2 :: z3 :: z4 :: z5 :: z6 :: z7 :: r7).length) cap), (1, .int .i64 ((k : Nat) : Int)), (4, .int .u64 0), (5, .int .i64 0), (6, .int .i64 8), (7, .int .i64 3), (8, .int .u64 (256 * (256 * (256 * (256 * (z0 % 64) + z1) + z2) + z3) + z4)), (9, .int .i64 5), (17, .bool false), (25, .bool false), (35, .bool false), (44, .bool true), (56, .int .u64 (IntKind.wrap .u64 ((IntKind.wrap .u64 (256 * (256 * (256 * (256 * (256 * (z0 % 64) + z1) + z2) + z3) + z4))) + (IntKind.wrap .u64 z5))))]) (A2 := A) rfl (by kernel_rfl) ?_
          refine EO.cast (S2 := [(0, .slice (some ⟨b, o, none⟩) ((p ++ z0 :: z1 :: z2 :: z3 :: z4 :: z5 :: z6 :: z7 :: r7).length) cap), (1, .int .i64 ((k : Nat) : Int)), (4, .int .u64 0), (5, .int .i64 0), (6, .int .i64 8), (7, .int .i64 3), (8, .int .u64 (256 * (256 * (256 * (256 * (z0 % 64) + z1) + z2) + z3) + z4)), (9, .int .i64 5), (17, .bool false), (25, .bool false), (35, .bool false), (44, .bool true), (56, .int .u64 (256 * (256 * (256 * (256 * (256 * (z0 % 64) + z1) + z2) + z3) + z4) + z5))]) (by rw [mul_step (x := 256 * (256 * (256 * (256 * (z0 % 64) + z1) + z2) + z3) + z4) (by omega) (by omega) hz5]) ?_
          refine EO.run 11 [0, 1, 4, 5, 6, 7, 8, 9, 17, 25, 35, 44] (S2 := [(0, .slice (some ⟨b, o, none⟩) ((p ++ z0 :: z1 :: z2 :: z3 :: z4 :: z5 :: z6 :: z7 :: r7).length) cap), (1, .int .i64 ((k : Nat) : Int)), (4, .int .u64 0), (5, .int .i64 0), (6, .int .i64 8), (7, .int .i64 3), (8, .int .u64 (256 * (256 * (256 * (256 * (256 * (z0 % 64) + z1) + z2) + z3) + z4) + z5)), (9, .int .i64 5), (17, .bool false), (25, .bool false), (35, .bool false), (44, .bool true)]) (A2 := A) rfl (by kernel_rfl) ?_
          refine EO.done rfl ?_
          refine blockQ_n ?_
          refine thenJ_n ?_
          refine J.region ?_
          refine EO.run 3 [0, 1, 4, 5, 6, 7, 8, 9, 17, 25, 35, 44] (S2 := [(0, .slice (some ⟨b, o, none⟩) ((p ++ z0 :: z1 :: z2 :: z3 :: z4 :: z5 :: z6 :: z7 :: r7).length) cap), (1, .int .i64 ((k : Nat) : Int)), (4, .int .u64 0), (5, .int .i64 0), (6, .int .i64 8), (7, .int .i64 3), (8, .int .u64 (256 * (256 * (256 * (256 * (256 * (z0 % 64) + z1) + z2) + z3) + z4) + z5)), (9, .int .i64 6), (17, .bool false), (25, .bool false), (35, .bool false), (44, .bool true)]) (A2 := A) rfl (by kernel_rfl) ?_
          refine EO.done rfl ?_
          refine loopQ_n ?_
          refine JL.step ?_
          refine J.seq ?_
          refine J.sr ?_
          refine EO.run 3 [0, 1, 4, 5, 6, 7, 8, 9, 17, 25, 35, 44] (S2 := [(0, .slice (some ⟨b, o, none⟩) ((p ++ z0 :: z1 :: z2 :: z3 :: z4 :: z5 :: z6 :: z7 :: r7).length) cap), (1, .int .i64 ((k : Nat) : Int)), (4, .int .u64 0), (5, .int .i64 0), (6, .int .i64 8), (7, .int .i64 3), (8, .int .u64 (256 * (256 * (256 * (256 * (256 * (z0 % 64) + z1) + z2) + z3) + z4) + z5)), (9, .int .i64 6), (17, .bool false), (25, .bool false), (35, .bool false), (44, .bool true)]) (A2 := A) rfl (by kernel_rfl) ?_
          refine EO.done rfl ?_
          refine J.cond true (by kernel_rfl) (fun _ => ?_) (fun h => Bool.noConfusion h)
          refine J.skip ?_
          refine thenJ_n ?_
          refine J.seq ?_
          refine J.block ?_
          refine J.region ?_
          refine EO.run 6 [0, 1, 4, 5, 6, 7, 8, 9, 17, 25, 35, 44, 48, 49, 52] (S2 := [(0, .slice (some ⟨b, o, none⟩) ((p ++ z0 :: z1 :: z2 :: z3 :: z4 :: z5 :: z6 :: z7 :: r7).length) cap), (1, .int .i64 ((k : Nat) : Int)), (4, .int .u64 0), (5, .int .i64 0), (6, .int .i64 8), (7, .int .i64 3), (8, .int .u64 (256 * (256 * (256 * (256 * (256 * (z0 % 64) + z1) + z2) + z3) + z4) + z5)), (9, .int .i64 6), (17, .bool false), (25, .bool false), (35, .bool false), (44, .bool true), (48, .int .u64 (IntKind.wrap .u64 (256 * (256 * (256 * (256 * (256 * (256 * (z0 % 64) + z1) + z2) + z3) + z4) + z5)))), (49, .slice (some ⟨b, o, none⟩) ((p ++ z0 :: z1 :: z2 :: z3 :: z4 :: z5 :: z6 :: z7 :: r7).length) cap), (52, .int .i64 (IntKind.wrap .i64 (((k : Nat) : Int) + 6)))]) (A2 := A) rfl (by kernel_rfl) ?_
          refine EO.cast (S2 := [(0, .slice (some ⟨b, o, none⟩) ((p ++ z0 :: z1 :: z2 :: z3 :: z4 :: z5 :: z6 :: z7 :: r7).length) cap), (1, .int .i64 ((k : Nat) : Int)), (4, .int .u64 0), (5, .int .i64 0), (6, .int .i64 8), (7, .int .i64 3), (8, .int .u64 (256 * (256 * (256 * (256 * (256 * (z0 % 64) + z1) + z2) + z3) + z4) + z5)), (9, .int .i64 6), (17, .bool false), (25, .bool false), (35, .bool false), (44, .bool true), (48, .int .u64 (IntKind.wrap .u64 (256 * (256 * (256 * (256 * (256 * (256 * (z0 % 64) + z1) + z2) + z3) + z4) + z5)))), (49, .slice (some ⟨b, o, none⟩) ((p ++ z0 :: z1 :: z2 :: z3 :: z4 :: z5 :: z6 :: z7 :: r7).length) cap), (52, .int .i64 ((k + 6 : Nat) : Int))]) (by rw [show (IntKind.wrap .i64 (((k : Nat) : Int) + 6) : Int) = ((k + 6 : Nat) : Int) from by rw [wrap_i64 (by omega) (by omega)]; omega]) ?_
          refine EO.index (v := .slice (some ⟨b, o, none⟩) ((p ++ z0 :: z1 :: z2 :: z3 :: z4 :: z5 :: z6 :: z7 :: r7).length) cap) (u := .int .i64 (Int.ofNat (k + 6))) (w := .pointer (some ⟨b, o + (k + 6) * 1, none⟩)) rfl rfl rfl (by kernel_rfl) (by kernel_rfl) (by kernel_rfl) (aindexAddr_slice (elem := 5) (size := 1) (by kernel_rfl) (by kernel_rfl) (by simp only [List.length_append, List.length_cons] at *; omega)) ?_
          refine EO.load (ad := ⟨b, o + (k + 6) * 1, none⟩) (w := .int .u8 z6) rfl rfl rfl (by kernel_rfl) (by kernel_rfl) (hr.load (by kernel_rfl) (by rw [List.getElem?_append_right (by omega), show k + 6 - p.length = 6 from by omega]; rfl)) ?_
          refine EO.run 10 [0, 1, 4, 5, 6, 7, 8, 9, 17, 25, 35, 44, 56] (S2 := [(0, .slice (some ⟨b, o, none⟩) ((p ++ z0 :: z1 :: z2 :: z3 :: z4 :: z5 :: z6 :: z7 :: r7).length) cap), (1, .int .i64 ((k : Nat) : Int)), (4, .int .u64 0), (5, .int .i64 0), (6, .int .i64 8), (7, .int .i64 3), (8, .int .u64 (256 * (256 * (256 * (256 * (256 * (z0 % 64) + z1) + z2) + z3) + z4) + z5)), (9, .int .i64 6), (17, .bool false), (25, .bool false), (35, .bool false), (44, .bool true), (56, .int .u64 (IntKind.wrap .u64 ((IntKind.wrap .u64 (256 * (256 * (256 * (256 * (256 * (256 * (z0 % 64) + z1) + z2) + z3) + z4) + z5))) + (IntKind.wrap .u64 z6))))]) (A2 := A) rfl (by kernel_rfl) ?_
          refine EO.cast (S2 := [(0, .slice (some ⟨b, o, none⟩) ((p ++ z0 :: z1 :: z2 :: z3 :: z4 :: z5 :: z6 :: z7 :: r7).length) cap), (1, .int .i64 ((k : Nat) : Int)), (4, .int .u64 0), (5, .int .i64 0), (6, .int .i64 8), (7, .int .i64 3), (8, .int .u64 (256 * (256 * (256 * (256 * (256 * (z0 % 64) + z1) + z2) + z3) + z4) + z5)), (9, .int .i64 6), (17, .bool false), (25, .bool false), (35, .bool false), (44, .bool true), (56, .int .u64 (256 * (256 * (256 * (256 * (256 * (256 * (z0 % 64) + z1) + z2) + z3) + z4) + z5) + z6))]) (by rw [mul_step (x := 256 * (256 * (256 * (256 * (256 * (z0 % 64) + z1) + z2) + z3) + z4) + z5) (by omega) (by omega) hz6]) ?_
          refine EO.run 11 [0, 1, 4, 5, 6, 7, 8, 9, 17, 25, 35, 44] (S2 := [(0, .slice (some ⟨b, o, none⟩) ((p ++ z0 :: z1 :: z2 :: z3 :: z4 :: z5 :: z6 :: z7 :: r7).length) cap), (1, .int .i64 ((k : Nat) : Int)), (4, .int .u64 0), (5, .int .i64 0), (6, .int .i64 8), (7, .int .i64 3), (8, .int .u64 (256 * (256 * (256 * (256 * (256 * (256 * (z0 % 64) + z1) + z2) + z3) + z4) + z5) + z6)), (9, .int .i64 6), (17, .bool false), (25, .bool false), (35, .bool false), (44, .bool true)]) (A2 := A) rfl (by kernel_rfl) ?_
          refine EO.done rfl ?_
          refine blockQ_n ?_
          refine thenJ_n ?_
          refine J.region ?_
          refine EO.run 3 [0, 1, 4, 5, 6, 7, 8, 9, 17, 25, 35, 44] (S2 := [(0, .slice (some ⟨b, o, none⟩) ((p ++ z0 :: z1 :: z2 :: z3 :: z4 :: z5 :: z6 :: z7 :: r7).length) cap), (1, .int .i64 ((k : Nat) : Int)), (4, .int .u64 0), (5, .int .i64 0), (6, .int .i64 8), (7, .int .i64 3), (8, .int .u64 (256 * (256 * (256 * (256 * (256 * (256 * (z0 % 64) + z1) + z2) + z3) + z4) + z5) + z6)), (9, .int .i64 7), (17, .bool false), (25, .bool false), (35, .bool false), (44, .bool true)]) (A2 := A) rfl (by kernel_rfl) ?_
          refine EO.done rfl ?_
          refine loopQ_n ?_
          refine JL.step ?_
          refine J.seq ?_
          refine J.sr ?_
          refine EO.run 3 [0, 1, 4, 5, 6, 7, 8, 9, 17, 25, 35, 44] (S2 := [(0, .slice (some ⟨b, o, none⟩) ((p ++ z0 :: z1 :: z2 :: z3 :: z4 :: z5 :: z6 :: z7 :: r7).length) cap), (1, .int .i64 ((k : Nat) : Int)), (4, .int .u64 0), (5, .int .i64 0), (6, .int .i64 8), (7, .int .i64 3), (8, .int .u64 (256 * (256 * (256 * (256 * (256 * (256 * (z0 % 64) + z1) + z2) + z3) + z4) + z5) + z6)), (9, .int .i64 7), (17, .bool false), (25, .bool false), (35, .bool false), (44, .bool true)]) (A2 := A) rfl (by kernel_rfl) ?_
          refine EO.done rfl ?_
          refine J.cond true (by kernel_rfl) (fun _ => ?_) (fun h => Bool.noConfusion h)
          refine J.skip ?_
          refine thenJ_n ?_
          refine J.seq ?_
          refine J.block ?_
          refine J.region ?_
          refine EO.run 6 [0, 1, 4, 5, 6, 7, 8, 9, 17, 25, 35, 44, 48, 49, 52] (S2 := [(0, .slice (some ⟨b, o, none⟩) ((p ++ z0 :: z1 :: z2 :: z3 :: z4 :: z5 :: z6 :: z7 :: r7).length) cap), (1, .int .i64 ((k : Nat) : Int)), (4, .int .u64 0), (5, .int .i64 0), (6, .int .i64 8), (7, .int .i64 3), (8, .int .u64 (256 * (256 * (256 * (256 * (256 * (256 * (z0 % 64) + z1) + z2) + z3) + z4) + z5) + z6)), (9, .int .i64 7), (17, .bool false), (25, .bool false), (35, .bool false), (44, .bool true), (48, .int .u64 (IntKind.wrap .u64 (256 * (256 * (256 * (256 * (256 * (256 * (256 * (z0 % 64) + z1) + z2) + z3) + z4) + z5) + z6)))), (49, .slice (some ⟨b, o, none⟩) ((p ++ z0 :: z1 :: z2 :: z3 :: z4 :: z5 :: z6 :: z7 :: r7).length) cap), (52, .int .i64 (IntKind.wrap .i64 (((k : Nat) : Int) + 7)))]) (A2 := A) rfl (by kernel_rfl) ?_
          refine EO.cast (S2 := [(0, .slice (some ⟨b, o, none⟩) ((p ++ z0 :: z1 :: z2 :: z3 :: z4 :: z5 :: z6 :: z7 :: r7).length) cap), (1, .int .i64 ((k : Nat) : Int)), (4, .int .u64 0), (5, .int .i64 0), (6, .int .i64 8), (7, .int .i64 3), (8, .int .u64 (256 * (256 * (256 * (256 * (256 * (256 * (z0 % 64) + z1) + z2) + z3) + z4) + z5) + z6)), (9, .int .i64 7), (17, .bool false), (25, .bool false), (35, .bool false), (44, .bool true), (48, .int .u64 (IntKind.wrap .u64 (256 * (256 * (256 * (256 * (256 * (256 * (256 * (z0 % 64) + z1) + z2) + z3) + z4) + z5) + z6)))), (49, .slice (some ⟨b, o, none⟩) ((p ++ z0 :: z1 :: z2 :: z3 :: z4 :: z5 :: z6 :: z7 :: r7).length) cap), (52, .int .i64 ((k + 7 : Nat) : Int))]) (by rw [show (IntKind.wrap .i64 (((k : Nat) : Int) + 7) : Int) = ((k + 7 : Nat) : Int) from by rw [wrap_i64 (by omega) (by omega)]; omega]) ?_
          refine EO.index (v := .slice (some ⟨b, o, none⟩) ((p ++ z0 :: z1 :: z2 :: z3 :: z4 :: z5 :: z6 :: z7 :: r7).length) cap) (u := .int .i64 (Int.ofNat (k + 7))) (w := .pointer (some ⟨b, o + (k + 7) * 1, none⟩)) rfl rfl rfl (by kernel_rfl) (by kernel_rfl) (by kernel_rfl) (aindexAddr_slice (elem := 5) (size := 1) (by kernel_rfl) (by kernel_rfl) (by simp only [List.length_append, List.length_cons] at *; omega)) ?_
          refine EO.load (ad := ⟨b, o + (k + 7) * 1, none⟩) (w := .int .u8 z7) rfl rfl rfl (by kernel_rfl) (by kernel_rfl) (hr.load (by kernel_rfl) (by rw [List.getElem?_append_right (by omega), show k + 7 - p.length = 7 from by omega]; rfl)) ?_
          refine EO.run 10 [0, 1, 4, 5, 6, 7, 8, 9, 17, 25, 35, 44, 56] (S2 := [(0, .slice (some ⟨b, o, none⟩) ((p ++ z0 :: z1 :: z2 :: z3 :: z4 :: z5 :: z6 :: z7 :: r7).length) cap), (1, .int .i64 ((k : Nat) : Int)), (4, .int .u64 0), (5, .int .i64 0), (6, .int .i64 8), (7, .int .i64 3), (8, .int .u64 (256 * (256 * (256 * (256 * (256 * (256 * (z0 % 64) + z1) + z2) + z3) + z4) + z5) + z6)), (9, .int .i64 7), (17, .bool false), (25, .bool false), (35, .bool false), (44, .bool true), (56, .int .u64 (IntKind.wrap .u64 ((IntKind.wrap .u64 (256 * (256 * (256 * (256 * (256 * (256 * (256 * (z0 % 64) + z1) + z2) + z3) + z4) + z5) + z6))) + (IntKind.wrap .u64 z7))))]) (A2 := A) rfl (by kernel_rfl) ?_
          refine EO.cast (S2 := [(0, .slice (some ⟨b, o, none⟩) ((p ++ z0 :: z1 :: z2 :: z3 :: z4 :: z5 :: z6 :: z7 :: r7).length) cap), (1, .int .i64 ((k : Nat) : Int)), (4, .int .u64 0), (5, .int .i64 0), (6, .int .i64 8), (7, .int .i64 3), (8, .int .u64 (256 * (256 * (256 * (256 * (256 * (256 * (z0 % 64) + z1) + z2) + z3) + z4) + z5) + z6)), (9, .int .i64 7), (17, .bool false), (25, .bool false), (35, .bool false), (44, .bool true), (56, .int .u64 (256 * (256 * (256 * (256 * (256 * (256 * (256 * (z0 % 64) + z1) + z2) + z3) + z4) + z5) + z6) + z7))]) (by rw [mul_step (x := 256 * (256 * (256 * (256 * (256 * (256 * (z0 % 64) + z1) + z2) + z3) + z4) + z5) + z6) (by omega) (by omega) hz7]) ?_
          refine EO.run 11 [0, 1, 4, 5, 6, 7, 8, 9, 17, 25, 35, 44] (S2 := [(0, .slice (some ⟨b, o, none⟩) ((p ++ z0 :: z1 :: z2 :: z3 :: z4 :: z5 :: z6 :: z7 :: r7).length) cap), (1, .int .i64 ((k : Nat) : Int)), (4, .int .u64 0), (5, .int .i64 0), (6, .int .i64 8), (7, .int .i64 3), (8, .int .u64 (256 * (256 * (256 * (256 * (256 * (256 * (256 * (z0 % 64) + z1) + z2) + z3) + z4) + z5) + z6) + z7)), (9, .int .i64 7), (17, .bool false), (25, .bool false), (35, .bool false), (44, .bool true)]) (A2 := A) rfl (by kernel_rfl) ?_
          refine EO.done rfl ?_
          refine blockQ_n ?_
          refine thenJ_n ?_
          refine J.region ?_
          refine EO.run 3 [0, 1, 4, 5, 6, 7, 8, 9, 17, 25, 35, 44] (S2 := [(0, .slice (some ⟨b, o, none⟩) ((p ++ z0 :: z1 :: z2 :: z3 :: z4 :: z5 :: z6 :: z7 :: r7).length) cap), (1, .int .i64 ((k : Nat) : Int)), (4, .int .u64 0), (5, .int .i64 0), (6, .int .i64 8), (7, .int .i64 3), (8, .int .u64 (256 * (256 * (256 * (256 * (256 * (256 * (256 * (z0 % 64) + z1) + z2) + z3) + z4) + z5) + z6) + z7)), (9, .int .i64 8), (17, .bool false), (25, .bool false), (35, .bool false), (44, .bool true)]) (A2 := A) rfl (by kernel_rfl) ?_
          refine EO.done rfl ?_
          refine loopQ_n ?_
          refine JL.step ?_
          refine J.seq ?_
          refine J.sr ?_
          refine EO.run 3 [0, 1, 4, 5, 6, 7, 8, 9, 17, 25, 35, 44] (S2 := [(0, .slice (some ⟨b, o, none⟩) ((p ++ z0 :: z1 :: z2 :: z3 :: z4 :: z5 :: z6 :: z7 :: r7).length) cap), (1, .int .i64 ((k : Nat) : Int)), (4, .int .u64 0), (5, .int .i64 0), (6, .int .i64 8), (7, .int .i64 3), (8, .int .u64 (256 * (256 * (256 * (256 * (256 * (256 * (256 * (z0 % 64) + z1) + z2) + z3) + z4) + z5) + z6) + z7)), (9, .int .i64 8), (17, .bool false), (25, .bool false), (35, .bool false), (44, .bool false)]) (A2 := A) rfl (by kernel_rfl) ?_
          refine EO.done rfl ?_
          refine J.cond false (by kernel_rfl) (fun h => Bool.noConfusion h) (fun _ => ?_)
          refine J.exit ?_
          refine thenJ_e ?_
          refine loopQ_e ?_
          refine blockQ_hit ?_
          refine thenJ_n ?_
          refine J.sr ?_
          refine EO.run 4 [0, 1, 4, 5, 6, 7, 8, 9, 17, 25, 35, 44, 57, 60] (S2 := [(0, .slice (some ⟨b, o, none⟩) ((p ++ z0 :: z1 :: z2 :: z3 :: z4 :: z5 :: z6 :: z7 :: r7).length) cap), (1, .int .i64 ((k : Nat) : Int)), (4, .int .u64 0), (5, .int .i64 0), (6, .int .i64 8), (7, .int .i64 3), (8, .int .u64 (256 * (256 * (256 * (256 * (256 * (256 * (256 * (z0 % 64) + z1) + z2) + z3) + z4) + z5) + z6) + z7)), (9, .int .i64 8), (17, .bool false), (25, .bool false), (35, .bool false), (44, .bool false), (57, .int .u64 (256 * (256 * (256 * (256 * (256 * (256 * (256 * (z0 % 64) + z1) + z2) + z3) + z4) + z5) + z6) + z7)), (60, .int .i64 (IntKind.wrap .i64 (((k : Nat) : Int) + 8)))]) (A2 := A) rfl (by kernel_rfl) ?_
          refine EO.cast (S2 := [(0, .slice (some ⟨b, o, none⟩) ((p ++ z0 :: z1 :: z2 :: z3 :: z4 :: z5 :: z6 :: z7 :: r7).length) cap), (1, .int .i64 ((k : Nat) : Int)), (4, .int .u64 0), (5, .int .i64 0), (6, .int .i64 8), (7, .int .i64 3), (8, .int .u64 (256 * (256 * (256 * (256 * (256 * (256 * (256 * (z0 % 64) + z1) + z2) + z3) + z4) + z5) + z6) + z7)), (9, .int .i64 8), (17, .bool false), (25, .bool false), (35, .bool false), (44, .bool false), (57, .int .u64 (256 * (256 * (256 * (256 * (256 * (256 * (256 * (z0 % 64) + z1) + z2) + z3) + z4) + z5) + z6) + z7)), (60, .int .i64 ((k + 8 : Nat) : Int))]) (by rw [show (IntKind.wrap .i64 (((k : Nat) : Int) + 8) : Int) = ((k + 8 : Nat) : Int) from by rw [wrap_i64 (by omega) (by omega)]; omega]) ?_
          refine EO.run 6 [0, 1, 4, 5, 6, 7, 8, 9, 17, 25, 35, 44] (S2 := [(0, .slice (some ⟨b, o, none⟩) ((p ++ z0 :: z1 :: z2 :: z3 :: z4 :: z5 :: z6 :: z7 :: r7).length) cap), (1, .int .i64 ((k : Nat) : Int)), (4, .int .u64 (256 * (256 * (256 * (256 * (256 * (256 * (256 * (z0 % 64) + z1) + z2) + z3) + z4) + z5) + z6) + z7)), (5, .int .i64 ((k + 8 : Nat) : Int)), (6, .int .i64 8), (7, .int .i64 3), (8, .int .u64 (256 * (256 * (256 * (256 * (256 * (256 * (256 * (z0 % 64) + z1) + z2) + z3) + z4) + z5) + z6) + z7)), (9, .int .i64 8), (17, .bool false), (25, .bool false), (35, .bool false), (44, .bool false)]) (A2 := A) rfl (by kernel_rfl) ?_
          refine EO.done rfl ?_
          refine J.ret ?_
          refine Ends_r (vs := [.int .u64 (256 * (256 * (256 * (256 * (256 * (256 * (256 * (z0 % 64) + z1) + z2) + z3) + z4) + z5) + z6) + z7), .int .i64 ((k + 8 : Nat) : Int)]) (by kernel_rfl) ?_
          exact ⟨by unfold refV; rw [refOf_long hpk hu hl]; rfl, rfl⟩
end
end Go.Proofs.Ytioggedadamoaaa
