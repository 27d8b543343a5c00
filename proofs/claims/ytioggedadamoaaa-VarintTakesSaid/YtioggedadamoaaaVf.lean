/- hostlerlaw01.VarintTakes: the walk over the abstract machine. -/
import Derived.Test.YtioggedadamoaaaVe
set_option autoImplicit false
set_option linter.unusedVariables false
set_option linter.unusedSimpArgs false
namespace Go.Proofs.Ytioggedadamoaaa
open Go.Abs Go.RowKit

section
variable {pre : FuncId → Option (List Value → AW → Option (Value × AW))} {dr : CallF → Array Oper → Array Value → AW → Option (Array Value × AW)} {A : AW} {m : Nat}


theorem takeOf_bad {zs : List Int} (h : (takeOf zs).2.2 = false) : takeOf zs = (0, 0, false) := by
  cases zs with
  | nil => rfl
  | cons z r =>
    by_cases hl : r.length + 1 < 2 ^ (z / 64).toNat
    · exact takeOf_short rfl hl
    · rw [takeOf_long rfl hl] at h; simp at h

theorem f3_spec (hp : pre 3 = none) (hp10 : pre 10 = none) (hp11 : pre 11 = none) (hp12 : pre 12 = none) (hp13 : pre 13 = none) (hp25 : pre 25 = none) (hp26 : pre 26 = none)
    (hk : ∀ m A, acall Try.prog pre dr 100000 (m + 1) 9 [] A = some (.bool true, A)) {v : Value} {zs : List Int} (h : RowV A v zs) (hnx : A.nx = none) :
    ∃ A', acall Try.prog pre dr 100000 (m + 4) 3 [v] A = some (.bool true, A') := by
  suffices hs : ∃ v' A', acall Try.prog pre dr 100000 (m + 3 + 1) 3 [v] A = some (v', A') ∧ (v' = .bool true) by
    obtain ⟨v', A', e, rfl⟩ := hs
    exact ⟨A', e⟩
  have hk9 := hk (m + 2) A
  by_cases hbig : 3000 < zs.length
  · obtain ⟨a, cap, rfl⟩ := h.form
    refine J.fn (fn := Try.f3) hp Try.func3 rfl (Nat.le_of_ble_eq_true rfl) ?_
    refine J.sr ?_
    refine EO.run 1 [0, 2] (S2 := [(0, .slice a zs.length cap), (2, .bool false)]) (A2 := A) rfl (by kernel_rfl) ?_
    refine EO.done rfl ?_
    refine J.seq ?_
    refine J.sr ?_
    refine EO.fcall (f := 9) (vs := []) (v := .bool true) (A1 := A) rfl rfl rfl rfl (by kernel_rfl) (by kernel_rfl) (hk9) ?_
    refine EO.run 2 [0, 2, 13] (S2 := [(0, .slice a zs.length cap), (2, .bool false), (13, .bool false)]) (A2 := A) rfl (by kernel_rfl) ?_
    refine EO.done rfl ?_
    refine J.cond false (by kernel_rfl) (fun h => Bool.noConfusion h) (fun _ => ?_)
    refine J.skip ?_
    refine thenJ_n ?_
    refine J.seq ?_
    refine J.sr ?_
    refine EO.run 3 [0, 2, 13, 16] (S2 := [(0, .slice a zs.length cap), (2, .bool false), (13, .bool false), (16, .bool (decide (((zs.length : Nat) : Int) > 3000)))]) (A2 := A) rfl (by kernel_rfl) ?_
    refine EO.done rfl ?_
    have d1 : (decide (((zs.length : Nat) : Int) > 3000)) = true := decide_eq_true (by omega)
    rw [d1]
    refine J.cond true (by kernel_rfl) (fun _ => ?_) (fun h => Bool.noConfusion h)
    refine J.sr ?_
    refine EO.run 1 [0, 2, 13, 16] (S2 := [(0, .slice a zs.length cap), (2, .bool true), (13, .bool false), (16, .bool true)]) (A2 := A) rfl (by kernel_rfl) ?_
    refine EO.done rfl ?_
    refine J.ret ?_
    refine thenJ_r ?_
    refine Ends_r (vs := [.bool true]) (by kernel_rfl) ?_
    exact rfl
  · obtain ⟨A1, e10, hx1, hn1⟩ := f10_spec (pre := pre) (dr := dr) (m := m + 1) hp10 hp25 h hnx
    have h1 := h.ext hx1
    have e11 := f11_spec (pre := pre) (dr := dr) (m := m + 2) hp11 h1 (by omega) 0 (by omega)
    obtain ⟨A2, hA2, hxA2, hnA2, hgA2, hbA2⟩ := new_empty (A := A1) hn1
    have h2 := h1.ext hxA2
    obtain ⟨w1, A3, hA3, ⟨hrw1, how⟩, hxA3, hnA3⟩ := append_empty_own (P := Try.prog) (ats := #[22, 22]) (fun _ _ => by kernel_rfl) hgA2 h2 hbA2 rfl (by omega) hnA2
    have f12 := f12_spec (pre := pre) (dr := dr) (m := m) hp12 hp10 hp25 hrw1 hnA3 (by omega)
    have h3 := h2.ext hxA3
    obtain ⟨a, cap, hv⟩ := h.form
    unfold takeV at e10
    unfold refV at e11
    rcases how with hz0 | ⟨cap1, hw1, hown⟩
    · subst hz0
      have hpa : partAt [] 0 = none := rfl
      obtain ⟨A4, e12, hx4, hn4⟩ := f12.1 hpa
      have h4 := h3.ext hx4
      have e13 := (f13_spec (pre := pre) (dr := dr) (m := m + 1) hp13 hp11 hp26 h4 hn4 0 (by omega) (by simp)).1 hpa
      obtain ⟨a1, cap1, hw1⟩ := hrw1.form
      subst hw1
      subst hv
      refine J.fn (fn := Try.f3) hp Try.func3 rfl (Nat.le_of_ble_eq_true rfl) ?_
      refine J.sr ?_
      refine EO.run 1 [0, 2] (S2 := [(0, .slice a 0 cap), (2, .bool false)]) (A2 := A) rfl (by kernel_rfl) ?_
      refine EO.done rfl ?_
      refine J.seq ?_
      refine J.sr ?_
      refine EO.fcall (f := 9) (vs := []) (v := .bool true) (A1 := A) rfl rfl rfl rfl (by kernel_rfl) (by kernel_rfl) (hk9) ?_
      refine EO.run 2 [0, 2, 13] (S2 := [(0, .slice a 0 cap), (2, .bool false), (13, .bool false)]) (A2 := A) rfl (by kernel_rfl) ?_
      refine EO.done rfl ?_
      refine J.cond false (by kernel_rfl) (fun h => Bool.noConfusion h) (fun _ => ?_)
      refine J.skip ?_
      refine thenJ_n ?_
      refine J.seq ?_
      refine J.sr ?_
      refine EO.run 3 [0, 2, 13, 16] (S2 := [(0, .slice a 0 cap), (2, .bool false), (13, .bool false), (16, .bool false)]) (A2 := A) rfl (by kernel_rfl) ?_
      refine EO.done rfl ?_
      refine J.cond false (by kernel_rfl) (fun h => Bool.noConfusion h) (fun _ => ?_)
      refine J.skip ?_
      refine thenJ_n ?_
      refine J.sr ?_
      refine EO.run 1 [0, 2, 13, 16, 18] (S2 := [(0, .slice a 0 cap), (2, .bool false), (13, .bool false), (16, .bool false), (18, .slice a 0 cap)]) (A2 := A) rfl (by kernel_rfl) ?_
      refine EO.fcall (f := 10) (vs := [.slice a 0 cap]) (v := .tuple #[.int .u64 0, .int .i64 0, .bool false]) (A1 := A1) rfl rfl rfl rfl (by kernel_rfl) (by kernel_rfl) (e10) ?_
      refine EO.run 9 [0, 2, 3, 4, 5, 13, 16] (S2 := [(0, .slice a 0 cap), (2, .bool false), (3, .int .u64 0), (4, .int .i64 0), (5, .bool false), (13, .bool false), (16, .bool false)]) (A2 := A1) rfl (by kernel_rfl) ?_
      refine EO.done rfl ?_
      refine J.sr ?_
      refine EO.run 1 [0, 2, 3, 4, 5, 13, 16, 24] (S2 := [(0, .slice a 0 cap), (2, .bool false), (3, .int .u64 0), (4, .int .i64 0), (5, .bool false), (13, .bool false), (16, .bool false), (24, .slice a 0 cap)]) (A2 := A1) rfl (by kernel_rfl) ?_
      refine EO.fcall (f := 11) (vs := [.slice a 0 cap, .int .i64 0]) (v := .tuple #[.int .u64 0, .int .i64 (-1)]) (A1 := A1) rfl rfl rfl rfl (by kernel_rfl) (by kernel_rfl) (e11) ?_
      refine EO.run 7 [0, 2, 3, 4, 5, 6, 7, 13, 16] (S2 := [(0, .slice a 0 cap), (2, .bool false), (3, .int .u64 0), (4, .int .i64 0), (5, .bool false), (6, .int .u64 0), (7, .int .i64 (-1)), (13, .bool false), (16, .bool false)]) (A2 := A1) rfl (by kernel_rfl) ?_
      refine EO.done rfl ?_
      refine J.seq ?_
      refine J.sr ?_
      refine EO.run 2 [0, 2, 3, 4, 5, 6, 7, 13, 16, 29] (S2 := [(0, .slice a 0 cap), (2, .bool false), (3, .int .u64 0), (4, .int .i64 0), (5, .bool false), (6, .int .u64 0), (7, .int .i64 (-1)), (13, .bool false), (16, .bool false), (29, .bool true)]) (A2 := A1) rfl (by kernel_rfl) ?_
      refine EO.done rfl ?_
      refine J.cond true (by kernel_rfl) (fun _ => ?_) (fun h => Bool.noConfusion h)
      refine J.region ?_
      refine EO.run 1 [0, 2, 3, 4, 5, 6, 7, 13, 16, 29] (S2 := [(0, .slice a 0 cap), (2, .bool false), (3, .int .u64 0), (4, .int .i64 0), (5, .bool false), (6, .int .u64 0), (7, .int .i64 0), (13, .bool false), (16, .bool false), (29, .bool true)]) (A2 := A1) rfl (by kernel_rfl) ?_
      refine EO.done rfl ?_
      refine thenJ_n ?_
      refine J.seq ?_
      refine J.sr ?_
      refine EO.run 14 [0, 2, 3, 4, 5, 6, 7, 13, 16, 29, 43] (S2 := [(0, .slice a 0 cap), (2, .bool false), (3, .int .u64 0), (4, .int .i64 0), (5, .bool false), (6, .int .u64 0), (7, .int .i64 0), (13, .bool false), (16, .bool false), (29, .bool true), (43, .bool false)]) (A2 := A1) rfl (by kernel_rfl) ?_
      refine EO.done rfl ?_
      refine J.cond false (by kernel_rfl) (fun h => Bool.noConfusion h) (fun _ => ?_)
      refine J.skip ?_
      refine thenJ_n ?_
      refine J.sr ?_
      refine EO.run 1 [0, 2, 3, 4, 5, 6, 7, 13, 16, 29, 43, 44] (S2 := [(0, .slice a 0 cap), (2, .bool false), (3, .int .u64 0), (4, .int .i64 0), (5, .bool false), (6, .int .u64 0), (7, .int .i64 0), (13, .bool false), (16, .bool false), (29, .bool true), (43, .bool false), (44, .slice (some ⟨A1.nid, 0, none⟩) 0 0)]) (A2 := A1.push (.cells [] false false 1)) rfl (by kernel_rfl) ?_
      rw [hA2]
      refine EO.run 2 [0, 2, 3, 4, 5, 6, 7, 13, 16, 29, 43, 44, 45] (S2 := [(0, .slice a 0 cap), (2, .bool false), (3, .int .u64 0), (4, .int .i64 0), (5, .bool false), (6, .int .u64 0), (7, .int .i64 0), (13, .bool false), (16, .bool false), (29, .bool true), (43, .bool false), (44, .slice (some ⟨A1.nid, 0, none⟩) 0 0), (45, .slice a 0 cap)]) (A2 := A2) rfl (by kernel_rfl) ?_
      refine EO.append (v := .slice (some ⟨A1.nid, 0, none⟩) 0 0) (u := .slice a 0 cap) (w := .slice a1 0 cap1) (A1 := A3) rfl rfl rfl rfl rfl (by kernel_rfl) (by kernel_rfl) (by kernel_rfl) hA3 ?_
      refine EO.run 4 [0, 2, 3, 4, 5, 6, 7, 8, 13, 16, 29, 43] (S2 := [(0, .slice a 0 cap), (2, .bool false), (3, .int .u64 0), (4, .int .i64 0), (5, .bool false), (6, .int .u64 0), (7, .int .i64 0), (8, .slice a1 0 cap1), (13, .bool false), (16, .bool false), (29, .bool true), (43, .bool false)]) (A2 := A3) rfl (by kernel_rfl) ?_
      refine EO.done rfl ?_
      refine J.sr ?_
      refine EO.run 1 [0, 2, 3, 4, 5, 6, 7, 8, 13, 16, 29, 43, 48] (S2 := [(0, .slice a 0 cap), (2, .bool false), (3, .int .u64 0), (4, .int .i64 0), (5, .bool false), (6, .int .u64 0), (7, .int .i64 0), (8, .slice a1 0 cap1), (13, .bool false), (16, .bool false), (29, .bool true), (43, .bool false), (48, .slice a1 0 cap1)]) (A2 := A3) rfl (by kernel_rfl) ?_
      refine EO.fcall (f := 12) (vs := [.slice a1 0 cap1]) (v := .tuple #[.slice none 0 0, .int .i64 0, .bool false]) (A1 := A4) rfl rfl rfl rfl (by kernel_rfl) (by kernel_rfl) (e12) ?_
      refine EO.run 9 [0, 2, 3, 4, 5, 6, 7, 8, 9, 13, 16, 29, 43] (S2 := [(0, .slice a 0 cap), (2, .bool false), (3, .int .u64 0), (4, .int .i64 0), (5, .bool false), (6, .int .u64 0), (7, .int .i64 0), (8, .slice a1 0 cap1), (9, .slice none 0 0), (13, .bool false), (16, .bool false), (29, .bool true), (43, .bool false)]) (A2 := A4) rfl (by kernel_rfl) ?_
      refine EO.done rfl ?_
      refine J.seq ?_
      refine J.sr ?_
      refine EO.run 3 [0, 2, 3, 4, 5, 6, 7, 8, 9, 13, 16, 29, 43, 54, 55] (S2 := [(0, .slice a 0 cap), (2, .bool false), (3, .int .u64 0), (4, .int .i64 0), (5, .bool false), (6, .int .u64 0), (7, .int .i64 0), (8, .slice a1 0 cap1), (9, .slice none 0 0), (13, .bool false), (16, .bool false), (29, .bool true), (43, .bool false), (54, .int .i64 0), (55, .int .i64 0)]) (A2 := A4) rfl (by kernel_rfl) ?_
      refine EO.done rfl ?_
      refine J.block ?_
      refine J.unroll ?_
      refine JL.step ?_
      refine J.sr ?_
      refine EO.run 1 [0, 2, 3, 4, 5, 6, 7, 8, 9, 13, 16, 29, 43, 54, 55, 56] (S2 := [(0, .slice a 0 cap), (2, .bool false), (3, .int .u64 0), (4, .int .i64 0), (5, .bool false), (6, .int .u64 0), (7, .int .i64 0), (8, .slice a1 0 cap1), (9, .slice none 0 0), (13, .bool false), (16, .bool false), (29, .bool true), (43, .bool false), (54, .int .i64 0), (55, .int .i64 0), (56, .bool false)]) (A2 := A4) rfl (by kernel_rfl) ?_
      refine EO.done rfl ?_
      refine J.seq ?_
      refine J.cond false (by kernel_rfl) (fun h => Bool.noConfusion h) (fun _ => ?_)
      refine J.exit ?_
      refine thenJ_e ?_
      refine loopQ_e ?_
      refine blockQ_hit ?_
      refine thenJ_n ?_
      refine J.sr ?_
      refine EO.run 1 [0, 2, 3, 4, 5, 6, 7, 8, 9, 13, 16, 29, 43, 54, 55, 56, 66] (S2 := [(0, .slice a 0 cap), (2, .bool false), (3, .int .u64 0), (4, .int .i64 0), (5, .bool false), (6, .int .u64 0), (7, .int .i64 0), (8, .slice a1 0 cap1), (9, .slice none 0 0), (13, .bool false), (16, .bool false), (29, .bool true), (43, .bool false), (54, .int .i64 0), (55, .int .i64 0), (56, .bool false), (66, .slice a 0 cap)]) (A2 := A4) rfl (by kernel_rfl) ?_
      refine EO.fcall (f := 13) (vs := [.slice a 0 cap, .int .i64 0]) (v := .tuple #[.slice none 0 0, .int .i64 (-1)]) (A1 := A4) rfl rfl rfl rfl (by kernel_rfl) (by kernel_rfl) (e13) ?_
      refine EO.run 7 [0, 2, 3, 4, 5, 6, 7, 8, 9, 11, 13, 16, 29, 43, 54, 55, 56] (S2 := [(0, .slice a 0 cap), (2, .bool false), (3, .int .u64 0), (4, .int .i64 0), (5, .bool false), (6, .int .u64 0), (7, .int .i64 (-1)), (8, .slice a1 0 cap1), (9, .slice none 0 0), (11, .slice none 0 0), (13, .bool false), (16, .bool false), (29, .bool true), (43, .bool false), (54, .int .i64 0), (55, .int .i64 0), (56, .bool false)]) (A2 := A4) rfl (by kernel_rfl) ?_
      refine EO.done rfl ?_
      refine J.sr ?_
      refine EO.run 1 [0, 2, 3, 4, 5, 6, 7, 8, 9, 11, 13, 16, 29, 43, 54, 55, 56, 70] (S2 := [(0, .slice a 0 cap), (2, .bool false), (3, .int .u64 0), (4, .int .i64 0), (5, .bool false), (6, .int .u64 0), (7, .int .i64 (-1)), (8, .slice a1 0 cap1), (9, .slice none 0 0), (11, .slice none 0 0), (13, .bool false), (16, .bool false), (29, .bool true), (43, .bool false), (54, .int .i64 0), (55, .int .i64 0), (56, .bool false), (70, .slice none 0 0)]) (A2 := A4) rfl (by kernel_rfl) ?_
      refine EO.convert (v := .slice none 0 0) (w := .string (strFrom ByteArray.empty ([]))) (A1 := A4) rfl rfl rfl (by kernel_rfl) (by kernel_rfl) (((show RowV A4 (.slice none 0 0) [] from .inl ⟨rfl, rfl⟩)).toStr (e := 5) (by kernel_rfl) (by kernel_rfl) (by kernel_rfl)) ?_
      refine EO.run 3 [0, 2, 3, 4, 5, 6, 7, 8, 9, 11, 13, 16, 29, 43, 54, 55, 56, 71, 72] (S2 := [(0, .slice a 0 cap), (2, .bool false), (3, .int .u64 0), (4, .int .i64 0), (5, .bool false), (6, .int .u64 0), (7, .int .i64 (-1)), (8, .slice a1 0 cap1), (9, .slice none 0 0), (11, .slice none 0 0), (13, .bool false), (16, .bool false), (29, .bool true), (43, .bool false), (54, .int .i64 0), (55, .int .i64 0), (56, .bool false), (71, .string (strFrom ByteArray.empty ([]))), (72, .slice none 0 0)]) (A2 := A4) rfl (by kernel_rfl) ?_
      refine EO.convert (v := .slice none 0 0) (w := .string (strFrom ByteArray.empty ([]))) (A1 := A4) rfl rfl rfl (by kernel_rfl) (by kernel_rfl) (((show RowV A4 (.slice none 0 0) [] from .inl ⟨rfl, rfl⟩)).toStr (e := 5) (by kernel_rfl) (by kernel_rfl) (by kernel_rfl)) ?_
      refine EO.run 6 [0, 2, 3, 4, 5, 6, 7, 8, 9, 11, 13, 16, 29, 43, 54, 55, 56, 75] (S2 := [(0, .slice a 0 cap), (2, .bool false), (3, .int .u64 0), (4, .int .i64 0), (5, .bool false), (6, .int .u64 0), (7, .int .i64 (-1)), (8, .slice a1 0 cap1), (9, .slice none 0 0), (11, .slice none 0 0), (13, .bool false), (16, .bool false), (29, .bool true), (43, .bool false), (54, .int .i64 0), (55, .int .i64 0), (56, .bool false), (75, .bool ((strFrom ByteArray.empty ([])).toList == (strFrom ByteArray.empty ([])).toList))]) (A2 := A4) rfl (by kernel_rfl) ?_
      have d1 : ((strFrom ByteArray.empty ([])).toList == (strFrom ByteArray.empty ([])).toList) = true := beq_refl' rfl
      rw [d1]
      refine EO.run 9 [0, 2, 3, 4, 5, 6, 7, 8, 9, 11, 13, 16, 29, 43, 54, 55, 56, 75, 76, 78] (S2 := [(0, .slice a 0 cap), (2, .bool false), (3, .int .u64 0), (4, .int .i64 0), (5, .bool false), (6, .int .u64 0), (7, .int .i64 (-1)), (8, .slice a1 0 cap1), (9, .slice none 0 0), (11, .slice none 0 0), (13, .bool false), (16, .bool false), (29, .bool true), (43, .bool false), (54, .int .i64 0), (55, .int .i64 0), (56, .bool false), (75, .bool true), (76, .int .i64 0), (78, .int .i64 0)]) (A2 := A4) rfl (by kernel_rfl) ?_
      refine EO.run 18 [0, 2, 3, 4, 5, 6, 7, 8, 9, 11, 13, 16, 29, 43, 54, 55, 56] (S2 := [(0, .slice a 0 cap), (2, .bool true), (3, .int .u64 0), (4, .int .i64 0), (5, .bool false), (6, .int .u64 0), (7, .int .i64 (-1)), (8, .slice a1 0 cap1), (9, .slice none 0 0), (11, .slice none 0 0), (13, .bool false), (16, .bool false), (29, .bool true), (43, .bool false), (54, .int .i64 0), (55, .int .i64 0), (56, .bool false)]) (A2 := A4) rfl (by kernel_rfl) ?_
      refine EO.done rfl ?_
      refine J.ret ?_
      refine Ends_r (vs := [.bool true]) (by kernel_rfl) ?_
      exact rfl
    · subst hw1
      have ne2 : A1.nid < A2.size := hbA2
      have hown3 := hown
      have hlt : ∀ {b o c : Nat} {l : List Int} {B : AW}, Row A b o c l → b ≠ A2.nid := fun hr => by
        have h1 := hr.lt
        have h2 := hx1.size
        have h3 := hxA2.size
        rw [nid_none hnA2]; omega
      rcases partAt_cases h.byte 0 with ⟨hok, hpa⟩ | ⟨n, u, htk, hn, hku, hpa0⟩
      ·
        rw [List.drop_zero] at hok
        have htk := takeOf_bad hok
        have hrf : refOf zs 0 = (0, -1) := by unfold refOf; rw [List.drop_zero, hok]; rfl
        rw [htk] at e10
        rw [hrf] at e11
        obtain ⟨A4, e12, hx4, hn4⟩ := f12.1 hpa
        have hown4 := hown.ext hx4
        have h4m : ∀ {B : AW}, AMod A4 A2.nid B → RowV B v zs := fun {B} hM => by
          rcases h with ⟨q1, q2⟩ | ⟨b, o, c, q1, q2⟩
          · exact .inl ⟨q1, q2⟩
          · exact .inr ⟨b, o, c, q1, ((((q2.ext hx1).ext hxA2).ext hxA3).ext hx4).mod hM (hlt (B := A) q2)⟩
        subst hv
        refine J.fn (fn := Try.f3) hp Try.func3 rfl (Nat.le_of_ble_eq_true rfl) ?_
        refine J.sr ?_
        refine EO.run 1 [0, 2] (S2 := [(0, .slice a zs.length cap), (2, .bool false)]) (A2 := A) rfl (by kernel_rfl) ?_
        refine EO.done rfl ?_
        refine J.seq ?_
        refine J.sr ?_
        refine EO.fcall (f := 9) (vs := []) (v := .bool true) (A1 := A) rfl rfl rfl rfl (by kernel_rfl) (by kernel_rfl) (hk9) ?_
        refine EO.run 2 [0, 2, 13] (S2 := [(0, .slice a zs.length cap), (2, .bool false), (13, .bool false)]) (A2 := A) rfl (by kernel_rfl) ?_
        refine EO.done rfl ?_
        refine J.cond false (by kernel_rfl) (fun h => Bool.noConfusion h) (fun _ => ?_)
        refine J.skip ?_
        refine thenJ_n ?_
        refine J.seq ?_
        refine J.sr ?_
        refine EO.run 3 [0, 2, 13, 16] (S2 := [(0, .slice a zs.length cap), (2, .bool false), (13, .bool false), (16, .bool (decide (((zs.length : Nat) : Int) > 3000)))]) (A2 := A) rfl (by kernel_rfl) ?_
        refine EO.done rfl ?_
        have d1 : (decide (((zs.length : Nat) : Int) > 3000)) = false := decide_eq_false (by omega)
        rw [d1]
        refine J.cond false (by kernel_rfl) (fun h => Bool.noConfusion h) (fun _ => ?_)
        refine J.skip ?_
        refine thenJ_n ?_
        refine J.sr ?_
        refine EO.run 1 [0, 2, 13, 16, 18] (S2 := [(0, .slice a zs.length cap), (2, .bool false), (13, .bool false), (16, .bool false), (18, .slice a zs.length cap)]) (A2 := A) rfl (by kernel_rfl) ?_
        refine EO.fcall (f := 10) (vs := [.slice a zs.length cap]) (v := .tuple #[.int .u64 0, .int .i64 0, .bool false]) (A1 := A1) rfl rfl rfl rfl (by kernel_rfl) (by kernel_rfl) (e10) ?_
        refine EO.run 9 [0, 2, 3, 4, 5, 13, 16] (S2 := [(0, .slice a zs.length cap), (2, .bool false), (3, .int .u64 0), (4, .int .i64 0), (5, .bool false), (13, .bool false), (16, .bool false)]) (A2 := A1) rfl (by kernel_rfl) ?_
        refine EO.done rfl ?_
        refine J.sr ?_
        refine EO.run 1 [0, 2, 3, 4, 5, 13, 16, 24] (S2 := [(0, .slice a zs.length cap), (2, .bool false), (3, .int .u64 0), (4, .int .i64 0), (5, .bool false), (13, .bool false), (16, .bool false), (24, .slice a zs.length cap)]) (A2 := A1) rfl (by kernel_rfl) ?_
        refine EO.fcall (f := 11) (vs := [.slice a zs.length cap, .int .i64 0]) (v := .tuple #[.int .u64 0, .int .i64 (-1)]) (A1 := A1) rfl rfl rfl rfl (by kernel_rfl) (by kernel_rfl) (e11) ?_
        refine EO.run 7 [0, 2, 3, 4, 5, 6, 7, 13, 16] (S2 := [(0, .slice a zs.length cap), (2, .bool false), (3, .int .u64 0), (4, .int .i64 0), (5, .bool false), (6, .int .u64 0), (7, .int .i64 (-1)), (13, .bool false), (16, .bool false)]) (A2 := A1) rfl (by kernel_rfl) ?_
        refine EO.done rfl ?_
        refine J.seq ?_
        refine J.sr ?_
        refine EO.run 2 [0, 2, 3, 4, 5, 6, 7, 13, 16, 29] (S2 := [(0, .slice a zs.length cap), (2, .bool false), (3, .int .u64 0), (4, .int .i64 0), (5, .bool false), (6, .int .u64 0), (7, .int .i64 (-1)), (13, .bool false), (16, .bool false), (29, .bool true)]) (A2 := A1) rfl (by kernel_rfl) ?_
        refine EO.done rfl ?_
        refine J.cond true (by kernel_rfl) (fun _ => ?_) (fun h => Bool.noConfusion h)
        refine J.region ?_
        refine EO.run 1 [0, 2, 3, 4, 5, 6, 7, 13, 16, 29] (S2 := [(0, .slice a zs.length cap), (2, .bool false), (3, .int .u64 0), (4, .int .i64 0), (5, .bool false), (6, .int .u64 0), (7, .int .i64 0), (13, .bool false), (16, .bool false), (29, .bool true)]) (A2 := A1) rfl (by kernel_rfl) ?_
        refine EO.done rfl ?_
        refine thenJ_n ?_
        refine J.seq ?_
        refine J.sr ?_
        refine EO.run 14 [0, 2, 3, 4, 5, 6, 7, 13, 16, 29, 43] (S2 := [(0, .slice a zs.length cap), (2, .bool false), (3, .int .u64 0), (4, .int .i64 0), (5, .bool false), (6, .int .u64 0), (7, .int .i64 0), (13, .bool false), (16, .bool false), (29, .bool true), (43, .bool false)]) (A2 := A1) rfl (by kernel_rfl) ?_
        refine EO.done rfl ?_
        refine J.cond false (by kernel_rfl) (fun h => Bool.noConfusion h) (fun _ => ?_)
        refine J.skip ?_
        refine thenJ_n ?_
        refine J.sr ?_
        refine EO.run 1 [0, 2, 3, 4, 5, 6, 7, 13, 16, 29, 43, 44] (S2 := [(0, .slice a zs.length cap), (2, .bool false), (3, .int .u64 0), (4, .int .i64 0), (5, .bool false), (6, .int .u64 0), (7, .int .i64 0), (13, .bool false), (16, .bool false), (29, .bool true), (43, .bool false), (44, .slice (some ⟨A1.nid, 0, none⟩) 0 0)]) (A2 := A1.push (.cells [] false false 1)) rfl (by kernel_rfl) ?_
        rw [hA2]
        refine EO.run 2 [0, 2, 3, 4, 5, 6, 7, 13, 16, 29, 43, 44, 45] (S2 := [(0, .slice a zs.length cap), (2, .bool false), (3, .int .u64 0), (4, .int .i64 0), (5, .bool false), (6, .int .u64 0), (7, .int .i64 0), (13, .bool false), (16, .bool false), (29, .bool true), (43, .bool false), (44, .slice (some ⟨A1.nid, 0, none⟩) 0 0), (45, .slice a zs.length cap)]) (A2 := A2) rfl (by kernel_rfl) ?_
        refine EO.append (v := .slice (some ⟨A1.nid, 0, none⟩) 0 0) (u := .slice a zs.length cap) (w := .slice (some ⟨A2.nid, 0, none⟩) zs.length cap1) (A1 := A3) rfl rfl rfl rfl rfl (by kernel_rfl) (by kernel_rfl) (by kernel_rfl) hA3 ?_
        refine EO.run 4 [0, 2, 3, 4, 5, 6, 7, 8, 13, 16, 29, 43] (S2 := [(0, .slice a zs.length cap), (2, .bool false), (3, .int .u64 0), (4, .int .i64 0), (5, .bool false), (6, .int .u64 0), (7, .int .i64 0), (8, .slice (some ⟨A2.nid, 0, none⟩) zs.length cap1), (13, .bool false), (16, .bool false), (29, .bool true), (43, .bool false)]) (A2 := A3) rfl (by kernel_rfl) ?_
        refine EO.done rfl ?_
        refine J.sr ?_
        refine EO.run 1 [0, 2, 3, 4, 5, 6, 7, 8, 13, 16, 29, 43, 48] (S2 := [(0, .slice a zs.length cap), (2, .bool false), (3, .int .u64 0), (4, .int .i64 0), (5, .bool false), (6, .int .u64 0), (7, .int .i64 0), (8, .slice (some ⟨A2.nid, 0, none⟩) zs.length cap1), (13, .bool false), (16, .bool false), (29, .bool true), (43, .bool false), (48, .slice (some ⟨A2.nid, 0, none⟩) zs.length cap1)]) (A2 := A3) rfl (by kernel_rfl) ?_
        refine EO.fcall (f := 12) (vs := [.slice (some ⟨A2.nid, 0, none⟩) zs.length cap1]) (v := .tuple #[.slice none 0 0, .int .i64 0, .bool false]) (A1 := A4) rfl rfl rfl rfl (by kernel_rfl) (by kernel_rfl) (e12) ?_
        refine EO.run 9 [0, 2, 3, 4, 5, 6, 7, 8, 9, 13, 16, 29, 43] (S2 := [(0, .slice a zs.length cap), (2, .bool false), (3, .int .u64 0), (4, .int .i64 0), (5, .bool false), (6, .int .u64 0), (7, .int .i64 0), (8, .slice (some ⟨A2.nid, 0, none⟩) zs.length cap1), (9, .slice none 0 0), (13, .bool false), (16, .bool false), (29, .bool true), (43, .bool false)]) (A2 := A4) rfl (by kernel_rfl) ?_
        refine EO.done rfl ?_
        refine J.seq ?_
        refine J.sr ?_
        refine EO.run 3 [0, 2, 3, 4, 5, 6, 7, 8, 9, 13, 16, 29, 43, 54, 55] (S2 := [(0, .slice a zs.length cap), (2, .bool false), (3, .int .u64 0), (4, .int .i64 0), (5, .bool false), (6, .int .u64 0), (7, .int .i64 0), (8, .slice (some ⟨A2.nid, 0, none⟩) zs.length cap1), (9, .slice none 0 0), (13, .bool false), (16, .bool false), (29, .bool true), (43, .bool false), (54, .int .i64 ((zs.length : Nat) : Int)), (55, .int .i64 0)]) (A2 := A4) rfl (by kernel_rfl) ?_
        refine EO.done rfl ?_
        refine J.block ?_
        refine J.loopI (fun k S A => ∃ (i : Nat) (zq : List Int), i + k = zs.length + 1 ∧ i ≤ zs.length ∧ zq.length = zs.length ∧ S = [(0, .slice a zs.length cap), (2, .bool false), (3, .int .u64 0), (4, .int .i64 0), (5, .bool false), (6, .int .u64 0), (7, .int .i64 0), (8, .slice (some ⟨A2.nid, 0, none⟩) zs.length cap1), (9, .slice none 0 0), (13, .bool false), (16, .bool false), (29, .bool true), (43, .bool false), (54, .int .i64 ((zs.length : Nat) : Int)), (55, .int .i64 ((i : Nat) : Int))] ∧ Own A A2.nid zq ∧ AMod A4 A2.nid A) (zs.length + 1) (by omega) ⟨0, zs, by omega, Nat.zero_le _, rfl, rfl, hown4, AMod.refl hn4⟩ ?_ ?_
        rotate_left
        · rintro S A ⟨i, zq, q1, q2, _⟩; omega
        rintro k S A5 ⟨i, zq, q1, q2, q3, rfl, hOw, hMod⟩
        refine J.sr ?_
        refine EO.run 1 [0, 2, 3, 4, 5, 6, 7, 8, 9, 13, 16, 29, 43, 54, 55, 56] (S2 := [(0, .slice a zs.length cap), (2, .bool false), (3, .int .u64 0), (4, .int .i64 0), (5, .bool false), (6, .int .u64 0), (7, .int .i64 0), (8, .slice (some ⟨A2.nid, 0, none⟩) zs.length cap1), (9, .slice none 0 0), (13, .bool false), (16, .bool false), (29, .bool true), (43, .bool false), (54, .int .i64 ((zs.length : Nat) : Int)), (55, .int .i64 ((i : Nat) : Int)), (56, .bool (decide (((i : Nat) : Int) < ((zs.length : Nat) : Int))))]) (A2 := A5) rfl (by kernel_rfl) ?_
        refine EO.done rfl ?_
        refine J.seq ?_
        refine J.cond (decide (((i : Nat) : Int) < ((zs.length : Nat) : Int))) (by kernel_rfl) (fun h2 => ?_) (fun h2 => ?_)
        ·
          refine J.skip ?_
          refine thenJ_n ?_
          refine J.seq ?_
          refine J.block ?_
          have q4 : i < zs.length := by have := of_decide_eq_true h2; omega
          obtain ⟨z, hz⟩ : ∃ z, zq[i]? = some z := ⟨_, List.getElem?_eq_getElem (by omega)⟩
          refine J.sr ?_
          refine EO.run 2 [0, 2, 3, 4, 5, 6, 7, 8, 9, 10, 13, 16, 29, 43, 54, 55, 56] (S2 := [(0, .slice a zs.length cap), (2, .bool false), (3, .int .u64 0), (4, .int .i64 0), (5, .bool false), (6, .int .u64 0), (7, .int .i64 0), (8, .slice (some ⟨A2.nid, 0, none⟩) zs.length cap1), (9, .slice none 0 0), (10, .int .i64 ((i : Nat) : Int)), (13, .bool false), (16, .bool false), (29, .bool true), (43, .bool false), (54, .int .i64 ((zs.length : Nat) : Int)), (55, .int .i64 ((i : Nat) : Int)), (56, .bool (decide (((i : Nat) : Int) < ((zs.length : Nat) : Int))))]) (A2 := A5) rfl (by kernel_rfl) ?_
          refine EO.done rfl ?_
          refine J.region ?_
          refine EO.run 2 [0, 2, 3, 4, 5, 6, 7, 8, 9, 10, 13, 16, 29, 43, 54, 55, 56, 58, 59] (S2 := [(0, .slice a zs.length cap), (2, .bool false), (3, .int .u64 0), (4, .int .i64 0), (5, .bool false), (6, .int .u64 0), (7, .int .i64 0), (8, .slice (some ⟨A2.nid, 0, none⟩) zs.length cap1), (9, .slice none 0 0), (10, .int .i64 ((i : Nat) : Int)), (13, .bool false), (16, .bool false), (29, .bool true), (43, .bool false), (54, .int .i64 ((zs.length : Nat) : Int)), (55, .int .i64 ((i : Nat) : Int)), (56, .bool (decide (((i : Nat) : Int) < ((zs.length : Nat) : Int)))), (58, .slice (some ⟨A2.nid, 0, none⟩) zs.length cap1), (59, .int .i64 ((i : Nat) : Int))]) (A2 := A5) rfl (by kernel_rfl) ?_
          refine EO.index (v := .slice (some ⟨A2.nid, 0, none⟩) zs.length cap1) (u := .int .i64 (Int.ofNat i)) (w := .pointer (some ⟨A2.nid, 0 + i * 1, none⟩)) rfl rfl rfl (by kernel_rfl) (by kernel_rfl) (by kernel_rfl) (aindexAddr_slice (elem := 5) (size := 1) (by kernel_rfl) (by kernel_rfl) q4) ?_
          refine EO.load (ad := ⟨A2.nid, 0 + i * 1, none⟩) (w := .int .u8 z) rfl rfl rfl (by kernel_rfl) (by kernel_rfl) (hOw.row.load (by kernel_rfl) hz) ?_
          refine EO.run 5 [0, 2, 3, 4, 5, 6, 7, 8, 9, 10, 13, 16, 29, 43, 54, 55, 56, 58, 59, 62] (S2 := [(0, .slice a zs.length cap), (2, .bool false), (3, .int .u64 0), (4, .int .i64 0), (5, .bool false), (6, .int .u64 0), (7, .int .i64 0), (8, .slice (some ⟨A2.nid, 0, none⟩) zs.length cap1), (9, .slice none 0 0), (10, .int .i64 ((i : Nat) : Int)), (13, .bool false), (16, .bool false), (29, .bool true), (43, .bool false), (54, .int .i64 ((zs.length : Nat) : Int)), (55, .int .i64 ((i : Nat) : Int)), (56, .bool (decide (((i : Nat) : Int) < ((zs.length : Nat) : Int)))), (58, .slice (some ⟨A2.nid, 0, none⟩) zs.length cap1), (59, .int .i64 ((i : Nat) : Int)), (62, .int .u8 (bXor .u8 z 255))]) (A2 := A5) rfl (by kernel_rfl) ?_
          refine EO.index (v := .slice (some ⟨A2.nid, 0, none⟩) zs.length cap1) (u := .int .i64 (Int.ofNat i)) (w := .pointer (some ⟨A2.nid, 0 + i * 1, none⟩)) rfl rfl rfl (by kernel_rfl) (by kernel_rfl) (by kernel_rfl) (aindexAddr_slice (elem := 5) (size := 1) (by kernel_rfl) (by kernel_rfl) q4) ?_
          obtain ⟨A9, hst, hOw2, hmod⟩ := hOw.store (P := Try.prog) hMod.nx (t := 5) (by kernel_rfl) (i := i) (by omega) (z := bXor .u8 z 255) xor255
          refine EO.store (ad := ⟨A2.nid, 0 + i * 1, none⟩) (u := .int .u8 (bXor .u8 z 255)) (A1 := A9) rfl rfl rfl (by kernel_rfl) (by kernel_rfl) (by kernel_rfl) hst ?_
          refine EO.done rfl ?_
          refine blockQ_n ?_
          refine thenJ_n ?_
          refine J.region ?_
          refine EO.run 1 [0, 2, 3, 4, 5, 6, 7, 8, 9, 10, 13, 16, 29, 43, 54, 55, 56, 58, 59, 62, 63, 64] (S2 := [(0, .slice a zs.length cap), (2, .bool false), (3, .int .u64 0), (4, .int .i64 0), (5, .bool false), (6, .int .u64 0), (7, .int .i64 0), (8, .slice (some ⟨A2.nid, 0, none⟩) zs.length cap1), (9, .slice none 0 0), (10, .int .i64 ((i : Nat) : Int)), (13, .bool false), (16, .bool false), (29, .bool true), (43, .bool false), (54, .int .i64 ((zs.length : Nat) : Int)), (55, .int .i64 ((i : Nat) : Int)), (56, .bool (decide (((i : Nat) : Int) < ((zs.length : Nat) : Int)))), (58, .slice (some ⟨A2.nid, 0, none⟩) zs.length cap1), (59, .int .i64 ((i : Nat) : Int)), (62, .int .u8 (bXor .u8 z 255)), (63, .pointer (some ⟨A2.nid, 0 + i * 1, none⟩)), (64, .int .i64 (IntKind.wrap .i64 (((i : Nat) : Int) + 1)))]) (A2 := A9) rfl (by kernel_rfl) ?_
          refine EO.cast (S2 := [(0, .slice a zs.length cap), (2, .bool false), (3, .int .u64 0), (4, .int .i64 0), (5, .bool false), (6, .int .u64 0), (7, .int .i64 0), (8, .slice (some ⟨A2.nid, 0, none⟩) zs.length cap1), (9, .slice none 0 0), (10, .int .i64 ((i : Nat) : Int)), (13, .bool false), (16, .bool false), (29, .bool true), (43, .bool false), (54, .int .i64 ((zs.length : Nat) : Int)), (55, .int .i64 ((i : Nat) : Int)), (56, .bool (decide (((i : Nat) : Int) < ((zs.length : Nat) : Int)))), (58, .slice (some ⟨A2.nid, 0, none⟩) zs.length cap1), (59, .int .i64 ((i : Nat) : Int)), (62, .int .u8 (bXor .u8 z 255)), (63, .pointer (some ⟨A2.nid, 0 + i * 1, none⟩)), (64, .int .i64 ((i + 1 : Nat) : Int))]) (by rw [show (IntKind.wrap .i64 (((i : Nat) : Int) + 1) : Int) = ((i + 1 : Nat) : Int) from by rw [wrap_i64 (by omega) (by omega)]; omega]) ?_
          refine EO.run 2 [0, 2, 3, 4, 5, 6, 7, 8, 9, 13, 16, 29, 43, 54, 55] (S2 := [(0, .slice a zs.length cap), (2, .bool false), (3, .int .u64 0), (4, .int .i64 0), (5, .bool false), (6, .int .u64 0), (7, .int .i64 0), (8, .slice (some ⟨A2.nid, 0, none⟩) zs.length cap1), (9, .slice none 0 0), (13, .bool false), (16, .bool false), (29, .bool true), (43, .bool false), (54, .int .i64 ((zs.length : Nat) : Int)), (55, .int .i64 ((i + 1 : Nat) : Int))]) (A2 := A9) rfl (by kernel_rfl) ?_
          refine EO.done rfl ?_
          refine loopI_n ?_
          exact ⟨i + 1, zq.set i (bXor .u8 z 255), by omega, by omega, by simpa using q3, rfl, hOw2, hMod.trans hmod⟩
        ·
          refine J.exit ?_
          refine thenJ_e ?_
          refine loopI_e ?_
          refine blockQ_hit ?_
          refine thenJ_n ?_
          have h5 := h4m hMod
          have f13 := f13_spec (pre := pre) (dr := dr) (m := m + 1) hp13 hp11 hp26 h5 hMod.nx 0 (by omega) (by omega)
          have e13 := f13.1 hpa
          refine J.sr ?_
          refine EO.run 1 [0, 2, 3, 4, 5, 6, 7, 8, 9, 13, 16, 29, 43, 54, 55, 56, 66] (S2 := [(0, .slice a zs.length cap), (2, .bool false), (3, .int .u64 0), (4, .int .i64 0), (5, .bool false), (6, .int .u64 0), (7, .int .i64 0), (8, .slice (some ⟨A2.nid, 0, none⟩) zs.length cap1), (9, .slice none 0 0), (13, .bool false), (16, .bool false), (29, .bool true), (43, .bool false), (54, .int .i64 ((zs.length : Nat) : Int)), (55, .int .i64 ((i : Nat) : Int)), (56, .bool (decide (((i : Nat) : Int) < ((zs.length : Nat) : Int)))), (66, .slice a zs.length cap)]) (A2 := A5) rfl (by kernel_rfl) ?_
          refine EO.fcall (f := 13) (vs := [.slice a zs.length cap, .int .i64 0]) (v := .tuple #[.slice none 0 0, .int .i64 (-1)]) (A1 := A5) rfl rfl rfl rfl (by kernel_rfl) (by kernel_rfl) (e13) ?_
          refine EO.run 7 [0, 2, 3, 4, 5, 6, 7, 8, 9, 11, 13, 16, 29, 43, 54, 55, 56] (S2 := [(0, .slice a zs.length cap), (2, .bool false), (3, .int .u64 0), (4, .int .i64 0), (5, .bool false), (6, .int .u64 0), (7, .int .i64 (-1)), (8, .slice (some ⟨A2.nid, 0, none⟩) zs.length cap1), (9, .slice none 0 0), (11, .slice none 0 0), (13, .bool false), (16, .bool false), (29, .bool true), (43, .bool false), (54, .int .i64 ((zs.length : Nat) : Int)), (55, .int .i64 ((i : Nat) : Int)), (56, .bool (decide (((i : Nat) : Int) < ((zs.length : Nat) : Int))))]) (A2 := A5) rfl (by kernel_rfl) ?_
          refine EO.done rfl ?_
          refine J.sr ?_
          refine EO.run 1 [0, 2, 3, 4, 5, 6, 7, 8, 9, 11, 13, 16, 29, 43, 54, 55, 56, 70] (S2 := [(0, .slice a zs.length cap), (2, .bool false), (3, .int .u64 0), (4, .int .i64 0), (5, .bool false), (6, .int .u64 0), (7, .int .i64 (-1)), (8, .slice (some ⟨A2.nid, 0, none⟩) zs.length cap1), (9, .slice none 0 0), (11, .slice none 0 0), (13, .bool false), (16, .bool false), (29, .bool true), (43, .bool false), (54, .int .i64 ((zs.length : Nat) : Int)), (55, .int .i64 ((i : Nat) : Int)), (56, .bool (decide (((i : Nat) : Int) < ((zs.length : Nat) : Int)))), (70, .slice none 0 0)]) (A2 := A5) rfl (by kernel_rfl) ?_
          refine EO.convert (v := .slice none 0 0) (w := .string (strFrom ByteArray.empty ([]))) (A1 := A5) rfl rfl rfl (by kernel_rfl) (by kernel_rfl) (((show RowV A5 (.slice none 0 0) [] from .inl ⟨rfl, rfl⟩)).toStr (e := 5) (by kernel_rfl) (by kernel_rfl) (by kernel_rfl)) ?_
          refine EO.run 3 [0, 2, 3, 4, 5, 6, 7, 8, 9, 11, 13, 16, 29, 43, 54, 55, 56, 71, 72] (S2 := [(0, .slice a zs.length cap), (2, .bool false), (3, .int .u64 0), (4, .int .i64 0), (5, .bool false), (6, .int .u64 0), (7, .int .i64 (-1)), (8, .slice (some ⟨A2.nid, 0, none⟩) zs.length cap1), (9, .slice none 0 0), (11, .slice none 0 0), (13, .bool false), (16, .bool false), (29, .bool true), (43, .bool false), (54, .int .i64 ((zs.length : Nat) : Int)), (55, .int .i64 ((i : Nat) : Int)), (56, .bool (decide (((i : Nat) : Int) < ((zs.length : Nat) : Int)))), (71, .string (strFrom ByteArray.empty ([]))), (72, .slice none 0 0)]) (A2 := A5) rfl (by kernel_rfl) ?_
          refine EO.convert (v := .slice none 0 0) (w := .string (strFrom ByteArray.empty ([]))) (A1 := A5) rfl rfl rfl (by kernel_rfl) (by kernel_rfl) (((show RowV A5 (.slice none 0 0) [] from .inl ⟨rfl, rfl⟩)).toStr (e := 5) (by kernel_rfl) (by kernel_rfl) (by kernel_rfl)) ?_
          refine EO.run 6 [0, 2, 3, 4, 5, 6, 7, 8, 9, 11, 13, 16, 29, 43, 54, 55, 56, 75] (S2 := [(0, .slice a zs.length cap), (2, .bool false), (3, .int .u64 0), (4, .int .i64 0), (5, .bool false), (6, .int .u64 0), (7, .int .i64 (-1)), (8, .slice (some ⟨A2.nid, 0, none⟩) zs.length cap1), (9, .slice none 0 0), (11, .slice none 0 0), (13, .bool false), (16, .bool false), (29, .bool true), (43, .bool false), (54, .int .i64 ((zs.length : Nat) : Int)), (55, .int .i64 ((i : Nat) : Int)), (56, .bool (decide (((i : Nat) : Int) < ((zs.length : Nat) : Int)))), (75, .bool ((strFrom ByteArray.empty ([])).toList == (strFrom ByteArray.empty ([])).toList))]) (A2 := A5) rfl (by kernel_rfl) ?_
          have d3 : ((strFrom ByteArray.empty ([])).toList == (strFrom ByteArray.empty ([])).toList) = true := beq_refl' rfl
          rw [d3]
          refine EO.run 9 [0, 2, 3, 4, 5, 6, 7, 8, 9, 11, 13, 16, 29, 43, 54, 55, 56, 75, 76, 78] (S2 := [(0, .slice a zs.length cap), (2, .bool false), (3, .int .u64 0), (4, .int .i64 0), (5, .bool false), (6, .int .u64 0), (7, .int .i64 (-1)), (8, .slice (some ⟨A2.nid, 0, none⟩) zs.length cap1), (9, .slice none 0 0), (11, .slice none 0 0), (13, .bool false), (16, .bool false), (29, .bool true), (43, .bool false), (54, .int .i64 ((zs.length : Nat) : Int)), (55, .int .i64 ((i : Nat) : Int)), (56, .bool (decide (((i : Nat) : Int) < ((zs.length : Nat) : Int)))), (75, .bool true), (76, .int .i64 0), (78, .int .i64 0)]) (A2 := A5) rfl (by kernel_rfl) ?_
          refine EO.run 18 [0, 2, 3, 4, 5, 6, 7, 8, 9, 11, 13, 16, 29, 43, 54, 55, 56] (S2 := [(0, .slice a zs.length cap), (2, .bool true), (3, .int .u64 0), (4, .int .i64 0), (5, .bool false), (6, .int .u64 0), (7, .int .i64 (-1)), (8, .slice (some ⟨A2.nid, 0, none⟩) zs.length cap1), (9, .slice none 0 0), (11, .slice none 0 0), (13, .bool false), (16, .bool false), (29, .bool true), (43, .bool false), (54, .int .i64 ((zs.length : Nat) : Int)), (55, .int .i64 ((i : Nat) : Int)), (56, .bool (decide (((i : Nat) : Int) < ((zs.length : Nat) : Int))))]) (A2 := A5) rfl (by kernel_rfl) ?_
          refine EO.done rfl ?_
          refine J.ret ?_
          refine Ends_r (vs := [.bool true]) (by kernel_rfl) ?_
          exact rfl
      ·
        have hokt : (takeOf zs).2.2 = true := by rw [List.drop_zero] at htk; rw [htk]
        obtain ⟨n2, u2, hq1, _, _, hu1, _⟩ := takeOf_ok h.byte hokt
        rw [List.drop_zero] at htk
        have hu1 : 1 ≤ u := by rw [htk] at hq1; simp only [Prod.mk.injEq] at hq1; omega
        have hrf : refOf zs 0 = ((n : Int), ((u : Nat) : Int)) := by unfold refOf; rw [List.drop_zero, htk]; simp
        rw [htk] at e10
        rw [hrf] at e11
        cases hpa : partAt zs 0 with
        | none =>
          obtain ⟨A4, e12, hx4, hn4⟩ := f12.1 hpa
          have hown4 := hown.ext hx4
          have h4m : ∀ {B : AW}, AMod A4 A2.nid B → RowV B v zs := fun {B} hM => by
            rcases h with ⟨q1, q2⟩ | ⟨b, o, c, q1, q2⟩
            · exact .inl ⟨q1, q2⟩
            · exact .inr ⟨b, o, c, q1, ((((q2.ext hx1).ext hxA2).ext hxA3).ext hx4).mod hM (hlt (B := A) q2)⟩
          subst hv
          refine J.fn (fn := Try.f3) hp Try.func3 rfl (Nat.le_of_ble_eq_true rfl) ?_
          refine J.sr ?_
          refine EO.run 1 [0, 2] (S2 := [(0, .slice a zs.length cap), (2, .bool false)]) (A2 := A) rfl (by kernel_rfl) ?_
          refine EO.done rfl ?_
          refine J.seq ?_
          refine J.sr ?_
          refine EO.fcall (f := 9) (vs := []) (v := .bool true) (A1 := A) rfl rfl rfl rfl (by kernel_rfl) (by kernel_rfl) (hk9) ?_
          refine EO.run 2 [0, 2, 13] (S2 := [(0, .slice a zs.length cap), (2, .bool false), (13, .bool false)]) (A2 := A) rfl (by kernel_rfl) ?_
          refine EO.done rfl ?_
          refine J.cond false (by kernel_rfl) (fun h => Bool.noConfusion h) (fun _ => ?_)
          refine J.skip ?_
          refine thenJ_n ?_
          refine J.seq ?_
          refine J.sr ?_
          refine EO.run 3 [0, 2, 13, 16] (S2 := [(0, .slice a zs.length cap), (2, .bool false), (13, .bool false), (16, .bool (decide (((zs.length : Nat) : Int) > 3000)))]) (A2 := A) rfl (by kernel_rfl) ?_
          refine EO.done rfl ?_
          have d1 : (decide (((zs.length : Nat) : Int) > 3000)) = false := decide_eq_false (by omega)
          rw [d1]
          refine J.cond false (by kernel_rfl) (fun h => Bool.noConfusion h) (fun _ => ?_)
          refine J.skip ?_
          refine thenJ_n ?_
          refine J.sr ?_
          refine EO.run 1 [0, 2, 13, 16, 18] (S2 := [(0, .slice a zs.length cap), (2, .bool false), (13, .bool false), (16, .bool false), (18, .slice a zs.length cap)]) (A2 := A) rfl (by kernel_rfl) ?_
          refine EO.fcall (f := 10) (vs := [.slice a zs.length cap]) (v := .tuple #[.int .u64 ((n : Nat) : Int), .int .i64 ((u : Nat) : Int), .bool true]) (A1 := A1) rfl rfl rfl rfl (by kernel_rfl) (by kernel_rfl) (e10) ?_
          refine EO.run 9 [0, 2, 3, 4, 5, 13, 16] (S2 := [(0, .slice a zs.length cap), (2, .bool false), (3, .int .u64 ((n : Nat) : Int)), (4, .int .i64 ((u : Nat) : Int)), (5, .bool true), (13, .bool false), (16, .bool false)]) (A2 := A1) rfl (by kernel_rfl) ?_
          refine EO.done rfl ?_
          refine J.sr ?_
          refine EO.run 1 [0, 2, 3, 4, 5, 13, 16, 24] (S2 := [(0, .slice a zs.length cap), (2, .bool false), (3, .int .u64 ((n : Nat) : Int)), (4, .int .i64 ((u : Nat) : Int)), (5, .bool true), (13, .bool false), (16, .bool false), (24, .slice a zs.length cap)]) (A2 := A1) rfl (by kernel_rfl) ?_
          refine EO.fcall (f := 11) (vs := [.slice a zs.length cap, .int .i64 0]) (v := .tuple #[.int .u64 ((n : Nat) : Int), .int .i64 ((u : Nat) : Int)]) (A1 := A1) rfl rfl rfl rfl (by kernel_rfl) (by kernel_rfl) (e11) ?_
          refine EO.run 7 [0, 2, 3, 4, 5, 6, 7, 13, 16] (S2 := [(0, .slice a zs.length cap), (2, .bool false), (3, .int .u64 ((n : Nat) : Int)), (4, .int .i64 ((u : Nat) : Int)), (5, .bool true), (6, .int .u64 ((n : Nat) : Int)), (7, .int .i64 ((u : Nat) : Int)), (13, .bool false), (16, .bool false)]) (A2 := A1) rfl (by kernel_rfl) ?_
          refine EO.done rfl ?_
          refine J.seq ?_
          refine J.sr ?_
          refine EO.run 2 [0, 2, 3, 4, 5, 6, 7, 13, 16, 29] (S2 := [(0, .slice a zs.length cap), (2, .bool false), (3, .int .u64 ((n : Nat) : Int)), (4, .int .i64 ((u : Nat) : Int)), (5, .bool true), (6, .int .u64 ((n : Nat) : Int)), (7, .int .i64 ((u : Nat) : Int)), (13, .bool false), (16, .bool false), (29, .bool (decide (((u : Nat) : Int) < 0)))]) (A2 := A1) rfl (by kernel_rfl) ?_
          refine EO.done rfl ?_
          have d2 : (decide (((u : Nat) : Int) < 0)) = false := decide_eq_false (by omega)
          rw [d2]
          refine J.cond false (by kernel_rfl) (fun h => Bool.noConfusion h) (fun _ => ?_)
          refine J.skip ?_
          refine thenJ_n ?_
          refine J.seq ?_
          refine J.sr ?_
          refine EO.run 4 [0, 2, 3, 4, 5, 6, 7, 13, 16, 29, 33] (S2 := [(0, .slice a zs.length cap), (2, .bool false), (3, .int .u64 ((n : Nat) : Int)), (4, .int .i64 ((u : Nat) : Int)), (5, .bool true), (6, .int .u64 ((n : Nat) : Int)), (7, .int .i64 ((u : Nat) : Int)), (13, .bool false), (16, .bool false), (29, .bool false), (33, .bool (((n : Nat) : Int) != ((n : Nat) : Int)))]) (A2 := A1) rfl (by kernel_rfl) ?_
          have d3 : (((n : Nat) : Int) != ((n : Nat) : Int)) = false := bne_refl' rfl
          rw [d3]
          refine EO.run 9 [0, 2, 3, 4, 5, 6, 7, 13, 16, 29, 38] (S2 := [(0, .slice a zs.length cap), (2, .bool false), (3, .int .u64 ((n : Nat) : Int)), (4, .int .i64 ((u : Nat) : Int)), (5, .bool true), (6, .int .u64 ((n : Nat) : Int)), (7, .int .i64 ((u : Nat) : Int)), (13, .bool false), (16, .bool false), (29, .bool false), (38, .bool (((u : Nat) : Int) != ((u : Nat) : Int)))]) (A2 := A1) rfl (by kernel_rfl) ?_
          have d4 : (((u : Nat) : Int) != ((u : Nat) : Int)) = false := bne_refl' rfl
          rw [d4]
          refine EO.run 12 [0, 2, 3, 4, 5, 6, 7, 13, 16, 29, 38, 39, 41] (S2 := [(0, .slice a zs.length cap), (2, .bool false), (3, .int .u64 ((n : Nat) : Int)), (4, .int .i64 ((u : Nat) : Int)), (5, .bool true), (6, .int .u64 ((n : Nat) : Int)), (7, .int .i64 ((u : Nat) : Int)), (13, .bool false), (16, .bool false), (29, .bool false), (38, .bool false), (39, .bool true), (41, .bool (decide (((u : Nat) : Int) > 0)))]) (A2 := A1) rfl (by kernel_rfl) ?_
          have d5 : (decide (((u : Nat) : Int) > 0)) = true := decide_eq_true (by omega)
          rw [d5]
          refine EO.run 14 [0, 2, 3, 4, 5, 6, 7, 13, 16, 29, 43] (S2 := [(0, .slice a zs.length cap), (2, .bool false), (3, .int .u64 ((n : Nat) : Int)), (4, .int .i64 ((u : Nat) : Int)), (5, .bool true), (6, .int .u64 ((n : Nat) : Int)), (7, .int .i64 ((u : Nat) : Int)), (13, .bool false), (16, .bool false), (29, .bool false), (43, .bool false)]) (A2 := A1) rfl (by kernel_rfl) ?_
          refine EO.done rfl ?_
          refine J.cond false (by kernel_rfl) (fun h => Bool.noConfusion h) (fun _ => ?_)
          refine J.skip ?_
          refine thenJ_n ?_
          refine J.sr ?_
          refine EO.run 1 [0, 2, 3, 4, 5, 6, 7, 13, 16, 29, 43, 44] (S2 := [(0, .slice a zs.length cap), (2, .bool false), (3, .int .u64 ((n : Nat) : Int)), (4, .int .i64 ((u : Nat) : Int)), (5, .bool true), (6, .int .u64 ((n : Nat) : Int)), (7, .int .i64 ((u : Nat) : Int)), (13, .bool false), (16, .bool false), (29, .bool false), (43, .bool false), (44, .slice (some ⟨A1.nid, 0, none⟩) 0 0)]) (A2 := A1.push (.cells [] false false 1)) rfl (by kernel_rfl) ?_
          rw [hA2]
          refine EO.run 2 [0, 2, 3, 4, 5, 6, 7, 13, 16, 29, 43, 44, 45] (S2 := [(0, .slice a zs.length cap), (2, .bool false), (3, .int .u64 ((n : Nat) : Int)), (4, .int .i64 ((u : Nat) : Int)), (5, .bool true), (6, .int .u64 ((n : Nat) : Int)), (7, .int .i64 ((u : Nat) : Int)), (13, .bool false), (16, .bool false), (29, .bool false), (43, .bool false), (44, .slice (some ⟨A1.nid, 0, none⟩) 0 0), (45, .slice a zs.length cap)]) (A2 := A2) rfl (by kernel_rfl) ?_
          refine EO.append (v := .slice (some ⟨A1.nid, 0, none⟩) 0 0) (u := .slice a zs.length cap) (w := .slice (some ⟨A2.nid, 0, none⟩) zs.length cap1) (A1 := A3) rfl rfl rfl rfl rfl (by kernel_rfl) (by kernel_rfl) (by kernel_rfl) hA3 ?_
          refine EO.run 4 [0, 2, 3, 4, 5, 6, 7, 8, 13, 16, 29, 43] (S2 := [(0, .slice a zs.length cap), (2, .bool false), (3, .int .u64 ((n : Nat) : Int)), (4, .int .i64 ((u : Nat) : Int)), (5, .bool true), (6, .int .u64 ((n : Nat) : Int)), (7, .int .i64 ((u : Nat) : Int)), (8, .slice (some ⟨A2.nid, 0, none⟩) zs.length cap1), (13, .bool false), (16, .bool false), (29, .bool false), (43, .bool false)]) (A2 := A3) rfl (by kernel_rfl) ?_
          refine EO.done rfl ?_
          refine J.sr ?_
          refine EO.run 1 [0, 2, 3, 4, 5, 6, 7, 8, 13, 16, 29, 43, 48] (S2 := [(0, .slice a zs.length cap), (2, .bool false), (3, .int .u64 ((n : Nat) : Int)), (4, .int .i64 ((u : Nat) : Int)), (5, .bool true), (6, .int .u64 ((n : Nat) : Int)), (7, .int .i64 ((u : Nat) : Int)), (8, .slice (some ⟨A2.nid, 0, none⟩) zs.length cap1), (13, .bool false), (16, .bool false), (29, .bool false), (43, .bool false), (48, .slice (some ⟨A2.nid, 0, none⟩) zs.length cap1)]) (A2 := A3) rfl (by kernel_rfl) ?_
          refine EO.fcall (f := 12) (vs := [.slice (some ⟨A2.nid, 0, none⟩) zs.length cap1]) (v := .tuple #[.slice none 0 0, .int .i64 0, .bool false]) (A1 := A4) rfl rfl rfl rfl (by kernel_rfl) (by kernel_rfl) (e12) ?_
          refine EO.run 9 [0, 2, 3, 4, 5, 6, 7, 8, 9, 13, 16, 29, 43] (S2 := [(0, .slice a zs.length cap), (2, .bool false), (3, .int .u64 ((n : Nat) : Int)), (4, .int .i64 0), (5, .bool false), (6, .int .u64 ((n : Nat) : Int)), (7, .int .i64 ((u : Nat) : Int)), (8, .slice (some ⟨A2.nid, 0, none⟩) zs.length cap1), (9, .slice none 0 0), (13, .bool false), (16, .bool false), (29, .bool false), (43, .bool false)]) (A2 := A4) rfl (by kernel_rfl) ?_
          refine EO.done rfl ?_
          refine J.seq ?_
          refine J.sr ?_
          refine EO.run 3 [0, 2, 3, 4, 5, 6, 7, 8, 9, 13, 16, 29, 43, 54, 55] (S2 := [(0, .slice a zs.length cap), (2, .bool false), (3, .int .u64 ((n : Nat) : Int)), (4, .int .i64 0), (5, .bool false), (6, .int .u64 ((n : Nat) : Int)), (7, .int .i64 ((u : Nat) : Int)), (8, .slice (some ⟨A2.nid, 0, none⟩) zs.length cap1), (9, .slice none 0 0), (13, .bool false), (16, .bool false), (29, .bool false), (43, .bool false), (54, .int .i64 ((zs.length : Nat) : Int)), (55, .int .i64 0)]) (A2 := A4) rfl (by kernel_rfl) ?_
          refine EO.done rfl ?_
          refine J.block ?_
          refine J.loopI (fun k S A => ∃ (i : Nat) (zq : List Int), i + k = zs.length + 1 ∧ i ≤ zs.length ∧ zq.length = zs.length ∧ S = [(0, .slice a zs.length cap), (2, .bool false), (3, .int .u64 ((n : Nat) : Int)), (4, .int .i64 0), (5, .bool false), (6, .int .u64 ((n : Nat) : Int)), (7, .int .i64 ((u : Nat) : Int)), (8, .slice (some ⟨A2.nid, 0, none⟩) zs.length cap1), (9, .slice none 0 0), (13, .bool false), (16, .bool false), (29, .bool false), (43, .bool false), (54, .int .i64 ((zs.length : Nat) : Int)), (55, .int .i64 ((i : Nat) : Int))] ∧ Own A A2.nid zq ∧ AMod A4 A2.nid A) (zs.length + 1) (by omega) ⟨0, zs, by omega, Nat.zero_le _, rfl, rfl, hown4, AMod.refl hn4⟩ ?_ ?_
          rotate_left
          · rintro S A ⟨i, zq, q1, q2, _⟩; omega
          rintro k S A5 ⟨i, zq, q1, q2, q3, rfl, hOw, hMod⟩
          refine J.sr ?_
          refine EO.run 1 [0, 2, 3, 4, 5, 6, 7, 8, 9, 13, 16, 29, 43, 54, 55, 56] (S2 := [(0, .slice a zs.length cap), (2, .bool false), (3, .int .u64 ((n : Nat) : Int)), (4, .int .i64 0), (5, .bool false), (6, .int .u64 ((n : Nat) : Int)), (7, .int .i64 ((u : Nat) : Int)), (8, .slice (some ⟨A2.nid, 0, none⟩) zs.length cap1), (9, .slice none 0 0), (13, .bool false), (16, .bool false), (29, .bool false), (43, .bool false), (54, .int .i64 ((zs.length : Nat) : Int)), (55, .int .i64 ((i : Nat) : Int)), (56, .bool (decide (((i : Nat) : Int) < ((zs.length : Nat) : Int))))]) (A2 := A5) rfl (by kernel_rfl) ?_
          refine EO.done rfl ?_
          refine J.seq ?_
          refine J.cond (decide (((i : Nat) : Int) < ((zs.length : Nat) : Int))) (by kernel_rfl) (fun h6 => ?_) (fun h6 => ?_)
          ·
            refine J.skip ?_
            refine thenJ_n ?_
            refine J.seq ?_
            refine J.block ?_
            have q4 : i < zs.length := by have := of_decide_eq_true h6; omega
            obtain ⟨z, hz⟩ : ∃ z, zq[i]? = some z := ⟨_, List.getElem?_eq_getElem (by omega)⟩
            refine J.sr ?_
            refine EO.run 2 [0, 2, 3, 4, 5, 6, 7, 8, 9, 10, 13, 16, 29, 43, 54, 55, 56] (S2 := [(0, .slice a zs.length cap), (2, .bool false), (3, .int .u64 ((n : Nat) : Int)), (4, .int .i64 0), (5, .bool false), (6, .int .u64 ((n : Nat) : Int)), (7, .int .i64 ((u : Nat) : Int)), (8, .slice (some ⟨A2.nid, 0, none⟩) zs.length cap1), (9, .slice none 0 0), (10, .int .i64 ((i : Nat) : Int)), (13, .bool false), (16, .bool false), (29, .bool false), (43, .bool false), (54, .int .i64 ((zs.length : Nat) : Int)), (55, .int .i64 ((i : Nat) : Int)), (56, .bool (decide (((i : Nat) : Int) < ((zs.length : Nat) : Int))))]) (A2 := A5) rfl (by kernel_rfl) ?_
            refine EO.done rfl ?_
            refine J.region ?_
            refine EO.run 2 [0, 2, 3, 4, 5, 6, 7, 8, 9, 10, 13, 16, 29, 43, 54, 55, 56, 58, 59] (S2 := [(0, .slice a zs.length cap), (2, .bool false), (3, .int .u64 ((n : Nat) : Int)), (4, .int .i64 0), (5, .bool false), (6, .int .u64 ((n : Nat) : Int)), (7, .int .i64 ((u : Nat) : Int)), (8, .slice (some ⟨A2.nid, 0, none⟩) zs.length cap1), (9, .slice none 0 0), (10, .int .i64 ((i : Nat) : Int)), (13, .bool false), (16, .bool false), (29, .bool false), (43, .bool false), (54, .int .i64 ((zs.length : Nat) : Int)), (55, .int .i64 ((i : Nat) : Int)), (56, .bool (decide (((i : Nat) : Int) < ((zs.length : Nat) : Int)))), (58, .slice (some ⟨A2.nid, 0, none⟩) zs.length cap1), (59, .int .i64 ((i : Nat) : Int))]) (A2 := A5) rfl (by kernel_rfl) ?_
            refine EO.index (v := .slice (some ⟨A2.nid, 0, none⟩) zs.length cap1) (u := .int .i64 (Int.ofNat i)) (w := .pointer (some ⟨A2.nid, 0 + i * 1, none⟩)) rfl rfl rfl (by kernel_rfl) (by kernel_rfl) (by kernel_rfl) (aindexAddr_slice (elem := 5) (size := 1) (by kernel_rfl) (by kernel_rfl) q4) ?_
            refine EO.load (ad := ⟨A2.nid, 0 + i * 1, none⟩) (w := .int .u8 z) rfl rfl rfl (by kernel_rfl) (by kernel_rfl) (hOw.row.load (by kernel_rfl) hz) ?_
            refine EO.run 5 [0, 2, 3, 4, 5, 6, 7, 8, 9, 10, 13, 16, 29, 43, 54, 55, 56, 58, 59, 62] (S2 := [(0, .slice a zs.length cap), (2, .bool false), (3, .int .u64 ((n : Nat) : Int)), (4, .int .i64 0), (5, .bool false), (6, .int .u64 ((n : Nat) : Int)), (7, .int .i64 ((u : Nat) : Int)), (8, .slice (some ⟨A2.nid, 0, none⟩) zs.length cap1), (9, .slice none 0 0), (10, .int .i64 ((i : Nat) : Int)), (13, .bool false), (16, .bool false), (29, .bool false), (43, .bool false), (54, .int .i64 ((zs.length : Nat) : Int)), (55, .int .i64 ((i : Nat) : Int)), (56, .bool (decide (((i : Nat) : Int) < ((zs.length : Nat) : Int)))), (58, .slice (some ⟨A2.nid, 0, none⟩) zs.length cap1), (59, .int .i64 ((i : Nat) : Int)), (62, .int .u8 (bXor .u8 z 255))]) (A2 := A5) rfl (by kernel_rfl) ?_
            refine EO.index (v := .slice (some ⟨A2.nid, 0, none⟩) zs.length cap1) (u := .int .i64 (Int.ofNat i)) (w := .pointer (some ⟨A2.nid, 0 + i * 1, none⟩)) rfl rfl rfl (by kernel_rfl) (by kernel_rfl) (by kernel_rfl) (aindexAddr_slice (elem := 5) (size := 1) (by kernel_rfl) (by kernel_rfl) q4) ?_
            obtain ⟨A9, hst, hOw2, hmod⟩ := hOw.store (P := Try.prog) hMod.nx (t := 5) (by kernel_rfl) (i := i) (by omega) (z := bXor .u8 z 255) xor255
            refine EO.store (ad := ⟨A2.nid, 0 + i * 1, none⟩) (u := .int .u8 (bXor .u8 z 255)) (A1 := A9) rfl rfl rfl (by kernel_rfl) (by kernel_rfl) (by kernel_rfl) hst ?_
            refine EO.done rfl ?_
            refine blockQ_n ?_
            refine thenJ_n ?_
            refine J.region ?_
            refine EO.run 1 [0, 2, 3, 4, 5, 6, 7, 8, 9, 10, 13, 16, 29, 43, 54, 55, 56, 58, 59, 62, 63, 64] (S2 := [(0, .slice a zs.length cap), (2, .bool false), (3, .int .u64 ((n : Nat) : Int)), (4, .int .i64 0), (5, .bool false), (6, .int .u64 ((n : Nat) : Int)), (7, .int .i64 ((u : Nat) : Int)), (8, .slice (some ⟨A2.nid, 0, none⟩) zs.length cap1), (9, .slice none 0 0), (10, .int .i64 ((i : Nat) : Int)), (13, .bool false), (16, .bool false), (29, .bool false), (43, .bool false), (54, .int .i64 ((zs.length : Nat) : Int)), (55, .int .i64 ((i : Nat) : Int)), (56, .bool (decide (((i : Nat) : Int) < ((zs.length : Nat) : Int)))), (58, .slice (some ⟨A2.nid, 0, none⟩) zs.length cap1), (59, .int .i64 ((i : Nat) : Int)), (62, .int .u8 (bXor .u8 z 255)), (63, .pointer (some ⟨A2.nid, 0 + i * 1, none⟩)), (64, .int .i64 (IntKind.wrap .i64 (((i : Nat) : Int) + 1)))]) (A2 := A9) rfl (by kernel_rfl) ?_
            refine EO.cast (S2 := [(0, .slice a zs.length cap), (2, .bool false), (3, .int .u64 ((n : Nat) : Int)), (4, .int .i64 0), (5, .bool false), (6, .int .u64 ((n : Nat) : Int)), (7, .int .i64 ((u : Nat) : Int)), (8, .slice (some ⟨A2.nid, 0, none⟩) zs.length cap1), (9, .slice none 0 0), (10, .int .i64 ((i : Nat) : Int)), (13, .bool false), (16, .bool false), (29, .bool false), (43, .bool false), (54, .int .i64 ((zs.length : Nat) : Int)), (55, .int .i64 ((i : Nat) : Int)), (56, .bool (decide (((i : Nat) : Int) < ((zs.length : Nat) : Int)))), (58, .slice (some ⟨A2.nid, 0, none⟩) zs.length cap1), (59, .int .i64 ((i : Nat) : Int)), (62, .int .u8 (bXor .u8 z 255)), (63, .pointer (some ⟨A2.nid, 0 + i * 1, none⟩)), (64, .int .i64 ((i + 1 : Nat) : Int))]) (by rw [show (IntKind.wrap .i64 (((i : Nat) : Int) + 1) : Int) = ((i + 1 : Nat) : Int) from by rw [wrap_i64 (by omega) (by omega)]; omega]) ?_
            refine EO.run 2 [0, 2, 3, 4, 5, 6, 7, 8, 9, 13, 16, 29, 43, 54, 55] (S2 := [(0, .slice a zs.length cap), (2, .bool false), (3, .int .u64 ((n : Nat) : Int)), (4, .int .i64 0), (5, .bool false), (6, .int .u64 ((n : Nat) : Int)), (7, .int .i64 ((u : Nat) : Int)), (8, .slice (some ⟨A2.nid, 0, none⟩) zs.length cap1), (9, .slice none 0 0), (13, .bool false), (16, .bool false), (29, .bool false), (43, .bool false), (54, .int .i64 ((zs.length : Nat) : Int)), (55, .int .i64 ((i + 1 : Nat) : Int))]) (A2 := A9) rfl (by kernel_rfl) ?_
            refine EO.done rfl ?_
            refine loopI_n ?_
            exact ⟨i + 1, zq.set i (bXor .u8 z 255), by omega, by omega, by simpa using q3, rfl, hOw2, hMod.trans hmod⟩
          ·
            refine J.exit ?_
            refine thenJ_e ?_
            refine loopI_e ?_
            refine blockQ_hit ?_
            refine thenJ_n ?_
            have h5 := h4m hMod
            have f13 := f13_spec (pre := pre) (dr := dr) (m := m + 1) hp13 hp11 hp26 h5 hMod.nx 0 (by omega) (by omega)
            have e13 := f13.1 hpa
            refine J.sr ?_
            refine EO.run 1 [0, 2, 3, 4, 5, 6, 7, 8, 9, 13, 16, 29, 43, 54, 55, 56, 66] (S2 := [(0, .slice a zs.length cap), (2, .bool false), (3, .int .u64 ((n : Nat) : Int)), (4, .int .i64 0), (5, .bool false), (6, .int .u64 ((n : Nat) : Int)), (7, .int .i64 ((u : Nat) : Int)), (8, .slice (some ⟨A2.nid, 0, none⟩) zs.length cap1), (9, .slice none 0 0), (13, .bool false), (16, .bool false), (29, .bool false), (43, .bool false), (54, .int .i64 ((zs.length : Nat) : Int)), (55, .int .i64 ((i : Nat) : Int)), (56, .bool (decide (((i : Nat) : Int) < ((zs.length : Nat) : Int)))), (66, .slice a zs.length cap)]) (A2 := A5) rfl (by kernel_rfl) ?_
            refine EO.fcall (f := 13) (vs := [.slice a zs.length cap, .int .i64 0]) (v := .tuple #[.slice none 0 0, .int .i64 (-1)]) (A1 := A5) rfl rfl rfl rfl (by kernel_rfl) (by kernel_rfl) (e13) ?_
            refine EO.run 7 [0, 2, 3, 4, 5, 6, 7, 8, 9, 11, 13, 16, 29, 43, 54, 55, 56] (S2 := [(0, .slice a zs.length cap), (2, .bool false), (3, .int .u64 ((n : Nat) : Int)), (4, .int .i64 0), (5, .bool false), (6, .int .u64 ((n : Nat) : Int)), (7, .int .i64 (-1)), (8, .slice (some ⟨A2.nid, 0, none⟩) zs.length cap1), (9, .slice none 0 0), (11, .slice none 0 0), (13, .bool false), (16, .bool false), (29, .bool false), (43, .bool false), (54, .int .i64 ((zs.length : Nat) : Int)), (55, .int .i64 ((i : Nat) : Int)), (56, .bool (decide (((i : Nat) : Int) < ((zs.length : Nat) : Int))))]) (A2 := A5) rfl (by kernel_rfl) ?_
            refine EO.done rfl ?_
            refine J.sr ?_
            refine EO.run 1 [0, 2, 3, 4, 5, 6, 7, 8, 9, 11, 13, 16, 29, 43, 54, 55, 56, 70] (S2 := [(0, .slice a zs.length cap), (2, .bool false), (3, .int .u64 ((n : Nat) : Int)), (4, .int .i64 0), (5, .bool false), (6, .int .u64 ((n : Nat) : Int)), (7, .int .i64 (-1)), (8, .slice (some ⟨A2.nid, 0, none⟩) zs.length cap1), (9, .slice none 0 0), (11, .slice none 0 0), (13, .bool false), (16, .bool false), (29, .bool false), (43, .bool false), (54, .int .i64 ((zs.length : Nat) : Int)), (55, .int .i64 ((i : Nat) : Int)), (56, .bool (decide (((i : Nat) : Int) < ((zs.length : Nat) : Int)))), (70, .slice none 0 0)]) (A2 := A5) rfl (by kernel_rfl) ?_
            refine EO.convert (v := .slice none 0 0) (w := .string (strFrom ByteArray.empty ([]))) (A1 := A5) rfl rfl rfl (by kernel_rfl) (by kernel_rfl) (((show RowV A5 (.slice none 0 0) [] from .inl ⟨rfl, rfl⟩)).toStr (e := 5) (by kernel_rfl) (by kernel_rfl) (by kernel_rfl)) ?_
            refine EO.run 3 [0, 2, 3, 4, 5, 6, 7, 8, 9, 11, 13, 16, 29, 43, 54, 55, 56, 71, 72] (S2 := [(0, .slice a zs.length cap), (2, .bool false), (3, .int .u64 ((n : Nat) : Int)), (4, .int .i64 0), (5, .bool false), (6, .int .u64 ((n : Nat) : Int)), (7, .int .i64 (-1)), (8, .slice (some ⟨A2.nid, 0, none⟩) zs.length cap1), (9, .slice none 0 0), (11, .slice none 0 0), (13, .bool false), (16, .bool false), (29, .bool false), (43, .bool false), (54, .int .i64 ((zs.length : Nat) : Int)), (55, .int .i64 ((i : Nat) : Int)), (56, .bool (decide (((i : Nat) : Int) < ((zs.length : Nat) : Int)))), (71, .string (strFrom ByteArray.empty ([]))), (72, .slice none 0 0)]) (A2 := A5) rfl (by kernel_rfl) ?_
            refine EO.convert (v := .slice none 0 0) (w := .string (strFrom ByteArray.empty ([]))) (A1 := A5) rfl rfl rfl (by kernel_rfl) (by kernel_rfl) (((show RowV A5 (.slice none 0 0) [] from .inl ⟨rfl, rfl⟩)).toStr (e := 5) (by kernel_rfl) (by kernel_rfl) (by kernel_rfl)) ?_
            refine EO.run 6 [0, 2, 3, 4, 5, 6, 7, 8, 9, 11, 13, 16, 29, 43, 54, 55, 56, 75] (S2 := [(0, .slice a zs.length cap), (2, .bool false), (3, .int .u64 ((n : Nat) : Int)), (4, .int .i64 0), (5, .bool false), (6, .int .u64 ((n : Nat) : Int)), (7, .int .i64 (-1)), (8, .slice (some ⟨A2.nid, 0, none⟩) zs.length cap1), (9, .slice none 0 0), (11, .slice none 0 0), (13, .bool false), (16, .bool false), (29, .bool false), (43, .bool false), (54, .int .i64 ((zs.length : Nat) : Int)), (55, .int .i64 ((i : Nat) : Int)), (56, .bool (decide (((i : Nat) : Int) < ((zs.length : Nat) : Int)))), (75, .bool ((strFrom ByteArray.empty ([])).toList == (strFrom ByteArray.empty ([])).toList))]) (A2 := A5) rfl (by kernel_rfl) ?_
            have d7 : ((strFrom ByteArray.empty ([])).toList == (strFrom ByteArray.empty ([])).toList) = true := beq_refl' rfl
            rw [d7]
            refine EO.run 9 [0, 2, 3, 4, 5, 6, 7, 8, 9, 11, 13, 16, 29, 43, 54, 55, 56, 75, 76, 78] (S2 := [(0, .slice a zs.length cap), (2, .bool false), (3, .int .u64 ((n : Nat) : Int)), (4, .int .i64 0), (5, .bool false), (6, .int .u64 ((n : Nat) : Int)), (7, .int .i64 (-1)), (8, .slice (some ⟨A2.nid, 0, none⟩) zs.length cap1), (9, .slice none 0 0), (11, .slice none 0 0), (13, .bool false), (16, .bool false), (29, .bool false), (43, .bool false), (54, .int .i64 ((zs.length : Nat) : Int)), (55, .int .i64 ((i : Nat) : Int)), (56, .bool (decide (((i : Nat) : Int) < ((zs.length : Nat) : Int)))), (75, .bool true), (76, .int .i64 0), (78, .int .i64 0)]) (A2 := A5) rfl (by kernel_rfl) ?_
            refine EO.run 18 [0, 2, 3, 4, 5, 6, 7, 8, 9, 11, 13, 16, 29, 43, 54, 55, 56] (S2 := [(0, .slice a zs.length cap), (2, .bool true), (3, .int .u64 ((n : Nat) : Int)), (4, .int .i64 0), (5, .bool false), (6, .int .u64 ((n : Nat) : Int)), (7, .int .i64 (-1)), (8, .slice (some ⟨A2.nid, 0, none⟩) zs.length cap1), (9, .slice none 0 0), (11, .slice none 0 0), (13, .bool false), (16, .bool false), (29, .bool false), (43, .bool false), (54, .int .i64 ((zs.length : Nat) : Int)), (55, .int .i64 ((i : Nat) : Int)), (56, .bool (decide (((i : Nat) : Int) < ((zs.length : Nat) : Int))))]) (A2 := A5) rfl (by kernel_rfl) ?_
            refine EO.done rfl ?_
            refine J.ret ?_
            refine Ends_r (vs := [.bool true]) (by kernel_rfl) ?_
            exact rfl
        | some le =>
          obtain ⟨l, e⟩ := le
          obtain ⟨w2, A4, e12, hwn, hx4, hn4⟩ := f12.2 l e hpa
          have hown4 := hown.ext hx4
          have h4m : ∀ {B : AW}, AMod A4 A2.nid B → RowV B v zs := fun {B} hM => by
            rcases h with ⟨q1, q2⟩ | ⟨b, o, c, q1, q2⟩
            · exact .inl ⟨q1, q2⟩
            · exact .inr ⟨b, o, c, q1, ((((q2.ext hx1).ext hxA2).ext hxA3).ext hx4).mod hM (hlt (B := A) q2)⟩
          have hw2m : ∀ {B : AW}, AMod A4 A2.nid B → RowV B w2 l := fun {B} hM => by
            rcases hwn with ⟨q1, q2⟩ | ⟨b, o, c, q1, q3, q2⟩
            · exact .inl ⟨q1, q2⟩
            · exact .inr ⟨b, o, c, q1, q2.mod hM (by have := hown.lt; omega)⟩
          subst hv
          refine J.fn (fn := Try.f3) hp Try.func3 rfl (Nat.le_of_ble_eq_true rfl) ?_
          refine J.sr ?_
          refine EO.run 1 [0, 2] (S2 := [(0, .slice a zs.length cap), (2, .bool false)]) (A2 := A) rfl (by kernel_rfl) ?_
          refine EO.done rfl ?_
          refine J.seq ?_
          refine J.sr ?_
          refine EO.fcall (f := 9) (vs := []) (v := .bool true) (A1 := A) rfl rfl rfl rfl (by kernel_rfl) (by kernel_rfl) (hk9) ?_
          refine EO.run 2 [0, 2, 13] (S2 := [(0, .slice a zs.length cap), (2, .bool false), (13, .bool false)]) (A2 := A) rfl (by kernel_rfl) ?_
          refine EO.done rfl ?_
          refine J.cond false (by kernel_rfl) (fun h => Bool.noConfusion h) (fun _ => ?_)
          refine J.skip ?_
          refine thenJ_n ?_
          refine J.seq ?_
          refine J.sr ?_
          refine EO.run 3 [0, 2, 13, 16] (S2 := [(0, .slice a zs.length cap), (2, .bool false), (13, .bool false), (16, .bool (decide (((zs.length : Nat) : Int) > 3000)))]) (A2 := A) rfl (by kernel_rfl) ?_
          refine EO.done rfl ?_
          have d1 : (decide (((zs.length : Nat) : Int) > 3000)) = false := decide_eq_false (by omega)
          rw [d1]
          refine J.cond false (by kernel_rfl) (fun h => Bool.noConfusion h) (fun _ => ?_)
          refine J.skip ?_
          refine thenJ_n ?_
          refine J.sr ?_
          refine EO.run 1 [0, 2, 13, 16, 18] (S2 := [(0, .slice a zs.length cap), (2, .bool false), (13, .bool false), (16, .bool false), (18, .slice a zs.length cap)]) (A2 := A) rfl (by kernel_rfl) ?_
          refine EO.fcall (f := 10) (vs := [.slice a zs.length cap]) (v := .tuple #[.int .u64 ((n : Nat) : Int), .int .i64 ((u : Nat) : Int), .bool true]) (A1 := A1) rfl rfl rfl rfl (by kernel_rfl) (by kernel_rfl) (e10) ?_
          refine EO.run 9 [0, 2, 3, 4, 5, 13, 16] (S2 := [(0, .slice a zs.length cap), (2, .bool false), (3, .int .u64 ((n : Nat) : Int)), (4, .int .i64 ((u : Nat) : Int)), (5, .bool true), (13, .bool false), (16, .bool false)]) (A2 := A1) rfl (by kernel_rfl) ?_
          refine EO.done rfl ?_
          refine J.sr ?_
          refine EO.run 1 [0, 2, 3, 4, 5, 13, 16, 24] (S2 := [(0, .slice a zs.length cap), (2, .bool false), (3, .int .u64 ((n : Nat) : Int)), (4, .int .i64 ((u : Nat) : Int)), (5, .bool true), (13, .bool false), (16, .bool false), (24, .slice a zs.length cap)]) (A2 := A1) rfl (by kernel_rfl) ?_
          refine EO.fcall (f := 11) (vs := [.slice a zs.length cap, .int .i64 0]) (v := .tuple #[.int .u64 ((n : Nat) : Int), .int .i64 ((u : Nat) : Int)]) (A1 := A1) rfl rfl rfl rfl (by kernel_rfl) (by kernel_rfl) (e11) ?_
          refine EO.run 7 [0, 2, 3, 4, 5, 6, 7, 13, 16] (S2 := [(0, .slice a zs.length cap), (2, .bool false), (3, .int .u64 ((n : Nat) : Int)), (4, .int .i64 ((u : Nat) : Int)), (5, .bool true), (6, .int .u64 ((n : Nat) : Int)), (7, .int .i64 ((u : Nat) : Int)), (13, .bool false), (16, .bool false)]) (A2 := A1) rfl (by kernel_rfl) ?_
          refine EO.done rfl ?_
          refine J.seq ?_
          refine J.sr ?_
          refine EO.run 2 [0, 2, 3, 4, 5, 6, 7, 13, 16, 29] (S2 := [(0, .slice a zs.length cap), (2, .bool false), (3, .int .u64 ((n : Nat) : Int)), (4, .int .i64 ((u : Nat) : Int)), (5, .bool true), (6, .int .u64 ((n : Nat) : Int)), (7, .int .i64 ((u : Nat) : Int)), (13, .bool false), (16, .bool false), (29, .bool (decide (((u : Nat) : Int) < 0)))]) (A2 := A1) rfl (by kernel_rfl) ?_
          refine EO.done rfl ?_
          have d2 : (decide (((u : Nat) : Int) < 0)) = false := decide_eq_false (by omega)
          rw [d2]
          refine J.cond false (by kernel_rfl) (fun h => Bool.noConfusion h) (fun _ => ?_)
          refine J.skip ?_
          refine thenJ_n ?_
          refine J.seq ?_
          refine J.sr ?_
          refine EO.run 4 [0, 2, 3, 4, 5, 6, 7, 13, 16, 29, 33] (S2 := [(0, .slice a zs.length cap), (2, .bool false), (3, .int .u64 ((n : Nat) : Int)), (4, .int .i64 ((u : Nat) : Int)), (5, .bool true), (6, .int .u64 ((n : Nat) : Int)), (7, .int .i64 ((u : Nat) : Int)), (13, .bool false), (16, .bool false), (29, .bool false), (33, .bool (((n : Nat) : Int) != ((n : Nat) : Int)))]) (A2 := A1) rfl (by kernel_rfl) ?_
          have d3 : (((n : Nat) : Int) != ((n : Nat) : Int)) = false := bne_refl' rfl
          rw [d3]
          refine EO.run 9 [0, 2, 3, 4, 5, 6, 7, 13, 16, 29, 38] (S2 := [(0, .slice a zs.length cap), (2, .bool false), (3, .int .u64 ((n : Nat) : Int)), (4, .int .i64 ((u : Nat) : Int)), (5, .bool true), (6, .int .u64 ((n : Nat) : Int)), (7, .int .i64 ((u : Nat) : Int)), (13, .bool false), (16, .bool false), (29, .bool false), (38, .bool (((u : Nat) : Int) != ((u : Nat) : Int)))]) (A2 := A1) rfl (by kernel_rfl) ?_
          have d4 : (((u : Nat) : Int) != ((u : Nat) : Int)) = false := bne_refl' rfl
          rw [d4]
          refine EO.run 12 [0, 2, 3, 4, 5, 6, 7, 13, 16, 29, 38, 39, 41] (S2 := [(0, .slice a zs.length cap), (2, .bool false), (3, .int .u64 ((n : Nat) : Int)), (4, .int .i64 ((u : Nat) : Int)), (5, .bool true), (6, .int .u64 ((n : Nat) : Int)), (7, .int .i64 ((u : Nat) : Int)), (13, .bool false), (16, .bool false), (29, .bool false), (38, .bool false), (39, .bool true), (41, .bool (decide (((u : Nat) : Int) > 0)))]) (A2 := A1) rfl (by kernel_rfl) ?_
          have d5 : (decide (((u : Nat) : Int) > 0)) = true := decide_eq_true (by omega)
          rw [d5]
          refine EO.run 14 [0, 2, 3, 4, 5, 6, 7, 13, 16, 29, 43] (S2 := [(0, .slice a zs.length cap), (2, .bool false), (3, .int .u64 ((n : Nat) : Int)), (4, .int .i64 ((u : Nat) : Int)), (5, .bool true), (6, .int .u64 ((n : Nat) : Int)), (7, .int .i64 ((u : Nat) : Int)), (13, .bool false), (16, .bool false), (29, .bool false), (43, .bool false)]) (A2 := A1) rfl (by kernel_rfl) ?_
          refine EO.done rfl ?_
          refine J.cond false (by kernel_rfl) (fun h => Bool.noConfusion h) (fun _ => ?_)
          refine J.skip ?_
          refine thenJ_n ?_
          refine J.sr ?_
          refine EO.run 1 [0, 2, 3, 4, 5, 6, 7, 13, 16, 29, 43, 44] (S2 := [(0, .slice a zs.length cap), (2, .bool false), (3, .int .u64 ((n : Nat) : Int)), (4, .int .i64 ((u : Nat) : Int)), (5, .bool true), (6, .int .u64 ((n : Nat) : Int)), (7, .int .i64 ((u : Nat) : Int)), (13, .bool false), (16, .bool false), (29, .bool false), (43, .bool false), (44, .slice (some ⟨A1.nid, 0, none⟩) 0 0)]) (A2 := A1.push (.cells [] false false 1)) rfl (by kernel_rfl) ?_
          rw [hA2]
          refine EO.run 2 [0, 2, 3, 4, 5, 6, 7, 13, 16, 29, 43, 44, 45] (S2 := [(0, .slice a zs.length cap), (2, .bool false), (3, .int .u64 ((n : Nat) : Int)), (4, .int .i64 ((u : Nat) : Int)), (5, .bool true), (6, .int .u64 ((n : Nat) : Int)), (7, .int .i64 ((u : Nat) : Int)), (13, .bool false), (16, .bool false), (29, .bool false), (43, .bool false), (44, .slice (some ⟨A1.nid, 0, none⟩) 0 0), (45, .slice a zs.length cap)]) (A2 := A2) rfl (by kernel_rfl) ?_
          refine EO.append (v := .slice (some ⟨A1.nid, 0, none⟩) 0 0) (u := .slice a zs.length cap) (w := .slice (some ⟨A2.nid, 0, none⟩) zs.length cap1) (A1 := A3) rfl rfl rfl rfl rfl (by kernel_rfl) (by kernel_rfl) (by kernel_rfl) hA3 ?_
          refine EO.run 4 [0, 2, 3, 4, 5, 6, 7, 8, 13, 16, 29, 43] (S2 := [(0, .slice a zs.length cap), (2, .bool false), (3, .int .u64 ((n : Nat) : Int)), (4, .int .i64 ((u : Nat) : Int)), (5, .bool true), (6, .int .u64 ((n : Nat) : Int)), (7, .int .i64 ((u : Nat) : Int)), (8, .slice (some ⟨A2.nid, 0, none⟩) zs.length cap1), (13, .bool false), (16, .bool false), (29, .bool false), (43, .bool false)]) (A2 := A3) rfl (by kernel_rfl) ?_
          refine EO.done rfl ?_
          refine J.sr ?_
          refine EO.run 1 [0, 2, 3, 4, 5, 6, 7, 8, 13, 16, 29, 43, 48] (S2 := [(0, .slice a zs.length cap), (2, .bool false), (3, .int .u64 ((n : Nat) : Int)), (4, .int .i64 ((u : Nat) : Int)), (5, .bool true), (6, .int .u64 ((n : Nat) : Int)), (7, .int .i64 ((u : Nat) : Int)), (8, .slice (some ⟨A2.nid, 0, none⟩) zs.length cap1), (13, .bool false), (16, .bool false), (29, .bool false), (43, .bool false), (48, .slice (some ⟨A2.nid, 0, none⟩) zs.length cap1)]) (A2 := A3) rfl (by kernel_rfl) ?_
          refine EO.fcall (f := 12) (vs := [.slice (some ⟨A2.nid, 0, none⟩) zs.length cap1]) (v := .tuple #[w2, .int .i64 ((e : Nat) : Int), .bool true]) (A1 := A4) rfl rfl rfl rfl (by kernel_rfl) (by kernel_rfl) (e12) ?_
          refine EO.run 9 [0, 2, 3, 4, 5, 6, 7, 8, 9, 13, 16, 29, 43] (S2 := [(0, .slice a zs.length cap), (2, .bool false), (3, .int .u64 ((n : Nat) : Int)), (4, .int .i64 ((e : Nat) : Int)), (5, .bool true), (6, .int .u64 ((n : Nat) : Int)), (7, .int .i64 ((u : Nat) : Int)), (8, .slice (some ⟨A2.nid, 0, none⟩) zs.length cap1), (9, w2), (13, .bool false), (16, .bool false), (29, .bool false), (43, .bool false)]) (A2 := A4) rfl (by kernel_rfl) ?_
          refine EO.done rfl ?_
          refine J.seq ?_
          refine J.sr ?_
          refine EO.run 3 [0, 2, 3, 4, 5, 6, 7, 8, 9, 13, 16, 29, 43, 54, 55] (S2 := [(0, .slice a zs.length cap), (2, .bool false), (3, .int .u64 ((n : Nat) : Int)), (4, .int .i64 ((e : Nat) : Int)), (5, .bool true), (6, .int .u64 ((n : Nat) : Int)), (7, .int .i64 ((u : Nat) : Int)), (8, .slice (some ⟨A2.nid, 0, none⟩) zs.length cap1), (9, w2), (13, .bool false), (16, .bool false), (29, .bool false), (43, .bool false), (54, .int .i64 ((zs.length : Nat) : Int)), (55, .int .i64 0)]) (A2 := A4) rfl (by kernel_rfl) ?_
          refine EO.done rfl ?_
          refine J.block ?_
          refine J.loopI (fun k S A => ∃ (i : Nat) (zq : List Int), i + k = zs.length + 1 ∧ i ≤ zs.length ∧ zq.length = zs.length ∧ S = [(0, .slice a zs.length cap), (2, .bool false), (3, .int .u64 ((n : Nat) : Int)), (4, .int .i64 ((e : Nat) : Int)), (5, .bool true), (6, .int .u64 ((n : Nat) : Int)), (7, .int .i64 ((u : Nat) : Int)), (8, .slice (some ⟨A2.nid, 0, none⟩) zs.length cap1), (9, w2), (13, .bool false), (16, .bool false), (29, .bool false), (43, .bool false), (54, .int .i64 ((zs.length : Nat) : Int)), (55, .int .i64 ((i : Nat) : Int))] ∧ Own A A2.nid zq ∧ AMod A4 A2.nid A) (zs.length + 1) (by omega) ⟨0, zs, by omega, Nat.zero_le _, rfl, rfl, hown4, AMod.refl hn4⟩ ?_ ?_
          rotate_left
          · rintro S A ⟨i, zq, q1, q2, _⟩; omega
          rintro k S A5 ⟨i, zq, q1, q2, q3, rfl, hOw, hMod⟩
          refine J.sr ?_
          refine EO.run 1 [0, 2, 3, 4, 5, 6, 7, 8, 9, 13, 16, 29, 43, 54, 55, 56] (S2 := [(0, .slice a zs.length cap), (2, .bool false), (3, .int .u64 ((n : Nat) : Int)), (4, .int .i64 ((e : Nat) : Int)), (5, .bool true), (6, .int .u64 ((n : Nat) : Int)), (7, .int .i64 ((u : Nat) : Int)), (8, .slice (some ⟨A2.nid, 0, none⟩) zs.length cap1), (9, w2), (13, .bool false), (16, .bool false), (29, .bool false), (43, .bool false), (54, .int .i64 ((zs.length : Nat) : Int)), (55, .int .i64 ((i : Nat) : Int)), (56, .bool (decide (((i : Nat) : Int) < ((zs.length : Nat) : Int))))]) (A2 := A5) rfl (by kernel_rfl) ?_
          refine EO.done rfl ?_
          refine J.seq ?_
          refine J.cond (decide (((i : Nat) : Int) < ((zs.length : Nat) : Int))) (by kernel_rfl) (fun h6 => ?_) (fun h6 => ?_)
          ·
            refine J.skip ?_
            refine thenJ_n ?_
            refine J.seq ?_
            refine J.block ?_
            have q4 : i < zs.length := by have := of_decide_eq_true h6; omega
            obtain ⟨z, hz⟩ : ∃ z, zq[i]? = some z := ⟨_, List.getElem?_eq_getElem (by omega)⟩
            refine J.sr ?_
            refine EO.run 2 [0, 2, 3, 4, 5, 6, 7, 8, 9, 10, 13, 16, 29, 43, 54, 55, 56] (S2 := [(0, .slice a zs.length cap), (2, .bool false), (3, .int .u64 ((n : Nat) : Int)), (4, .int .i64 ((e : Nat) : Int)), (5, .bool true), (6, .int .u64 ((n : Nat) : Int)), (7, .int .i64 ((u : Nat) : Int)), (8, .slice (some ⟨A2.nid, 0, none⟩) zs.length cap1), (9, w2), (10, .int .i64 ((i : Nat) : Int)), (13, .bool false), (16, .bool false), (29, .bool false), (43, .bool false), (54, .int .i64 ((zs.length : Nat) : Int)), (55, .int .i64 ((i : Nat) : Int)), (56, .bool (decide (((i : Nat) : Int) < ((zs.length : Nat) : Int))))]) (A2 := A5) rfl (by kernel_rfl) ?_
            refine EO.done rfl ?_
            refine J.region ?_
            refine EO.run 2 [0, 2, 3, 4, 5, 6, 7, 8, 9, 10, 13, 16, 29, 43, 54, 55, 56, 58, 59] (S2 := [(0, .slice a zs.length cap), (2, .bool false), (3, .int .u64 ((n : Nat) : Int)), (4, .int .i64 ((e : Nat) : Int)), (5, .bool true), (6, .int .u64 ((n : Nat) : Int)), (7, .int .i64 ((u : Nat) : Int)), (8, .slice (some ⟨A2.nid, 0, none⟩) zs.length cap1), (9, w2), (10, .int .i64 ((i : Nat) : Int)), (13, .bool false), (16, .bool false), (29, .bool false), (43, .bool false), (54, .int .i64 ((zs.length : Nat) : Int)), (55, .int .i64 ((i : Nat) : Int)), (56, .bool (decide (((i : Nat) : Int) < ((zs.length : Nat) : Int)))), (58, .slice (some ⟨A2.nid, 0, none⟩) zs.length cap1), (59, .int .i64 ((i : Nat) : Int))]) (A2 := A5) rfl (by kernel_rfl) ?_
            refine EO.index (v := .slice (some ⟨A2.nid, 0, none⟩) zs.length cap1) (u := .int .i64 (Int.ofNat i)) (w := .pointer (some ⟨A2.nid, 0 + i * 1, none⟩)) rfl rfl rfl (by kernel_rfl) (by kernel_rfl) (by kernel_rfl) (aindexAddr_slice (elem := 5) (size := 1) (by kernel_rfl) (by kernel_rfl) q4) ?_
            refine EO.load (ad := ⟨A2.nid, 0 + i * 1, none⟩) (w := .int .u8 z) rfl rfl rfl (by kernel_rfl) (by kernel_rfl) (hOw.row.load (by kernel_rfl) hz) ?_
            refine EO.run 5 [0, 2, 3, 4, 5, 6, 7, 8, 9, 10, 13, 16, 29, 43, 54, 55, 56, 58, 59, 62] (S2 := [(0, .slice a zs.length cap), (2, .bool false), (3, .int .u64 ((n : Nat) : Int)), (4, .int .i64 ((e : Nat) : Int)), (5, .bool true), (6, .int .u64 ((n : Nat) : Int)), (7, .int .i64 ((u : Nat) : Int)), (8, .slice (some ⟨A2.nid, 0, none⟩) zs.length cap1), (9, w2), (10, .int .i64 ((i : Nat) : Int)), (13, .bool false), (16, .bool false), (29, .bool false), (43, .bool false), (54, .int .i64 ((zs.length : Nat) : Int)), (55, .int .i64 ((i : Nat) : Int)), (56, .bool (decide (((i : Nat) : Int) < ((zs.length : Nat) : Int)))), (58, .slice (some ⟨A2.nid, 0, none⟩) zs.length cap1), (59, .int .i64 ((i : Nat) : Int)), (62, .int .u8 (bXor .u8 z 255))]) (A2 := A5) rfl (by kernel_rfl) ?_
            refine EO.index (v := .slice (some ⟨A2.nid, 0, none⟩) zs.length cap1) (u := .int .i64 (Int.ofNat i)) (w := .pointer (some ⟨A2.nid, 0 + i * 1, none⟩)) rfl rfl rfl (by kernel_rfl) (by kernel_rfl) (by kernel_rfl) (aindexAddr_slice (elem := 5) (size := 1) (by kernel_rfl) (by kernel_rfl) q4) ?_
            obtain ⟨A9, hst, hOw2, hmod⟩ := hOw.store (P := Try.prog) hMod.nx (t := 5) (by kernel_rfl) (i := i) (by omega) (z := bXor .u8 z 255) xor255
            refine EO.store (ad := ⟨A2.nid, 0 + i * 1, none⟩) (u := .int .u8 (bXor .u8 z 255)) (A1 := A9) rfl rfl rfl (by kernel_rfl) (by kernel_rfl) (by kernel_rfl) hst ?_
            refine EO.done rfl ?_
            refine blockQ_n ?_
            refine thenJ_n ?_
            refine J.region ?_
            refine EO.run 1 [0, 2, 3, 4, 5, 6, 7, 8, 9, 10, 13, 16, 29, 43, 54, 55, 56, 58, 59, 62, 63, 64] (S2 := [(0, .slice a zs.length cap), (2, .bool false), (3, .int .u64 ((n : Nat) : Int)), (4, .int .i64 ((e : Nat) : Int)), (5, .bool true), (6, .int .u64 ((n : Nat) : Int)), (7, .int .i64 ((u : Nat) : Int)), (8, .slice (some ⟨A2.nid, 0, none⟩) zs.length cap1), (9, w2), (10, .int .i64 ((i : Nat) : Int)), (13, .bool false), (16, .bool false), (29, .bool false), (43, .bool false), (54, .int .i64 ((zs.length : Nat) : Int)), (55, .int .i64 ((i : Nat) : Int)), (56, .bool (decide (((i : Nat) : Int) < ((zs.length : Nat) : Int)))), (58, .slice (some ⟨A2.nid, 0, none⟩) zs.length cap1), (59, .int .i64 ((i : Nat) : Int)), (62, .int .u8 (bXor .u8 z 255)), (63, .pointer (some ⟨A2.nid, 0 + i * 1, none⟩)), (64, .int .i64 (IntKind.wrap .i64 (((i : Nat) : Int) + 1)))]) (A2 := A9) rfl (by kernel_rfl) ?_
            refine EO.cast (S2 := [(0, .slice a zs.length cap), (2, .bool false), (3, .int .u64 ((n : Nat) : Int)), (4, .int .i64 ((e : Nat) : Int)), (5, .bool true), (6, .int .u64 ((n : Nat) : Int)), (7, .int .i64 ((u : Nat) : Int)), (8, .slice (some ⟨A2.nid, 0, none⟩) zs.length cap1), (9, w2), (10, .int .i64 ((i : Nat) : Int)), (13, .bool false), (16, .bool false), (29, .bool false), (43, .bool false), (54, .int .i64 ((zs.length : Nat) : Int)), (55, .int .i64 ((i : Nat) : Int)), (56, .bool (decide (((i : Nat) : Int) < ((zs.length : Nat) : Int)))), (58, .slice (some ⟨A2.nid, 0, none⟩) zs.length cap1), (59, .int .i64 ((i : Nat) : Int)), (62, .int .u8 (bXor .u8 z 255)), (63, .pointer (some ⟨A2.nid, 0 + i * 1, none⟩)), (64, .int .i64 ((i + 1 : Nat) : Int))]) (by rw [show (IntKind.wrap .i64 (((i : Nat) : Int) + 1) : Int) = ((i + 1 : Nat) : Int) from by rw [wrap_i64 (by omega) (by omega)]; omega]) ?_
            refine EO.run 2 [0, 2, 3, 4, 5, 6, 7, 8, 9, 13, 16, 29, 43, 54, 55] (S2 := [(0, .slice a zs.length cap), (2, .bool false), (3, .int .u64 ((n : Nat) : Int)), (4, .int .i64 ((e : Nat) : Int)), (5, .bool true), (6, .int .u64 ((n : Nat) : Int)), (7, .int .i64 ((u : Nat) : Int)), (8, .slice (some ⟨A2.nid, 0, none⟩) zs.length cap1), (9, w2), (13, .bool false), (16, .bool false), (29, .bool false), (43, .bool false), (54, .int .i64 ((zs.length : Nat) : Int)), (55, .int .i64 ((i + 1 : Nat) : Int))]) (A2 := A9) rfl (by kernel_rfl) ?_
            refine EO.done rfl ?_
            refine loopI_n ?_
            exact ⟨i + 1, zq.set i (bXor .u8 z 255), by omega, by omega, by simpa using q3, rfl, hOw2, hMod.trans hmod⟩
          ·
            refine J.exit ?_
            refine thenJ_e ?_
            refine loopI_e ?_
            refine blockQ_hit ?_
            refine thenJ_n ?_
            have h5 := h4m hMod
            have f13 := f13_spec (pre := pre) (dr := dr) (m := m + 1) hp13 hp11 hp26 h5 hMod.nx 0 (by omega) (by omega)
            obtain ⟨w3, A6, e13, hw3, hx6, hn6⟩ := f13.2 l e hpa
            have hw2 := (hw2m hMod).ext hx6
            refine J.sr ?_
            refine EO.run 1 [0, 2, 3, 4, 5, 6, 7, 8, 9, 13, 16, 29, 43, 54, 55, 56, 66] (S2 := [(0, .slice a zs.length cap), (2, .bool false), (3, .int .u64 ((n : Nat) : Int)), (4, .int .i64 ((e : Nat) : Int)), (5, .bool true), (6, .int .u64 ((n : Nat) : Int)), (7, .int .i64 ((u : Nat) : Int)), (8, .slice (some ⟨A2.nid, 0, none⟩) zs.length cap1), (9, w2), (13, .bool false), (16, .bool false), (29, .bool false), (43, .bool false), (54, .int .i64 ((zs.length : Nat) : Int)), (55, .int .i64 ((i : Nat) : Int)), (56, .bool (decide (((i : Nat) : Int) < ((zs.length : Nat) : Int)))), (66, .slice a zs.length cap)]) (A2 := A5) rfl (by kernel_rfl) ?_
            refine EO.fcall (f := 13) (vs := [.slice a zs.length cap, .int .i64 0]) (v := .tuple #[w3, .int .i64 ((e : Nat) : Int)]) (A1 := A6) rfl rfl rfl rfl (by kernel_rfl) (by kernel_rfl) (e13) ?_
            refine EO.run 7 [0, 2, 3, 4, 5, 6, 7, 8, 9, 11, 13, 16, 29, 43, 54, 55, 56] (S2 := [(0, .slice a zs.length cap), (2, .bool false), (3, .int .u64 ((n : Nat) : Int)), (4, .int .i64 ((e : Nat) : Int)), (5, .bool true), (6, .int .u64 ((n : Nat) : Int)), (7, .int .i64 ((e : Nat) : Int)), (8, .slice (some ⟨A2.nid, 0, none⟩) zs.length cap1), (9, w2), (11, w3), (13, .bool false), (16, .bool false), (29, .bool false), (43, .bool false), (54, .int .i64 ((zs.length : Nat) : Int)), (55, .int .i64 ((i : Nat) : Int)), (56, .bool (decide (((i : Nat) : Int) < ((zs.length : Nat) : Int))))]) (A2 := A6) rfl (by kernel_rfl) ?_
            refine EO.done rfl ?_
            refine J.sr ?_
            refine EO.run 1 [0, 2, 3, 4, 5, 6, 7, 8, 9, 11, 13, 16, 29, 43, 54, 55, 56, 70] (S2 := [(0, .slice a zs.length cap), (2, .bool false), (3, .int .u64 ((n : Nat) : Int)), (4, .int .i64 ((e : Nat) : Int)), (5, .bool true), (6, .int .u64 ((n : Nat) : Int)), (7, .int .i64 ((e : Nat) : Int)), (8, .slice (some ⟨A2.nid, 0, none⟩) zs.length cap1), (9, w2), (11, w3), (13, .bool false), (16, .bool false), (29, .bool false), (43, .bool false), (54, .int .i64 ((zs.length : Nat) : Int)), (55, .int .i64 ((i : Nat) : Int)), (56, .bool (decide (((i : Nat) : Int) < ((zs.length : Nat) : Int)))), (70, w2)]) (A2 := A6) rfl (by kernel_rfl) ?_
            refine EO.convert (v := w2) (w := .string (strFrom ByteArray.empty (l))) (A1 := A6) rfl rfl rfl (by kernel_rfl) (by kernel_rfl) ((hw2).toStr (e := 5) (by kernel_rfl) (by kernel_rfl) (by kernel_rfl)) ?_
            refine EO.run 3 [0, 2, 3, 4, 5, 6, 7, 8, 9, 11, 13, 16, 29, 43, 54, 55, 56, 71, 72] (S2 := [(0, .slice a zs.length cap), (2, .bool false), (3, .int .u64 ((n : Nat) : Int)), (4, .int .i64 ((e : Nat) : Int)), (5, .bool true), (6, .int .u64 ((n : Nat) : Int)), (7, .int .i64 ((e : Nat) : Int)), (8, .slice (some ⟨A2.nid, 0, none⟩) zs.length cap1), (9, w2), (11, w3), (13, .bool false), (16, .bool false), (29, .bool false), (43, .bool false), (54, .int .i64 ((zs.length : Nat) : Int)), (55, .int .i64 ((i : Nat) : Int)), (56, .bool (decide (((i : Nat) : Int) < ((zs.length : Nat) : Int)))), (71, .string (strFrom ByteArray.empty (l))), (72, w3)]) (A2 := A6) rfl (by kernel_rfl) ?_
            refine EO.convert (v := w3) (w := .string (strFrom ByteArray.empty (l))) (A1 := A6) rfl rfl rfl (by kernel_rfl) (by kernel_rfl) ((hw3).toStr (e := 5) (by kernel_rfl) (by kernel_rfl) (by kernel_rfl)) ?_
            refine EO.run 6 [0, 2, 3, 4, 5, 6, 7, 8, 9, 11, 13, 16, 29, 43, 54, 55, 56, 75] (S2 := [(0, .slice a zs.length cap), (2, .bool false), (3, .int .u64 ((n : Nat) : Int)), (4, .int .i64 ((e : Nat) : Int)), (5, .bool true), (6, .int .u64 ((n : Nat) : Int)), (7, .int .i64 ((e : Nat) : Int)), (8, .slice (some ⟨A2.nid, 0, none⟩) zs.length cap1), (9, w2), (11, w3), (13, .bool false), (16, .bool false), (29, .bool false), (43, .bool false), (54, .int .i64 ((zs.length : Nat) : Int)), (55, .int .i64 ((i : Nat) : Int)), (56, .bool (decide (((i : Nat) : Int) < ((zs.length : Nat) : Int)))), (75, .bool ((strFrom ByteArray.empty (l)).toList == (strFrom ByteArray.empty (l)).toList))]) (A2 := A6) rfl (by kernel_rfl) ?_
            have d7 : ((strFrom ByteArray.empty (l)).toList == (strFrom ByteArray.empty (l)).toList) = true := beq_refl' rfl
            rw [d7]
            refine EO.run 9 [0, 2, 3, 4, 5, 6, 7, 8, 9, 11, 13, 16, 29, 43, 54, 55, 56, 75, 76, 78] (S2 := [(0, .slice a zs.length cap), (2, .bool false), (3, .int .u64 ((n : Nat) : Int)), (4, .int .i64 ((e : Nat) : Int)), (5, .bool true), (6, .int .u64 ((n : Nat) : Int)), (7, .int .i64 ((e : Nat) : Int)), (8, .slice (some ⟨A2.nid, 0, none⟩) zs.length cap1), (9, w2), (11, w3), (13, .bool false), (16, .bool false), (29, .bool false), (43, .bool false), (54, .int .i64 ((zs.length : Nat) : Int)), (55, .int .i64 ((i : Nat) : Int)), (56, .bool (decide (((i : Nat) : Int) < ((zs.length : Nat) : Int)))), (75, .bool true), (76, .int .i64 ((e : Nat) : Int)), (78, .int .i64 (if (0 : Int) > ((e : Nat) : Int) then 0 else ((e : Nat) : Int)))]) (A2 := A6) rfl (by kernel_rfl) ?_
            refine EO.cast (S2 := [(0, .slice a zs.length cap), (2, .bool false), (3, .int .u64 ((n : Nat) : Int)), (4, .int .i64 ((e : Nat) : Int)), (5, .bool true), (6, .int .u64 ((n : Nat) : Int)), (7, .int .i64 ((e : Nat) : Int)), (8, .slice (some ⟨A2.nid, 0, none⟩) zs.length cap1), (9, w2), (11, w3), (13, .bool false), (16, .bool false), (29, .bool false), (43, .bool false), (54, .int .i64 ((zs.length : Nat) : Int)), (55, .int .i64 ((i : Nat) : Int)), (56, .bool (decide (((i : Nat) : Int) < ((zs.length : Nat) : Int)))), (75, .bool true), (76, .int .i64 ((e : Nat) : Int)), (78, .int .i64 ((e : Nat) : Int))]) (by rw [if_neg (by omega)]) ?_
            refine EO.run 12 [0, 2, 3, 4, 5, 6, 7, 8, 9, 11, 13, 16, 29, 43, 54, 55, 56, 81] (S2 := [(0, .slice a zs.length cap), (2, .bool false), (3, .int .u64 ((n : Nat) : Int)), (4, .int .i64 ((e : Nat) : Int)), (5, .bool true), (6, .int .u64 ((n : Nat) : Int)), (7, .int .i64 ((e : Nat) : Int)), (8, .slice (some ⟨A2.nid, 0, none⟩) zs.length cap1), (9, w2), (11, w3), (13, .bool false), (16, .bool false), (29, .bool false), (43, .bool false), (54, .int .i64 ((zs.length : Nat) : Int)), (55, .int .i64 ((i : Nat) : Int)), (56, .bool (decide (((i : Nat) : Int) < ((zs.length : Nat) : Int)))), (81, .bool (((e : Nat) : Int) == ((e : Nat) : Int)))]) (A2 := A6) rfl (by kernel_rfl) ?_
            have d8 : (((e : Nat) : Int) == ((e : Nat) : Int)) = true := beq_refl' rfl
            rw [d8]
            refine EO.run 15 [0, 2, 3, 4, 5, 6, 7, 8, 9, 11, 13, 16, 29, 43, 54, 55, 56, 81, 82, 84] (S2 := [(0, .slice a zs.length cap), (2, .bool false), (3, .int .u64 ((n : Nat) : Int)), (4, .int .i64 ((e : Nat) : Int)), (5, .bool true), (6, .int .u64 ((n : Nat) : Int)), (7, .int .i64 ((e : Nat) : Int)), (8, .slice (some ⟨A2.nid, 0, none⟩) zs.length cap1), (9, w2), (11, w3), (13, .bool false), (16, .bool false), (29, .bool false), (43, .bool false), (54, .int .i64 ((zs.length : Nat) : Int)), (55, .int .i64 ((i : Nat) : Int)), (56, .bool (decide (((i : Nat) : Int) < ((zs.length : Nat) : Int)))), (81, .bool true), (82, .bool true), (84, .bool (decide (((e : Nat) : Int) ≥ 0)))]) (A2 := A6) rfl (by kernel_rfl) ?_
            have d9 : (decide (((e : Nat) : Int) ≥ 0)) = true := decide_eq_true (by omega)
            rw [d9]
            refine EO.run 18 [0, 2, 3, 4, 5, 6, 7, 8, 9, 11, 13, 16, 29, 43, 54, 55, 56] (S2 := [(0, .slice a zs.length cap), (2, .bool true), (3, .int .u64 ((n : Nat) : Int)), (4, .int .i64 ((e : Nat) : Int)), (5, .bool true), (6, .int .u64 ((n : Nat) : Int)), (7, .int .i64 ((e : Nat) : Int)), (8, .slice (some ⟨A2.nid, 0, none⟩) zs.length cap1), (9, w2), (11, w3), (13, .bool false), (16, .bool false), (29, .bool false), (43, .bool false), (54, .int .i64 ((zs.length : Nat) : Int)), (55, .int .i64 ((i : Nat) : Int)), (56, .bool (decide (((i : Nat) : Int) < ((zs.length : Nat) : Int))))]) (A2 := A6) rfl (by kernel_rfl) ?_
            refine EO.done rfl ?_
            refine J.ret ?_
            refine Ends_r (vs := [.bool true]) (by kernel_rfl) ?_
            exact rfl
end
end Go.Proofs.Ytioggedadamoaaa
