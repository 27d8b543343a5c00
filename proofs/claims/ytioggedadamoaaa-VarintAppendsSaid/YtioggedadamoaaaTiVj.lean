/- hostlerlaw01.VarintAppends: the walk over the abstract machine. -/
import Derived.Test.YtioggedadamoaaaTiVi
set_option autoImplicit false
set_option linter.unusedVariables false
set_option linter.unusedSimpArgs false
namespace Go.Proofs.Ytioggedadamoaaa
open Go.Abs Go.RowKit

section
variable {pre : FuncId → Option (List Value → AW → Option (Value × AW))} {dr : CallF → Array Oper → Array Value → AW → Option (Array Value × AW)} {A : AW} {m : Nat}


theorem f4_spec (hp : pre 4 = none) (hp14 : pre 14 = none) (hp15 : pre 15 = none) (hp16 : pre 16 = none) (hp17 : pre 17 = none) (hp25 : pre 25 = none) (hp27 : pre 27 = none) (hp28 : pre 28 = none)
    (hk : ∀ m A, acall Try.prog pre dr 100000 (m + 1) 9 [] A = some (.bool true, A)) {vb vl : Value} {zs ns : List Int} (hb : RowV A vb zs) (hl : R64 A vl ns) (hnx : A.nx = none) :
    ∃ A', acall Try.prog pre dr 100000 (m + 3) 4 [vb, vl] A = some (.bool true, A') := by
  suffices hs : ∃ v' A', acall Try.prog pre dr 100000 (m + 2 + 1) 4 [vb, vl] A = some (v', A') ∧ (v' = .bool true) by
    obtain ⟨v', A', e, rfl⟩ := hs
    exact ⟨A', e⟩
  have hk9 := hk (m + 1) A
  have hb0 := hb
  obtain ⟨ab, capb, hvb⟩ := hb.form
  subst hvb
  obtain ⟨al, capl, hvl⟩ := hl.form
  subst hvl
  by_cases hbig : 1000 < zs.length
  · refine J.fn (fn := Try.f4) hp Try.func4 rfl (Nat.le_of_ble_eq_true rfl) ?_
    refine J.sr ?_
    refine EO.run 1 [0, 1, 4] (S2 := [(0, .slice ab zs.length capb), (1, .slice al ns.length capl), (4, .bool false)]) (A2 := A) rfl (by kernel_rfl) ?_
    refine EO.done rfl ?_
    refine J.seq ?_
    refine J.sr ?_
    refine EO.fcall (f := 9) (vs := []) (v := .bool true) (A1 := A) rfl rfl rfl rfl (by kernel_rfl) (by kernel_rfl) (hk9) ?_
    refine EO.run 2 [0, 1, 4, 12] (S2 := [(0, .slice ab zs.length capb), (1, .slice al ns.length capl), (4, .bool false), (12, .bool false)]) (A2 := A) rfl (by kernel_rfl) ?_
    refine EO.done rfl ?_
    refine J.cond false (by kernel_rfl) (fun h => Bool.noConfusion h) (fun _ => ?_)
    refine J.skip ?_
    refine thenJ_n ?_
    refine J.seq ?_
    refine J.sr ?_
    refine EO.run 4 [0, 1, 4, 12, 16] (S2 := [(0, .slice ab zs.length capb), (1, .slice al ns.length capl), (4, .bool false), (12, .bool false), (16, .bool (decide (((zs.length : Nat) : Int) > 1000)))]) (A2 := A) rfl (by kernel_rfl) ?_
    have d1 : (decide (((zs.length : Nat) : Int) > 1000)) = true := decide_eq_true (by omega)
    rw [d1]
    refine EO.run 8 [0, 1, 4, 12, 20] (S2 := [(0, .slice ab zs.length capb), (1, .slice al ns.length capl), (4, .bool false), (12, .bool false), (20, .bool true)]) (A2 := A) rfl (by kernel_rfl) ?_
    refine EO.done rfl ?_
    refine J.cond true (by kernel_rfl) (fun _ => ?_) (fun h => Bool.noConfusion h)
    refine J.sr ?_
    refine EO.run 1 [0, 1, 4, 12, 20] (S2 := [(0, .slice ab zs.length capb), (1, .slice al ns.length capl), (4, .bool true), (12, .bool false), (20, .bool true)]) (A2 := A) rfl (by kernel_rfl) ?_
    refine EO.done rfl ?_
    refine J.ret ?_
    refine thenJ_r ?_
    refine Ends_r (vs := [.bool true]) (by kernel_rfl) ?_
    exact rfl
  · by_cases hbig2 : 300 < ns.length
    · refine J.fn (fn := Try.f4) hp Try.func4 rfl (Nat.le_of_ble_eq_true rfl) ?_
      refine J.sr ?_
      refine EO.run 1 [0, 1, 4] (S2 := [(0, .slice ab zs.length capb), (1, .slice al ns.length capl), (4, .bool false)]) (A2 := A) rfl (by kernel_rfl) ?_
      refine EO.done rfl ?_
      refine J.seq ?_
      refine J.sr ?_
      refine EO.fcall (f := 9) (vs := []) (v := .bool true) (A1 := A) rfl rfl rfl rfl (by kernel_rfl) (by kernel_rfl) (hk9) ?_
      refine EO.run 2 [0, 1, 4, 12] (S2 := [(0, .slice ab zs.length capb), (1, .slice al ns.length capl), (4, .bool false), (12, .bool false)]) (A2 := A) rfl (by kernel_rfl) ?_
      refine EO.done rfl ?_
      refine J.cond false (by kernel_rfl) (fun h => Bool.noConfusion h) (fun _ => ?_)
      refine J.skip ?_
      refine thenJ_n ?_
      refine J.seq ?_
      refine J.sr ?_
      refine EO.run 4 [0, 1, 4, 12, 16] (S2 := [(0, .slice ab zs.length capb), (1, .slice al ns.length capl), (4, .bool false), (12, .bool false), (16, .bool (decide (((zs.length : Nat) : Int) > 1000)))]) (A2 := A) rfl (by kernel_rfl) ?_
      have d1 : (decide (((zs.length : Nat) : Int) > 1000)) = false := decide_eq_false (by omega)
      rw [d1]
      refine EO.run 8 [0, 1, 4, 12, 20] (S2 := [(0, .slice ab zs.length capb), (1, .slice al ns.length capl), (4, .bool false), (12, .bool false), (20, .bool (decide (((ns.length : Nat) : Int) > 300)))]) (A2 := A) rfl (by kernel_rfl) ?_
      refine EO.done rfl ?_
      have d2 : (decide (((ns.length : Nat) : Int) > 300)) = true := decide_eq_true (by omega)
      rw [d2]
      refine J.cond true (by kernel_rfl) (fun _ => ?_) (fun h => Bool.noConfusion h)
      refine J.sr ?_
      refine EO.run 1 [0, 1, 4, 12, 20] (S2 := [(0, .slice ab zs.length capb), (1, .slice al ns.length capl), (4, .bool true), (12, .bool false), (20, .bool true)]) (A2 := A) rfl (by kernel_rfl) ?_
      refine EO.done rfl ?_
      refine J.ret ?_
      refine thenJ_r ?_
      refine Ends_r (vs := [.bool true]) (by kernel_rfl) ?_
      exact rfl
    · refine J.fn (fn := Try.f4) hp Try.func4 rfl (Nat.le_of_ble_eq_true rfl) ?_
      refine J.sr ?_
      refine EO.run 1 [0, 1, 4] (S2 := [(0, .slice ab zs.length capb), (1, .slice al ns.length capl), (4, .bool false)]) (A2 := A) rfl (by kernel_rfl) ?_
      refine EO.done rfl ?_
      refine J.seq ?_
      refine J.sr ?_
      refine EO.fcall (f := 9) (vs := []) (v := .bool true) (A1 := A) rfl rfl rfl rfl (by kernel_rfl) (by kernel_rfl) (hk9) ?_
      refine EO.run 2 [0, 1, 4, 12] (S2 := [(0, .slice ab zs.length capb), (1, .slice al ns.length capl), (4, .bool false), (12, .bool false)]) (A2 := A) rfl (by kernel_rfl) ?_
      refine EO.done rfl ?_
      refine J.cond false (by kernel_rfl) (fun h => Bool.noConfusion h) (fun _ => ?_)
      refine J.skip ?_
      refine thenJ_n ?_
      refine J.seq ?_
      refine J.sr ?_
      refine EO.run 4 [0, 1, 4, 12, 16] (S2 := [(0, .slice ab zs.length capb), (1, .slice al ns.length capl), (4, .bool false), (12, .bool false), (16, .bool (decide (((zs.length : Nat) : Int) > 1000)))]) (A2 := A) rfl (by kernel_rfl) ?_
      have d1 : (decide (((zs.length : Nat) : Int) > 1000)) = false := decide_eq_false (by omega)
      rw [d1]
      refine EO.run 8 [0, 1, 4, 12, 20] (S2 := [(0, .slice ab zs.length capb), (1, .slice al ns.length capl), (4, .bool false), (12, .bool false), (20, .bool (decide (((ns.length : Nat) : Int) > 300)))]) (A2 := A) rfl (by kernel_rfl) ?_
      refine EO.done rfl ?_
      have d2 : (decide (((ns.length : Nat) : Int) > 300)) = false := decide_eq_false (by omega)
      rw [d2]
      refine J.cond false (by kernel_rfl) (fun h => Bool.noConfusion h) (fun _ => ?_)
      refine J.skip ?_
      refine thenJ_n ?_
      refine J.sr ?_
      refine EO.run 1 [0, 1, 4, 12, 20, 21] (S2 := [(0, .slice ab zs.length capb), (1, .slice al ns.length capl), (4, .bool false), (12, .bool false), (20, .bool false), (21, .slice ab zs.length capb)]) (A2 := A) rfl (by kernel_rfl) ?_
      refine EO.convert (v := .slice ab zs.length capb) (w := .string (strFrom ByteArray.empty (zs))) (A1 := A) rfl rfl rfl (by kernel_rfl) (by kernel_rfl) ((hb0).toStr (e := 5) (by kernel_rfl) (by kernel_rfl) (by kernel_rfl)) ?_
      refine EO.run 3 [0, 1, 4, 5, 12, 20] (S2 := [(0, .slice ab zs.length capb), (1, .slice al ns.length capl), (4, .bool false), (5, .string (strFrom ByteArray.empty (zs))), (12, .bool false), (20, .bool false)]) (A2 := A) rfl (by kernel_rfl) ?_
      refine EO.done rfl ?_
      refine J.sr ?_
      refine EO.run 1 [0, 1, 4, 5, 6, 12, 20] (S2 := [(0, .slice ab zs.length capb), (1, .slice al ns.length capl), (4, .bool false), (5, .string (strFrom ByteArray.empty (zs))), (6, .bool true), (12, .bool false), (20, .bool false)]) (A2 := A) rfl (by kernel_rfl) ?_
      refine EO.done rfl ?_
      refine J.seq ?_
      refine J.sr ?_
      refine EO.run 3 [0, 1, 4, 5, 6, 12, 20, 23, 24, 25] (S2 := [(0, .slice ab zs.length capb), (1, .slice al ns.length capl), (4, .bool false), (5, .string (strFrom ByteArray.empty (zs))), (6, .bool true), (12, .bool false), (20, .bool false), (23, .slice al ns.length capl), (24, .int .i64 ((ns.length : Nat) : Int)), (25, .int .i64 0)]) (A2 := A) rfl (by kernel_rfl) ?_
      refine EO.done rfl ?_
      refine J.block ?_
      refine J.loopI (fun k S A' => ∃ (i : Nat) (bm : Bool) (zc : List Int), i + k = ns.length + 1 ∧ i ≤ ns.length ∧ (bm = true ↔ ∀ n ∈ ns.take i, clsN n < 4) ∧ zc = zs ++ encL (ns.take i) ∧ zc.length ≤ zs.length + 8 * i ∧ AExt A A' ∧ A'.nx = none ∧ S = [(0, .slice ab zs.length capb), (1, .slice al ns.length capl), (4, .bool false), (5, .string (strFrom ByteArray.empty zc)), (6, .bool bm), (12, .bool false), (20, .bool false), (23, .slice al ns.length capl), (24, .int .i64 ((ns.length : Nat) : Int)), (25, .int .i64 ((i : Nat) : Int))]) (ns.length + 1) (by omega) ⟨0, true, zs, by omega, Nat.zero_le _, by simp, by simp [encL], by omega, AExt.refl A, hnx, rfl⟩ ?_ ?_
      rotate_left
      · rintro S A ⟨i, _, _, q1, q2, _⟩; omega
      rintro k S A2 ⟨i, bm, zc, q1, q2, q3, q4, q5, hx, hn, rfl⟩
      refine J.sr ?_
      refine EO.run 1 [0, 1, 4, 5, 6, 12, 20, 23, 24, 25, 26] (S2 := [(0, .slice ab zs.length capb), (1, .slice al ns.length capl), (4, .bool false), (5, .string (strFrom ByteArray.empty zc)), (6, .bool bm), (12, .bool false), (20, .bool false), (23, .slice al ns.length capl), (24, .int .i64 ((ns.length : Nat) : Int)), (25, .int .i64 ((i : Nat) : Int)), (26, .bool (decide (((i : Nat) : Int) < ((ns.length : Nat) : Int))))]) (A2 := A2) rfl (by kernel_rfl) ?_
      refine EO.done rfl ?_
      refine J.seq ?_
      refine J.cond (decide (((i : Nat) : Int) < ((ns.length : Nat) : Int))) (by kernel_rfl) (fun h3 => ?_) (fun h3 => ?_)
      ·
        refine J.skip ?_
        refine thenJ_n ?_
        refine J.seq ?_
        refine J.block ?_
        refine J.sr ?_
        have q6 : i < ns.length := by have := of_decide_eq_true h3; omega
        obtain ⟨n, hnn⟩ : ∃ n, ns[i]? = some n := ⟨_, List.getElem?_eq_getElem q6⟩
        obtain ⟨ad, hi1, hi2⟩ := (hl.ext hx).load (P := Try.prog) (t := 24) (st := 34) (e := 24) (by kernel_rfl) (by kernel_rfl) (by kernel_rfl) hnn
        have hn0 := hl.1 n (List.mem_of_getElem? hnn)
        refine EO.index (v := .slice al ns.length capl) (u := .int .i64 (Int.ofNat i)) (w := .pointer (some ad)) rfl rfl rfl (by kernel_rfl) (by kernel_rfl) (by kernel_rfl) hi1 ?_
        refine EO.load (ad := ad) (w := .int .u64 n) rfl rfl rfl (by kernel_rfl) (by kernel_rfl) hi2 ?_
        refine EO.run 3 [0, 1, 4, 5, 6, 8, 12, 20, 23, 24, 25, 26] (S2 := [(0, .slice ab zs.length capb), (1, .slice al ns.length capl), (4, .bool false), (5, .string (strFrom ByteArray.empty zc)), (6, .bool bm), (8, .int .u64 n), (12, .bool false), (20, .bool false), (23, .slice al ns.length capl), (24, .int .i64 ((ns.length : Nat) : Int)), (25, .int .i64 ((i : Nat) : Int)), (26, .bool (decide (((i : Nat) : Int) < ((ns.length : Nat) : Int))))]) (A2 := A2) rfl (by kernel_rfl) ?_
        refine EO.done rfl ?_
        refine J.seq ?_
        refine J.sr ?_
        refine EO.run 1 [0, 1, 4, 5, 6, 8, 12, 20, 23, 24, 25, 26, 29] (S2 := [(0, .slice ab zs.length capb), (1, .slice al ns.length capl), (4, .bool false), (5, .string (strFrom ByteArray.empty zc)), (6, .bool bm), (8, .int .u64 n), (12, .bool false), (20, .bool false), (23, .slice al ns.length capl), (24, .int .i64 ((ns.length : Nat) : Int)), (25, .int .i64 ((i : Nat) : Int)), (26, .bool (decide (((i : Nat) : Int) < ((ns.length : Nat) : Int)))), (29, .int .u64 n)]) (A2 := A2) rfl (by kernel_rfl) ?_
        refine EO.fcall (f := 14) (vs := [.int .u64 n]) (v := .int .i64 ((szOf n : Nat) : Int)) (A1 := A2) rfl rfl rfl rfl (by kernel_rfl) (by kernel_rfl) (f14_spec hp14 hp25 hp27 n) ?_
        refine EO.run 3 [0, 1, 4, 5, 6, 8, 12, 20, 23, 24, 25, 26, 30, 31] (S2 := [(0, .slice ab zs.length capb), (1, .slice al ns.length capl), (4, .bool false), (5, .string (strFrom ByteArray.empty zc)), (6, .bool bm), (8, .int .u64 n), (12, .bool false), (20, .bool false), (23, .slice al ns.length capl), (24, .int .i64 ((ns.length : Nat) : Int)), (25, .int .i64 ((i : Nat) : Int)), (26, .bool (decide (((i : Nat) : Int) < ((ns.length : Nat) : Int)))), (30, .int .i64 ((szOf n : Nat) : Int)), (31, .int .u64 n)]) (A2 := A2) rfl (by kernel_rfl) ?_
        refine EO.fcall (f := 15) (vs := [.int .u64 n]) (v := .int .i64 ((szOf n : Nat) : Int)) (A1 := A2) rfl rfl rfl rfl (by kernel_rfl) (by kernel_rfl) (f15_spec hp15 n) ?_
        refine EO.run 5 [0, 1, 4, 5, 6, 8, 12, 20, 23, 24, 25, 26, 33] (S2 := [(0, .slice ab zs.length capb), (1, .slice al ns.length capl), (4, .bool false), (5, .string (strFrom ByteArray.empty zc)), (6, .bool bm), (8, .int .u64 n), (12, .bool false), (20, .bool false), (23, .slice al ns.length capl), (24, .int .i64 ((ns.length : Nat) : Int)), (25, .int .i64 ((i : Nat) : Int)), (26, .bool (decide (((i : Nat) : Int) < ((ns.length : Nat) : Int)))), (33, .bool (((szOf n : Nat) : Int) != ((szOf n : Nat) : Int)))]) (A2 := A2) rfl (by kernel_rfl) ?_
        refine EO.done rfl ?_
        have d4 : (((szOf n : Nat) : Int) != ((szOf n : Nat) : Int)) = false := bne_refl' rfl
        rw [d4]
        refine J.cond false (by kernel_rfl) (fun h => Bool.noConfusion h) (fun _ => ?_)
        refine J.skip ?_
        refine thenJ_n ?_
        refine J.sr ?_
        refine EO.run 2 [0, 1, 4, 5, 6, 8, 12, 20, 23, 24, 25, 26, 33, 35] (S2 := [(0, .slice ab zs.length capb), (1, .slice al ns.length capl), (4, .bool false), (5, .string (strFrom ByteArray.empty zc)), (6, .bool bm), (8, .int .u64 n), (12, .bool false), (20, .bool false), (23, .slice al ns.length capl), (24, .int .i64 ((ns.length : Nat) : Int)), (25, .int .i64 ((i : Nat) : Int)), (26, .bool (decide (((i : Nat) : Int) < ((ns.length : Nat) : Int)))), (33, .bool false), (35, .bool bm)]) (A2 := A2) rfl (by kernel_rfl) ?_
        generalize hb5 : (bm) = b5
        cases b5
        ·
          refine EO.run 7 [0, 1, 4, 5, 6, 8, 12, 20, 23, 24, 25, 26, 33] (S2 := [(0, .slice ab zs.length capb), (1, .slice al ns.length capl), (4, .bool false), (5, .string (strFrom ByteArray.empty zc)), (6, .bool false), (8, .int .u64 n), (12, .bool false), (20, .bool false), (23, .slice al ns.length capl), (24, .int .i64 ((ns.length : Nat) : Int)), (25, .int .i64 ((i : Nat) : Int)), (26, .bool (decide (((i : Nat) : Int) < ((ns.length : Nat) : Int)))), (33, .bool false)]) (A2 := A2) rfl (by kernel_rfl) ?_
          refine EO.done rfl ?_
          refine J.region ?_
          refine EO.run 2 [0, 1, 4, 5, 6, 8, 12, 20, 23, 24, 25, 26, 33, 40, 41] (S2 := [(0, .slice ab zs.length capb), (1, .slice al ns.length capl), (4, .bool false), (5, .string (strFrom ByteArray.empty zc)), (6, .bool false), (8, .int .u64 n), (12, .bool false), (20, .bool false), (23, .slice al ns.length capl), (24, .int .i64 ((ns.length : Nat) : Int)), (25, .int .i64 ((i : Nat) : Int)), (26, .bool (decide (((i : Nat) : Int) < ((ns.length : Nat) : Int)))), (33, .bool false), (40, .string (strFrom ByteArray.empty zc)), (41, .int .u64 n)]) (A2 := A2) rfl (by kernel_rfl) ?_
          obtain ⟨w, A3, e16, hrw, hx3, hn3⟩ := f16_spec (pre := pre) (dr := dr) (A := A2) (m := m) hp16 hp15 hp28 n hn0.1 hn
          refine EO.fcall (f := 16) (vs := [.int .u64 n]) (v := w) (A1 := A3) rfl rfl rfl rfl (by kernel_rfl) (by kernel_rfl) e16 ?_
          refine EO.convert (v := w) (w := .string (strFrom ByteArray.empty (shortOf n))) (A1 := A3) rfl rfl rfl (by kernel_rfl) (by kernel_rfl) ((hrw).toStr (e := 5) (by kernel_rfl) (by kernel_rfl) (by kernel_rfl)) ?_
          refine EO.strAdd (a := (strFrom ByteArray.empty zc)) (b := (strFrom ByteArray.empty (shortOf n))) rfl rfl rfl (by kernel_rfl) (by kernel_rfl) (by kernel_rfl) (by have := shortOf_le n; rw [strFrom_size, strFrom_size, ByteArray.size_empty]; omega) ?_
          rw [strFrom_append]
          refine EO.run 6 [0, 1, 4, 5, 6, 8, 12, 20, 23, 24, 25, 26, 33] (S2 := [(0, .slice ab zs.length capb), (1, .slice al ns.length capl), (4, .bool false), (5, .string (strFrom ByteArray.empty (zc ++ shortOf n))), (6, .bool false), (8, .int .u64 n), (12, .bool false), (20, .bool false), (23, .slice al ns.length capl), (24, .int .i64 ((ns.length : Nat) : Int)), (25, .int .i64 ((i : Nat) : Int)), (26, .bool (decide (((i : Nat) : Int) < ((ns.length : Nat) : Int)))), (33, .bool false)]) (A2 := A3) rfl (by kernel_rfl) ?_
          refine EO.done rfl ?_
          refine blockQ_n ?_
          refine thenJ_n ?_
          refine J.region ?_
          refine EO.run 1 [0, 1, 4, 5, 6, 8, 12, 20, 23, 24, 25, 26, 33, 45] (S2 := [(0, .slice ab zs.length capb), (1, .slice al ns.length capl), (4, .bool false), (5, .string (strFrom ByteArray.empty (zc ++ shortOf n))), (6, .bool false), (8, .int .u64 n), (12, .bool false), (20, .bool false), (23, .slice al ns.length capl), (24, .int .i64 ((ns.length : Nat) : Int)), (25, .int .i64 ((i : Nat) : Int)), (26, .bool (decide (((i : Nat) : Int) < ((ns.length : Nat) : Int)))), (33, .bool false), (45, .int .i64 (IntKind.wrap .i64 (((i : Nat) : Int) + 1)))]) (A2 := A3) rfl (by kernel_rfl) ?_
          refine EO.cast (S2 := [(0, .slice ab zs.length capb), (1, .slice al ns.length capl), (4, .bool false), (5, .string (strFrom ByteArray.empty (zc ++ shortOf n))), (6, .bool false), (8, .int .u64 n), (12, .bool false), (20, .bool false), (23, .slice al ns.length capl), (24, .int .i64 ((ns.length : Nat) : Int)), (25, .int .i64 ((i : Nat) : Int)), (26, .bool (decide (((i : Nat) : Int) < ((ns.length : Nat) : Int)))), (33, .bool false), (45, .int .i64 ((i + 1 : Nat) : Int))]) (by rw [show (IntKind.wrap .i64 (((i : Nat) : Int) + 1) : Int) = ((i + 1 : Nat) : Int) from by rw [wrap_i64 (by omega) (by omega)]; omega]) ?_
          refine EO.run 2 [0, 1, 4, 5, 6, 12, 20, 23, 24, 25] (S2 := [(0, .slice ab zs.length capb), (1, .slice al ns.length capl), (4, .bool false), (5, .string (strFrom ByteArray.empty (zc ++ shortOf n))), (6, .bool false), (12, .bool false), (20, .bool false), (23, .slice al ns.length capl), (24, .int .i64 ((ns.length : Nat) : Int)), (25, .int .i64 ((i + 1 : Nat) : Int))]) (A2 := A3) rfl (by kernel_rfl) ?_
          refine EO.done rfl ?_
          refine loopI_n ?_
          exact ⟨i + 1, _, _, by omega, by omega, ⟨fun h => (by cases h), fun h => (by rw [hb5] at q3; exact absurd (q3.2 fun x hx => h x (by rw [List.take_add_one]; simp [hx])) (by simp))⟩, by rw [q4, encL_succ hnn, List.append_assoc], by have := shortOf_le n; simp only [List.length_append]; omega, hx.trans hx3, hn3, rfl⟩
        ·
          refine EO.run 3 [0, 1, 4, 5, 6, 8, 12, 20, 23, 24, 25, 26, 33, 35, 36] (S2 := [(0, .slice ab zs.length capb), (1, .slice al ns.length capl), (4, .bool false), (5, .string (strFrom ByteArray.empty zc)), (6, .bool true), (8, .int .u64 n), (12, .bool false), (20, .bool false), (23, .slice al ns.length capl), (24, .int .i64 ((ns.length : Nat) : Int)), (25, .int .i64 ((i : Nat) : Int)), (26, .bool (decide (((i : Nat) : Int) < ((ns.length : Nat) : Int)))), (33, .bool false), (35, .bool true), (36, .int .u64 n)]) (A2 := A2) rfl (by kernel_rfl) ?_
          refine EO.fcall (f := 15) (vs := [.int .u64 n]) (v := .int .i64 ((szOf n : Nat) : Int)) (A1 := A2) rfl rfl rfl rfl (by kernel_rfl) (by kernel_rfl) (f15_spec hp15 n) ?_
          refine EO.run 7 [0, 1, 4, 5, 6, 8, 12, 20, 23, 24, 25, 26, 33] (S2 := [(0, .slice ab zs.length capb), (1, .slice al ns.length capl), (4, .bool false), (5, .string (strFrom ByteArray.empty zc)), (6, .bool (decide (((szOf n : Nat) : Int) > 0))), (8, .int .u64 n), (12, .bool false), (20, .bool false), (23, .slice al ns.length capl), (24, .int .i64 ((ns.length : Nat) : Int)), (25, .int .i64 ((i : Nat) : Int)), (26, .bool (decide (((i : Nat) : Int) < ((ns.length : Nat) : Int)))), (33, .bool false)]) (A2 := A2) rfl (by kernel_rfl) ?_
          refine EO.done rfl ?_
          refine J.region ?_
          refine EO.run 2 [0, 1, 4, 5, 6, 8, 12, 20, 23, 24, 25, 26, 33, 40, 41] (S2 := [(0, .slice ab zs.length capb), (1, .slice al ns.length capl), (4, .bool false), (5, .string (strFrom ByteArray.empty zc)), (6, .bool (decide (((szOf n : Nat) : Int) > 0))), (8, .int .u64 n), (12, .bool false), (20, .bool false), (23, .slice al ns.length capl), (24, .int .i64 ((ns.length : Nat) : Int)), (25, .int .i64 ((i : Nat) : Int)), (26, .bool (decide (((i : Nat) : Int) < ((ns.length : Nat) : Int)))), (33, .bool false), (40, .string (strFrom ByteArray.empty zc)), (41, .int .u64 n)]) (A2 := A2) rfl (by kernel_rfl) ?_
          obtain ⟨w, A3, e16, hrw, hx3, hn3⟩ := f16_spec (pre := pre) (dr := dr) (A := A2) (m := m) hp16 hp15 hp28 n hn0.1 hn
          refine EO.fcall (f := 16) (vs := [.int .u64 n]) (v := w) (A1 := A3) rfl rfl rfl rfl (by kernel_rfl) (by kernel_rfl) e16 ?_
          refine EO.convert (v := w) (w := .string (strFrom ByteArray.empty (shortOf n))) (A1 := A3) rfl rfl rfl (by kernel_rfl) (by kernel_rfl) ((hrw).toStr (e := 5) (by kernel_rfl) (by kernel_rfl) (by kernel_rfl)) ?_
          refine EO.strAdd (a := (strFrom ByteArray.empty zc)) (b := (strFrom ByteArray.empty (shortOf n))) rfl rfl rfl (by kernel_rfl) (by kernel_rfl) (by kernel_rfl) (by have := shortOf_le n; rw [strFrom_size, strFrom_size, ByteArray.size_empty]; omega) ?_
          rw [strFrom_append]
          refine EO.run 6 [0, 1, 4, 5, 6, 8, 12, 20, 23, 24, 25, 26, 33] (S2 := [(0, .slice ab zs.length capb), (1, .slice al ns.length capl), (4, .bool false), (5, .string (strFrom ByteArray.empty (zc ++ shortOf n))), (6, .bool (decide (((szOf n : Nat) : Int) > 0))), (8, .int .u64 n), (12, .bool false), (20, .bool false), (23, .slice al ns.length capl), (24, .int .i64 ((ns.length : Nat) : Int)), (25, .int .i64 ((i : Nat) : Int)), (26, .bool (decide (((i : Nat) : Int) < ((ns.length : Nat) : Int)))), (33, .bool false)]) (A2 := A3) rfl (by kernel_rfl) ?_
          refine EO.done rfl ?_
          refine blockQ_n ?_
          refine thenJ_n ?_
          refine J.region ?_
          refine EO.run 1 [0, 1, 4, 5, 6, 8, 12, 20, 23, 24, 25, 26, 33, 45] (S2 := [(0, .slice ab zs.length capb), (1, .slice al ns.length capl), (4, .bool false), (5, .string (strFrom ByteArray.empty (zc ++ shortOf n))), (6, .bool (decide (((szOf n : Nat) : Int) > 0))), (8, .int .u64 n), (12, .bool false), (20, .bool false), (23, .slice al ns.length capl), (24, .int .i64 ((ns.length : Nat) : Int)), (25, .int .i64 ((i : Nat) : Int)), (26, .bool (decide (((i : Nat) : Int) < ((ns.length : Nat) : Int)))), (33, .bool false), (45, .int .i64 (IntKind.wrap .i64 (((i : Nat) : Int) + 1)))]) (A2 := A3) rfl (by kernel_rfl) ?_
          refine EO.cast (S2 := [(0, .slice ab zs.length capb), (1, .slice al ns.length capl), (4, .bool false), (5, .string (strFrom ByteArray.empty (zc ++ shortOf n))), (6, .bool (decide (((szOf n : Nat) : Int) > 0))), (8, .int .u64 n), (12, .bool false), (20, .bool false), (23, .slice al ns.length capl), (24, .int .i64 ((ns.length : Nat) : Int)), (25, .int .i64 ((i : Nat) : Int)), (26, .bool (decide (((i : Nat) : Int) < ((ns.length : Nat) : Int)))), (33, .bool false), (45, .int .i64 ((i + 1 : Nat) : Int))]) (by rw [show (IntKind.wrap .i64 (((i : Nat) : Int) + 1) : Int) = ((i + 1 : Nat) : Int) from by rw [wrap_i64 (by omega) (by omega)]; omega]) ?_
          refine EO.run 2 [0, 1, 4, 5, 6, 12, 20, 23, 24, 25] (S2 := [(0, .slice ab zs.length capb), (1, .slice al ns.length capl), (4, .bool false), (5, .string (strFrom ByteArray.empty (zc ++ shortOf n))), (6, .bool (decide (((szOf n : Nat) : Int) > 0))), (12, .bool false), (20, .bool false), (23, .slice al ns.length capl), (24, .int .i64 ((ns.length : Nat) : Int)), (25, .int .i64 ((i + 1 : Nat) : Int))]) (A2 := A3) rfl (by kernel_rfl) ?_
          refine EO.done rfl ?_
          refine loopI_n ?_
          exact ⟨i + 1, _, _, by omega, by omega, ⟨fun h => all_succ hnn (szOf_pos.1 (by have := of_decide_eq_true h; omega)) (q3.1 hb5), fun h => decide_eq_true (by have := szOf_pos.2 (h n (by rw [List.take_add_one, hnn]; simp)); omega)⟩, by rw [q4, encL_succ hnn, List.append_assoc], by have := shortOf_le n; simp only [List.length_append]; omega, hx.trans hx3, hn3, rfl⟩
      ·
        refine J.exit ?_
        refine thenJ_e ?_
        refine loopI_e ?_
        refine blockQ_hit ?_
        refine thenJ_n ?_
        refine J.sr ?_
        refine EO.run 2 [0, 1, 4, 5, 6, 12, 20, 23, 24, 25, 26, 47, 48] (S2 := [(0, .slice ab zs.length capb), (1, .slice al ns.length capl), (4, .bool false), (5, .string (strFrom ByteArray.empty zc)), (6, .bool bm), (12, .bool false), (20, .bool false), (23, .slice al ns.length capl), (24, .int .i64 ((ns.length : Nat) : Int)), (25, .int .i64 ((i : Nat) : Int)), (26, .bool (decide (((i : Nat) : Int) < ((ns.length : Nat) : Int)))), (47, .slice ab zs.length capb), (48, .slice al ns.length capl)]) (A2 := A2) rfl (by kernel_rfl) ?_
        have q7 : ns.take i = ns := List.take_of_length_le (by simp only [decide_eq_false_iff_not] at *; omega)
        rw [q7] at q3 q4
        obtain ⟨v7, A4, e17, hx4, hn4, ⟨hall, w7, rfl, hO7⟩ | ⟨hno, rfl⟩⟩ := f17_spec (pre := pre) (dr := dr) (m := m) hp17 hp25 hp27 (hb0.ext hx) (hl.ext hx) hn (by omega) (by omega)
        ·
          have hbm : bm = true := q3.2 hall
          rw [hbm]
          refine EO.fcall (f := 17) (vs := [.slice ab zs.length capb, .slice al ns.length capl]) (v := .tuple #[w7, .int .i64 0]) (A1 := A4) rfl rfl rfl rfl (by kernel_rfl) (by kernel_rfl) e17 ?_
          refine EO.run 8 [0, 1, 4, 5, 6, 9, 10, 12, 20, 23, 24, 25, 26] (S2 := [(0, .slice ab zs.length capb), (1, .slice al ns.length capl), (4, .bool false), (5, .string (strFrom ByteArray.empty zc)), (6, .bool true), (9, w7), (10, .int .i64 0), (12, .bool false), (20, .bool false), (23, .slice al ns.length capl), (24, .int .i64 ((ns.length : Nat) : Int)), (25, .int .i64 ((i : Nat) : Int)), (26, .bool (decide (((i : Nat) : Int) < ((ns.length : Nat) : Int))))]) (A2 := A4) rfl (by kernel_rfl) ?_
          refine EO.done rfl ?_
          refine J.seq ?_
          refine J.sr ?_
          refine EO.run 2 [0, 1, 4, 5, 6, 9, 10, 12, 20, 23, 24, 25, 26, 53] (S2 := [(0, .slice ab zs.length capb), (1, .slice al ns.length capl), (4, .bool false), (5, .string (strFrom ByteArray.empty zc)), (6, .bool true), (9, w7), (10, .int .i64 0), (12, .bool false), (20, .bool false), (23, .slice al ns.length capl), (24, .int .i64 ((ns.length : Nat) : Int)), (25, .int .i64 ((i : Nat) : Int)), (26, .bool (decide (((i : Nat) : Int) < ((ns.length : Nat) : Int)))), (53, .bool false)]) (A2 := A4) rfl (by kernel_rfl) ?_
          refine EO.done rfl ?_
          refine J.cond false (by kernel_rfl) (fun h => Bool.noConfusion h) (fun _ => ?_)
          refine J.skip ?_
          refine thenJ_n ?_
          refine J.sr ?_
          refine EO.run 1 [0, 1, 4, 5, 6, 9, 10, 12, 20, 23, 24, 25, 26, 53, 61] (S2 := [(0, .slice ab zs.length capb), (1, .slice al ns.length capl), (4, .bool false), (5, .string (strFrom ByteArray.empty zc)), (6, .bool true), (9, w7), (10, .int .i64 0), (12, .bool false), (20, .bool false), (23, .slice al ns.length capl), (24, .int .i64 ((ns.length : Nat) : Int)), (25, .int .i64 ((i : Nat) : Int)), (26, .bool (decide (((i : Nat) : Int) < ((ns.length : Nat) : Int)))), (53, .bool false), (61, w7)]) (A2 := A4) rfl (by kernel_rfl) ?_
          refine EO.convert (v := w7) (w := .string (strFrom ByteArray.empty (zs ++ encL ns))) (A1 := A4) rfl rfl rfl (by kernel_rfl) (by kernel_rfl) ((hO7.rowV).toStr (e := 5) (by kernel_rfl) (by kernel_rfl) (by kernel_rfl)) ?_
          refine EO.run 5 [0, 1, 4, 5, 6, 9, 10, 12, 20, 23, 24, 25, 26, 53, 65] (S2 := [(0, .slice ab zs.length capb), (1, .slice al ns.length capl), (4, .bool false), (5, .string (strFrom ByteArray.empty zc)), (6, .bool true), (9, w7), (10, .int .i64 0), (12, .bool false), (20, .bool false), (23, .slice al ns.length capl), (24, .int .i64 ((ns.length : Nat) : Int)), (25, .int .i64 ((i : Nat) : Int)), (26, .bool (decide (((i : Nat) : Int) < ((ns.length : Nat) : Int)))), (53, .bool false), (65, .bool ((strFrom ByteArray.empty (zs ++ encL ns)).toList == (strFrom ByteArray.empty zc).toList))]) (A2 := A4) rfl (by kernel_rfl) ?_
          have d6 : ((strFrom ByteArray.empty (zs ++ encL ns)).toList == (strFrom ByteArray.empty zc).toList) = true := beq_refl' (by rw [q4])
          rw [d6]
          refine EO.run 9 [0, 1, 4, 5, 6, 9, 10, 12, 20, 23, 24, 25, 26, 53] (S2 := [(0, .slice ab zs.length capb), (1, .slice al ns.length capl), (4, .bool true), (5, .string (strFrom ByteArray.empty zc)), (6, .bool true), (9, w7), (10, .int .i64 0), (12, .bool false), (20, .bool false), (23, .slice al ns.length capl), (24, .int .i64 ((ns.length : Nat) : Int)), (25, .int .i64 ((i : Nat) : Int)), (26, .bool (decide (((i : Nat) : Int) < ((ns.length : Nat) : Int)))), (53, .bool false)]) (A2 := A4) rfl (by kernel_rfl) ?_
          refine EO.done rfl ?_
          refine J.ret ?_
          refine Ends_r (vs := [.bool true]) (by kernel_rfl) ?_
          exact rfl
        ·
          have hbm : bm = false := by cases hq : bm with | false => rfl | true => (obtain ⟨x, hx1, hx2⟩ := hno; exact absurd (q3.1 hq x hx1) hx2)
          rw [hbm]
          refine EO.fcall (f := 17) (vs := [.slice ab zs.length capb, .slice al ns.length capl]) (v := .tuple #[.slice none 0 0, .int .i64 5]) (A1 := A4) rfl rfl rfl rfl (by kernel_rfl) (by kernel_rfl) e17 ?_
          refine EO.run 8 [0, 1, 4, 5, 6, 9, 10, 12, 20, 23, 24, 25, 26] (S2 := [(0, .slice ab zs.length capb), (1, .slice al ns.length capl), (4, .bool false), (5, .string (strFrom ByteArray.empty zc)), (6, .bool false), (9, .slice none 0 0), (10, .int .i64 5), (12, .bool false), (20, .bool false), (23, .slice al ns.length capl), (24, .int .i64 ((ns.length : Nat) : Int)), (25, .int .i64 ((i : Nat) : Int)), (26, .bool (decide (((i : Nat) : Int) < ((ns.length : Nat) : Int))))]) (A2 := A4) rfl (by kernel_rfl) ?_
          refine EO.done rfl ?_
          refine J.seq ?_
          refine J.sr ?_
          refine EO.run 2 [0, 1, 4, 5, 6, 9, 10, 12, 20, 23, 24, 25, 26, 53] (S2 := [(0, .slice ab zs.length capb), (1, .slice al ns.length capl), (4, .bool false), (5, .string (strFrom ByteArray.empty zc)), (6, .bool false), (9, .slice none 0 0), (10, .int .i64 5), (12, .bool false), (20, .bool false), (23, .slice al ns.length capl), (24, .int .i64 ((ns.length : Nat) : Int)), (25, .int .i64 ((i : Nat) : Int)), (26, .bool (decide (((i : Nat) : Int) < ((ns.length : Nat) : Int)))), (53, .bool true)]) (A2 := A4) rfl (by kernel_rfl) ?_
          refine EO.done rfl ?_
          refine J.cond true (by kernel_rfl) (fun _ => ?_) (fun h => Bool.noConfusion h)
          refine J.sr ?_
          refine EO.run 8 [0, 1, 4, 5, 6, 9, 10, 12, 20, 23, 24, 25, 26, 53] (S2 := [(0, .slice ab zs.length capb), (1, .slice al ns.length capl), (4, .bool true), (5, .string (strFrom ByteArray.empty zc)), (6, .bool false), (9, .slice none 0 0), (10, .int .i64 5), (12, .bool false), (20, .bool false), (23, .slice al ns.length capl), (24, .int .i64 ((ns.length : Nat) : Int)), (25, .int .i64 ((i : Nat) : Int)), (26, .bool (decide (((i : Nat) : Int) < ((ns.length : Nat) : Int)))), (53, .bool true)]) (A2 := A4) rfl (by kernel_rfl) ?_
          refine EO.done rfl ?_
          refine J.ret ?_
          refine thenJ_r ?_
          refine Ends_r (vs := [.bool true]) (by kernel_rfl) ?_
          exact rfl
end
end Go.Proofs.Ytioggedadamoaaa
