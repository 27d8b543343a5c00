/- hostlerref01.Sized; varint.Bytes. -/
import Derived.Test.YtioggedadamoaaaTiVd
set_option autoImplicit false
set_option linter.unusedVariables false
set_option linter.unusedSimpArgs false
namespace Go.Proofs.Ytioggedadamoaaa
open Go.Abs Go.RowKit

section
variable {pre : FuncId → Option (List Value → AW → Option (Value × AW))} {dr : CallF → Array Oper → Array Value → AW → Option (Array Value × AW)} {A : AW} {m : Nat}


theorem fold_bound : ∀ (l : List Int) (x X : Int), 0 ≤ x → x < X → isByte l → 0 ≤ fold256 x l ∧ fold256 x l < X * 256 ^ l.length
  | [], x, X, h0, h1, _ => ⟨h0, by simpa [fold256] using h1⟩
  | z :: l, x, X, h0, h1, hb => by
    have hz := hb z (by simp)
    have := fold_bound l (256 * x + z) (X * 256) (by omega) (by omega) (fun y hy => hb y (by simp [hy]))
    refine ⟨this.1, ?_⟩
    have h2 := this.2
    have e : X * 256 ^ (z :: l).length = X * 256 * 256 ^ l.length := by
      rw [List.length_cons, Int.pow_succ, Int.mul_comm (256 ^ l.length) 256, Int.mul_assoc]
    rw [e]
    exact h2

theorem takeOf_ok {zs : List Int} (hb : isByte zs) (h : (takeOf zs).2.2 = true) : ∃ n u : Nat, takeOf zs = ((n : Int), u, true) ∧ n < 4611686018427387904 ∧ u ≤ zs.length ∧ 1 ≤ u ∧ u ≤ 8 := by
  cases zs with
  | nil => simp [takeOf] at h
  | cons z r =>
    have hz := hb z (by simp)
    by_cases hl : r.length + 1 < 2 ^ (z / 64).toNat
    · rw [takeOf_short rfl hl] at h; simp at h
    · have hc4 : (z / 64).toNat = 0 ∨ (z / 64).toNat = 1 ∨ (z / 64).toNat = 2 ∨ (z / 64).toNat = 3 := by omega
      obtain ⟨u, hu⟩ : ∃ u, 2 ^ (z / 64).toNat = u := ⟨_, rfl⟩
      have hu8 : 1 ≤ u ∧ u ≤ 8 := by rcases hc4 with h | h | h | h <;> rw [h] at hu <;> omega
      have hbound := fold_bound (r.take (u - 1)) (z % 64) 64 (by omega) (by omega) (fun y hy => hb y (by simp [List.mem_of_mem_take hy]))
      have hlen : (r.take (u - 1)).length ≤ 7 := by simp; omega
      have hpow : (256 : Int) ^ (r.take (u - 1)).length ≤ 256 ^ 7 := by
        have h7 : ∀ j : Nat, j ≤ 7 → (256 : Int) ^ j ≤ 256 ^ 7 := by
          intro j hj
          have hj8 : j = 0 ∨ j = 1 ∨ j = 2 ∨ j = 3 ∨ j = 4 ∨ j = 5 ∨ j = 6 ∨ j = 7 := by omega
          rcases hj8 with rfl | rfl | rfl | rfl | rfl | rfl | rfl | rfl <;> decide
        exact h7 _ hlen
      have hn : fold256 (z % 64) (r.take (u - 1)) < 4611686018427387904 := by
        have : (256 : Int) ^ 7 = 72057594037927936 := rfl
        omega
      refine ⟨(fold256 (z % 64) (r.take (u - 1))).toNat, u, ?_, by omega, ?_, hu8⟩
      · rw [takeOf_long hu (by rw [← hu]; exact hl)]
        congr 1
        omega
      · simp only [List.length_cons]; omega

/-- Bytes behind how many they are, from a place on. -/
def partAt (zs : List Int) (k : Nat) : Option (List Int × Nat) :=
  if (takeOf (zs.drop k)).2.2 = true then
    if zs.length - (k + (takeOf (zs.drop k)).2.1) < (takeOf (zs.drop k)).1.toNat then none
    else some ((zs.drop (k + (takeOf (zs.drop k)).2.1)).take (takeOf (zs.drop k)).1.toNat, k + (takeOf (zs.drop k)).2.1 + (takeOf (zs.drop k)).1.toNat)
  else none

theorem partAt_cases {zs : List Int} (hb : isByte zs) (k : Nat) : ((takeOf (zs.drop k)).2.2 = false ∧ partAt zs k = none) ∨
    ∃ n u : Nat, takeOf (zs.drop k) = ((n : Int), u, true) ∧ n < 4611686018427387904 ∧ k + u ≤ zs.length ∧ partAt zs k = if zs.length - (k + u) < n then none else some ((zs.drop (k + u)).take n, k + u + n) := by
  cases hok : (takeOf (zs.drop k)).2.2 with
  | false => exact .inl ⟨rfl, by unfold partAt; rw [hok]; rfl⟩
  | true =>
    obtain ⟨n, u, h1, h2, h3, h4, _⟩ := takeOf_ok (fun z hz => hb z (List.mem_of_mem_drop hz)) hok
    refine .inr ⟨n, u, h1, h2, by simp at h3; omega, ?_⟩
    unfold partAt
    rw [h1]
    simp

theorem f13_spec (hp : pre 13 = none) (hp11 : pre 11 = none) (hp26 : pre 26 = none) {v : Value} {zs : List Int} (h : RowV A v zs) (hnx : A.nx = none) (k : Nat) (hkk : k < 4611686018427387904) (hl : zs.length ≤ 1073741824) :
    (partAt zs k = none → acall Try.prog pre dr 100000 (m + 2) 13 [v, .int .i64 (k : Int)] A = some (.tuple #[.slice none 0 0, .int .i64 (-1)], A)) ∧
    (∀ l e, partAt zs k = some (l, e) → ∃ w A', acall Try.prog pre dr 100000 (m + 2) 13 [v, .int .i64 (k : Int)] A = some (.tuple #[w, .int .i64 (e : Int)], A') ∧ RowV A' w l ∧ AExt A A' ∧ A'.nx = none) := by
  have e11 := f11_spec (pre := pre) (dr := dr) (m := m) hp11 h (by omega) k hkk
  rcases partAt_cases h.byte k with ⟨hok, hpa⟩ | ⟨n, u, htk, hn, hku, hpa⟩
  · have hrf : refOf zs k = (0, -1) := by unfold refOf; rw [hok]; rfl
    unfold refV at e11
    rw [hrf] at e11
    refine ⟨fun _ => ?_, fun l e he => by rw [hpa] at he; cases he⟩
    suffices hs : ∃ v' A', acall Try.prog pre dr 100000 (m + 1 + 1) 13 [v, .int .i64 (k : Int)] A = some (v', A') ∧ (v' = .tuple #[.slice none 0 0, .int .i64 (-1)] ∧ A' = A) by
      obtain ⟨v', A', e, rfl, rfl⟩ := hs
      exact e
    refine J.fn (fn := Try.f13) hp Try.func13 rfl (Nat.le_of_ble_eq_true rfl) ?_
    refine J.sr ?_
    refine EO.run 2 [0, 1, 4, 5] (S2 := [(0, v), (1, .int .i64 ((k : Nat) : Int)), (4, .slice none 0 0), (5, .int .i64 0)]) (A2 := A) rfl (by kernel_rfl) ?_
    refine EO.done rfl ?_
    refine J.sr ?_
    refine EO.run 2 [0, 1, 4, 5, 9, 10] (S2 := [(0, v), (1, .int .i64 ((k : Nat) : Int)), (4, .slice none 0 0), (5, .int .i64 0), (9, v), (10, .int .i64 ((k : Nat) : Int))]) (A2 := A) rfl (by kernel_rfl) ?_
    refine EO.fcall (f := 11) (vs := [v, .int .i64 ((k : Nat) : Int)]) (v := .tuple #[.int .u64 0, .int .i64 (-1)]) (A1 := A) rfl rfl rfl rfl (by kernel_rfl) (by kernel_rfl) (e11) ?_
    refine EO.run 8 [0, 1, 4, 5, 6, 7] (S2 := [(0, v), (1, .int .i64 ((k : Nat) : Int)), (4, .slice none 0 0), (5, .int .i64 0), (6, .int .u64 0), (7, .int .i64 (-1))]) (A2 := A) rfl (by kernel_rfl) ?_
    refine EO.done rfl ?_
    refine J.sr ?_
    refine EO.run 3 [0, 1, 4, 5, 6, 7, 14, 15, 16] (S2 := [(0, v), (1, .int .i64 ((k : Nat) : Int)), (4, .slice none 0 0), (5, .int .i64 0), (6, .int .u64 0), (7, .int .i64 (-1)), (14, v), (15, .int .i64 (-1)), (16, .int .u64 0)]) (A2 := A) rfl (by kernel_rfl) ?_
    refine EO.fcall (f := 26) (vs := [v, .int .i64 (-1), .int .u64 0]) (v := .tuple #[.slice none 0 0, .int .i64 (-1)]) (A1 := A) rfl rfl rfl rfl (by kernel_rfl) (by kernel_rfl) (f26_neg hp26 0) ?_
    refine EO.run 8 [0, 1, 4, 5, 6, 7] (S2 := [(0, v), (1, .int .i64 ((k : Nat) : Int)), (4, .slice none 0 0), (5, .int .i64 (-1)), (6, .int .u64 0), (7, .int .i64 (-1))]) (A2 := A) rfl (by kernel_rfl) ?_
    refine EO.done rfl ?_
    refine J.ret ?_
    refine Ends_r (vs := [.slice none 0 0, .int .i64 (-1)]) (by kernel_rfl) ?_
    exact ⟨rfl, rfl⟩
  · have hrf : refOf zs k = ((n : Int), ((k + u : Nat) : Int)) := by unfold refOf; rw [htk]; simp
    unfold refV at e11
    rw [hrf] at e11
    have e26 := f26_spec (pre := pre) (dr := dr) (m := m) hp26 h hnx (k + u) n hku hl (by omega)
    rw [hpa]
    by_cases hlt : zs.length - (k + u) < n
    · rw [if_pos hlt]
      refine ⟨fun _ => ?_, fun l e he => by cases he⟩
      have e27 := e26.1 hlt
      suffices hs : ∃ v' A', acall Try.prog pre dr 100000 (m + 1 + 1) 13 [v, .int .i64 (k : Int)] A = some (v', A') ∧ (v' = .tuple #[.slice none 0 0, .int .i64 (-1)] ∧ A' = A) by
        obtain ⟨v', A', e, rfl, rfl⟩ := hs
        exact e
      refine J.fn (fn := Try.f13) hp Try.func13 rfl (Nat.le_of_ble_eq_true rfl) ?_
      refine J.sr ?_
      refine EO.run 2 [0, 1, 4, 5] (S2 := [(0, v), (1, .int .i64 ((k : Nat) : Int)), (4, .slice none 0 0), (5, .int .i64 0)]) (A2 := A) rfl (by kernel_rfl) ?_
      refine EO.done rfl ?_
      refine J.sr ?_
      refine EO.run 2 [0, 1, 4, 5, 9, 10] (S2 := [(0, v), (1, .int .i64 ((k : Nat) : Int)), (4, .slice none 0 0), (5, .int .i64 0), (9, v), (10, .int .i64 ((k : Nat) : Int))]) (A2 := A) rfl (by kernel_rfl) ?_
      refine EO.fcall (f := 11) (vs := [v, .int .i64 ((k : Nat) : Int)]) (v := .tuple #[.int .u64 ((n : Nat) : Int), .int .i64 ((k + u : Nat) : Int)]) (A1 := A) rfl rfl rfl rfl (by kernel_rfl) (by kernel_rfl) (e11) ?_
      refine EO.run 8 [0, 1, 4, 5, 6, 7] (S2 := [(0, v), (1, .int .i64 ((k : Nat) : Int)), (4, .slice none 0 0), (5, .int .i64 0), (6, .int .u64 ((n : Nat) : Int)), (7, .int .i64 ((k + u : Nat) : Int))]) (A2 := A) rfl (by kernel_rfl) ?_
      refine EO.done rfl ?_
      refine J.sr ?_
      refine EO.run 3 [0, 1, 4, 5, 6, 7, 14, 15, 16] (S2 := [(0, v), (1, .int .i64 ((k : Nat) : Int)), (4, .slice none 0 0), (5, .int .i64 0), (6, .int .u64 ((n : Nat) : Int)), (7, .int .i64 ((k + u : Nat) : Int)), (14, v), (15, .int .i64 ((k + u : Nat) : Int)), (16, .int .u64 ((n : Nat) : Int))]) (A2 := A) rfl (by kernel_rfl) ?_
      refine EO.fcall (f := 26) (vs := [v, .int .i64 ((k + u : Nat) : Int), .int .u64 ((n : Nat) : Int)]) (v := .tuple #[.slice none 0 0, .int .i64 (-1)]) (A1 := A) rfl rfl rfl rfl (by kernel_rfl) (by kernel_rfl) (e27) ?_
      refine EO.run 8 [0, 1, 4, 5, 6, 7] (S2 := [(0, v), (1, .int .i64 ((k : Nat) : Int)), (4, .slice none 0 0), (5, .int .i64 (-1)), (6, .int .u64 ((n : Nat) : Int)), (7, .int .i64 ((k + u : Nat) : Int))]) (A2 := A) rfl (by kernel_rfl) ?_
      refine EO.done rfl ?_
      refine J.ret ?_
      refine Ends_r (vs := [.slice none 0 0, .int .i64 (-1)]) (by kernel_rfl) ?_
      exact ⟨rfl, rfl⟩
    · rw [if_neg hlt]
      refine ⟨fun h => (by cases h), fun l e he => ?_⟩
      simp only [Option.some.injEq, Prod.mk.injEq] at he
      obtain ⟨rfl, rfl⟩ := he
      obtain ⟨w, A2, e27, hrw, hx2, hn2⟩ := e26.2 (by omega)
      suffices hs : ∃ v' A', acall Try.prog pre dr 100000 (m + 1 + 1) 13 [v, .int .i64 (k : Int)] A = some (v', A') ∧ (v' = .tuple #[w, .int .i64 ((k + u + n : Nat) : Int)] ∧ A' = A2) by
        obtain ⟨v', A', e, rfl, rfl⟩ := hs
        exact ⟨w, A', e, hrw, hx2, hn2⟩
      refine J.fn (fn := Try.f13) hp Try.func13 rfl (Nat.le_of_ble_eq_true rfl) ?_
      refine J.sr ?_
      refine EO.run 2 [0, 1, 4, 5] (S2 := [(0, v), (1, .int .i64 ((k : Nat) : Int)), (4, .slice none 0 0), (5, .int .i64 0)]) (A2 := A) rfl (by kernel_rfl) ?_
      refine EO.done rfl ?_
      refine J.sr ?_
      refine EO.run 2 [0, 1, 4, 5, 9, 10] (S2 := [(0, v), (1, .int .i64 ((k : Nat) : Int)), (4, .slice none 0 0), (5, .int .i64 0), (9, v), (10, .int .i64 ((k : Nat) : Int))]) (A2 := A) rfl (by kernel_rfl) ?_
      refine EO.fcall (f := 11) (vs := [v, .int .i64 ((k : Nat) : Int)]) (v := .tuple #[.int .u64 ((n : Nat) : Int), .int .i64 ((k + u : Nat) : Int)]) (A1 := A) rfl rfl rfl rfl (by kernel_rfl) (by kernel_rfl) (e11) ?_
      refine EO.run 8 [0, 1, 4, 5, 6, 7] (S2 := [(0, v), (1, .int .i64 ((k : Nat) : Int)), (4, .slice none 0 0), (5, .int .i64 0), (6, .int .u64 ((n : Nat) : Int)), (7, .int .i64 ((k + u : Nat) : Int))]) (A2 := A) rfl (by kernel_rfl) ?_
      refine EO.done rfl ?_
      refine J.sr ?_
      refine EO.run 3 [0, 1, 4, 5, 6, 7, 14, 15, 16] (S2 := [(0, v), (1, .int .i64 ((k : Nat) : Int)), (4, .slice none 0 0), (5, .int .i64 0), (6, .int .u64 ((n : Nat) : Int)), (7, .int .i64 ((k + u : Nat) : Int)), (14, v), (15, .int .i64 ((k + u : Nat) : Int)), (16, .int .u64 ((n : Nat) : Int))]) (A2 := A) rfl (by kernel_rfl) ?_
      refine EO.fcall (f := 26) (vs := [v, .int .i64 ((k + u : Nat) : Int), .int .u64 ((n : Nat) : Int)]) (v := .tuple #[w, .int .i64 ((k + u + n : Nat) : Int)]) (A1 := A2) rfl rfl rfl rfl (by kernel_rfl) (by kernel_rfl) (e27) ?_
      refine EO.run 8 [0, 1, 4, 5, 6, 7] (S2 := [(0, v), (1, .int .i64 ((k : Nat) : Int)), (4, w), (5, .int .i64 ((k + u + n : Nat) : Int)), (6, .int .u64 ((n : Nat) : Int)), (7, .int .i64 ((k + u : Nat) : Int))]) (A2 := A2) rfl (by kernel_rfl) ?_
      refine EO.done rfl ?_
      refine J.ret ?_
      refine Ends_r (vs := [w, .int .i64 ((k + u + n : Nat) : Int)]) (by kernel_rfl) ?_
      exact ⟨rfl, rfl⟩

theorem f12_spec (hp : pre 12 = none) (hp10 : pre 10 = none) (hp25 : pre 25 = none) {v : Value} {zs : List Int} (h : RowV A v zs) (hnx : A.nx = none) (hl : zs.length ≤ 1073741824) :
    (partAt zs 0 = none → ∃ A', acall Try.prog pre dr 100000 (m + 3) 12 [v] A = some (.tuple #[.slice none 0 0, .int .i64 0, .bool false], A') ∧ AExt A A' ∧ A'.nx = none) ∧
    (∀ l e, partAt zs 0 = some (l, e) → ∃ w A', acall Try.prog pre dr 100000 (m + 3) 12 [v] A = some (.tuple #[w, .int .i64 (e : Int), .bool true], A') ∧ RowVN A.size A' w l ∧ AExt A A' ∧ A'.nx = none) := by
  obtain ⟨A1, e10, hx1, hn1⟩ := f10_spec (pre := pre) (dr := dr) (m := m) hp10 hp25 h hnx
  have h1 := h.ext hx1
  obtain ⟨a, cap, rfl⟩ := h.form
  rcases partAt_cases h.byte 0 with ⟨hok, hpa⟩ | ⟨n, u, htk, hn, hku, hpa⟩
  · refine ⟨fun _ => ?_, fun l e he => by rw [hpa] at he; cases he⟩
    rw [List.drop_zero] at hok
    unfold takeV at e10
    rw [hok] at e10
    suffices hs : ∃ v' A', acall Try.prog pre dr 100000 (m + 2 + 1) 12 [.slice a zs.length cap] A = some (v', A') ∧ (v' = .tuple #[.slice none 0 0, .int .i64 0, .bool false] ∧ A' = A1) by
      obtain ⟨v', A', e, rfl, rfl⟩ := hs
      exact ⟨A', e, hx1, hn1⟩
    refine J.fn (fn := Try.f12) hp Try.func12 rfl (Nat.le_of_ble_eq_true rfl) ?_
    refine J.sr ?_
    refine EO.run 3 [0, 2, 3, 4] (S2 := [(0, .slice a zs.length cap), (2, .slice none 0 0), (3, .int .i64 0), (4, .bool false)]) (A2 := A) rfl (by kernel_rfl) ?_
    refine EO.done rfl ?_
    refine J.sr ?_
    refine EO.run 1 [0, 2, 3, 4, 9] (S2 := [(0, .slice a zs.length cap), (2, .slice none 0 0), (3, .int .i64 0), (4, .bool false), (9, .slice a zs.length cap)]) (A2 := A) rfl (by kernel_rfl) ?_
    refine EO.fcall (f := 10) (vs := [.slice a zs.length cap]) (v := .tuple #[.int .u64 ((takeOf zs).1), .int .i64 ((takeOf zs).2.1), .bool false]) (A1 := A1) rfl rfl rfl rfl (by kernel_rfl) (by kernel_rfl) (e10) ?_
    refine EO.run 9 [0, 2, 3, 4, 5, 6] (S2 := [(0, .slice a zs.length cap), (2, .slice none 0 0), (3, .int .i64 0), (4, .bool false), (5, .int .u64 ((takeOf zs).1)), (6, .int .i64 ((takeOf zs).2.1))]) (A2 := A1) rfl (by kernel_rfl) ?_
    refine EO.done rfl ?_
    refine J.seq ?_
    refine J.sr ?_
    refine EO.run 11 [0, 2, 3, 4, 5, 6, 24] (S2 := [(0, .slice a zs.length cap), (2, .slice none 0 0), (3, .int .i64 0), (4, .bool false), (5, .int .u64 ((takeOf zs).1)), (6, .int .i64 ((takeOf zs).2.1)), (24, .bool true)]) (A2 := A1) rfl (by kernel_rfl) ?_
    refine EO.done rfl ?_
    refine J.cond true (by kernel_rfl) (fun _ => ?_) (fun h => Bool.noConfusion h)
    refine J.sr ?_
    refine EO.run 3 [0, 2, 3, 4, 5, 6, 24] (S2 := [(0, .slice a zs.length cap), (2, .slice none 0 0), (3, .int .i64 0), (4, .bool false), (5, .int .u64 ((takeOf zs).1)), (6, .int .i64 ((takeOf zs).2.1)), (24, .bool true)]) (A2 := A1) rfl (by kernel_rfl) ?_
    refine EO.done rfl ?_
    refine J.ret ?_
    refine thenJ_r ?_
    refine Ends_r (vs := [.slice none 0 0, .int .i64 0, .bool false]) (by kernel_rfl) ?_
    exact ⟨rfl, rfl⟩
  · rw [List.drop_zero] at htk
    simp only [Nat.zero_add] at hku hpa
    unfold takeV at e10
    rw [htk] at e10
    rw [hpa]
    by_cases hlt : zs.length - u < n
    · rw [if_pos hlt]
      refine ⟨fun _ => ?_, fun l e he => by cases he⟩
      suffices hs : ∃ v' A', acall Try.prog pre dr 100000 (m + 2 + 1) 12 [.slice a zs.length cap] A = some (v', A') ∧ (v' = .tuple #[.slice none 0 0, .int .i64 0, .bool false] ∧ A' = A1) by
        obtain ⟨v', A', e, rfl, rfl⟩ := hs
        exact ⟨A', e, hx1, hn1⟩
      refine J.fn (fn := Try.f12) hp Try.func12 rfl (Nat.le_of_ble_eq_true rfl) ?_
      refine J.sr ?_
      refine EO.run 3 [0, 2, 3, 4] (S2 := [(0, .slice a zs.length cap), (2, .slice none 0 0), (3, .int .i64 0), (4, .bool false)]) (A2 := A) rfl (by kernel_rfl) ?_
      refine EO.done rfl ?_
      refine J.sr ?_
      refine EO.run 1 [0, 2, 3, 4, 9] (S2 := [(0, .slice a zs.length cap), (2, .slice none 0 0), (3, .int .i64 0), (4, .bool false), (9, .slice a zs.length cap)]) (A2 := A) rfl (by kernel_rfl) ?_
      refine EO.fcall (f := 10) (vs := [.slice a zs.length cap]) (v := .tuple #[.int .u64 ((n : Nat) : Int), .int .i64 ((u : Nat) : Int), .bool true]) (A1 := A1) rfl rfl rfl rfl (by kernel_rfl) (by kernel_rfl) (e10) ?_
      refine EO.run 9 [0, 2, 3, 4, 5, 6] (S2 := [(0, .slice a zs.length cap), (2, .slice none 0 0), (3, .int .i64 0), (4, .bool true), (5, .int .u64 ((n : Nat) : Int)), (6, .int .i64 ((u : Nat) : Int))]) (A2 := A1) rfl (by kernel_rfl) ?_
      refine EO.done rfl ?_
      refine J.seq ?_
      refine J.sr ?_
      refine EO.run 11 [0, 2, 3, 4, 5, 6, 24] (S2 := [(0, .slice a zs.length cap), (2, .slice none 0 0), (3, .int .i64 0), (4, .bool true), (5, .int .u64 ((n : Nat) : Int)), (6, .int .i64 ((u : Nat) : Int)), (24, .bool (decide (((n : Nat) : Int) > (IntKind.wrap .u64 (IntKind.wrap .i64 (((zs.length : Nat) : Int) - ((u : Nat) : Int)))))))]) (A2 := A1) rfl (by kernel_rfl) ?_
      refine EO.done rfl ?_
      have d1 : (decide (((n : Nat) : Int) > (IntKind.wrap .u64 (IntKind.wrap .i64 (((zs.length : Nat) : Int) - ((u : Nat) : Int)))))) = true := decide_eq_true (by rw [wrap_i64 (by omega) (by omega), wrap_u64 (by omega) (by omega)]; omega)
      rw [d1]
      refine J.cond true (by kernel_rfl) (fun _ => ?_) (fun h => Bool.noConfusion h)
      refine J.sr ?_
      refine EO.run 3 [0, 2, 3, 4, 5, 6, 24] (S2 := [(0, .slice a zs.length cap), (2, .slice none 0 0), (3, .int .i64 0), (4, .bool false), (5, .int .u64 ((n : Nat) : Int)), (6, .int .i64 ((u : Nat) : Int)), (24, .bool true)]) (A2 := A1) rfl (by kernel_rfl) ?_
      refine EO.done rfl ?_
      refine J.ret ?_
      refine thenJ_r ?_
      refine Ends_r (vs := [.slice none 0 0, .int .i64 0, .bool false]) (by kernel_rfl) ?_
      exact ⟨rfl, rfl⟩
    · rw [if_neg hlt]
      refine ⟨fun h => (by cases h), fun l e he => ?_⟩
      simp only [Option.some.injEq, Prod.mk.injEq] at he
      obtain ⟨rfl, rfl⟩ := he
      suffices hs : ∃ v' A', acall Try.prog pre dr 100000 (m + 2 + 1) 12 [.slice a zs.length cap] A = some (v', A') ∧ (∃ w, v' = .tuple #[w, .int .i64 ((u + n : Nat) : Int), .bool true] ∧ RowVN A.size A' w ((zs.drop u).take n) ∧ AExt A A' ∧ A'.nx = none) by
        obtain ⟨v', A', e, w, rfl, h2⟩ := hs
        exact ⟨w, A', e, h2⟩
      refine J.fn (fn := Try.f12) hp Try.func12 rfl (Nat.le_of_ble_eq_true rfl) ?_
      refine J.sr ?_
      refine EO.run 3 [0, 2, 3, 4] (S2 := [(0, .slice a zs.length cap), (2, .slice none 0 0), (3, .int .i64 0), (4, .bool false)]) (A2 := A) rfl (by kernel_rfl) ?_
      refine EO.done rfl ?_
      refine J.sr ?_
      refine EO.run 1 [0, 2, 3, 4, 9] (S2 := [(0, .slice a zs.length cap), (2, .slice none 0 0), (3, .int .i64 0), (4, .bool false), (9, .slice a zs.length cap)]) (A2 := A) rfl (by kernel_rfl) ?_
      refine EO.fcall (f := 10) (vs := [.slice a zs.length cap]) (v := .tuple #[.int .u64 ((n : Nat) : Int), .int .i64 ((u : Nat) : Int), .bool true]) (A1 := A1) rfl rfl rfl rfl (by kernel_rfl) (by kernel_rfl) (e10) ?_
      refine EO.run 9 [0, 2, 3, 4, 5, 6] (S2 := [(0, .slice a zs.length cap), (2, .slice none 0 0), (3, .int .i64 0), (4, .bool true), (5, .int .u64 ((n : Nat) : Int)), (6, .int .i64 ((u : Nat) : Int))]) (A2 := A1) rfl (by kernel_rfl) ?_
      refine EO.done rfl ?_
      refine J.seq ?_
      refine J.sr ?_
      refine EO.run 11 [0, 2, 3, 4, 5, 6, 24] (S2 := [(0, .slice a zs.length cap), (2, .slice none 0 0), (3, .int .i64 0), (4, .bool true), (5, .int .u64 ((n : Nat) : Int)), (6, .int .i64 ((u : Nat) : Int)), (24, .bool (decide (((n : Nat) : Int) > (IntKind.wrap .u64 (IntKind.wrap .i64 (((zs.length : Nat) : Int) - ((u : Nat) : Int)))))))]) (A2 := A1) rfl (by kernel_rfl) ?_
      refine EO.done rfl ?_
      have d1 : (decide (((n : Nat) : Int) > (IntKind.wrap .u64 (IntKind.wrap .i64 (((zs.length : Nat) : Int) - ((u : Nat) : Int)))))) = false := decide_eq_false (by rw [wrap_i64 (by omega) (by omega), wrap_u64 (by omega) (by omega)]; omega)
      rw [d1]
      refine J.cond false (by kernel_rfl) (fun h => Bool.noConfusion h) (fun _ => ?_)
      refine J.skip ?_
      refine thenJ_n ?_
      refine J.sr ?_
      refine EO.run 4 [0, 2, 3, 4, 5, 6, 24, 28] (S2 := [(0, .slice a zs.length cap), (2, .slice none 0 0), (3, .int .i64 0), (4, .bool true), (5, .int .u64 ((n : Nat) : Int)), (6, .int .i64 ((u : Nat) : Int)), (24, .bool false), (28, .int .i64 (IntKind.wrap .i64 (((u : Nat) : Int) + (IntKind.wrap .i64 ((n : Nat) : Int)))))]) (A2 := A1) rfl (by kernel_rfl) ?_
      refine EO.cast (S2 := [(0, .slice a zs.length cap), (2, .slice none 0 0), (3, .int .i64 0), (4, .bool true), (5, .int .u64 ((n : Nat) : Int)), (6, .int .i64 ((u : Nat) : Int)), (24, .bool false), (28, .int .i64 ((u + n : Nat) : Int))]) (by rw [show (IntKind.wrap .i64 (((u : Nat) : Int) + (IntKind.wrap .i64 ((n : Nat) : Int))) : Int) = ((u + n : Nat) : Int) from by rw [wrap_i64 (x := ((n : Nat) : Int)) (by omega) (by omega), wrap_i64 (by omega) (by omega)]; omega]) ?_
      refine EO.run 5 [0, 2, 3, 4, 5, 6, 7, 24] (S2 := [(0, .slice a zs.length cap), (2, .slice none 0 0), (3, .int .i64 0), (4, .bool true), (5, .int .u64 ((n : Nat) : Int)), (6, .int .i64 ((u : Nat) : Int)), (7, .int .i64 ((u + n : Nat) : Int)), (24, .bool false)]) (A2 := A1) rfl (by kernel_rfl) ?_
      refine EO.done rfl ?_
      refine J.sr ?_
      refine EO.run 3 [0, 2, 3, 4, 5, 6, 7, 24, 29, 30, 31] (S2 := [(0, .slice a zs.length cap), (2, .slice none 0 0), (3, .int .i64 0), (4, .bool true), (5, .int .u64 ((n : Nat) : Int)), (6, .int .i64 ((u : Nat) : Int)), (7, .int .i64 ((u + n : Nat) : Int)), (24, .bool false), (29, .slice a zs.length cap), (30, .int .i64 ((u : Nat) : Int)), (31, .int .i64 ((u + n : Nat) : Int))]) (A2 := A1) rfl (by kernel_rfl) ?_
      obtain ⟨w1, A2, hA2, hrw1, hxA2, hnA2⟩ := (h1).slice2 hn1 (kd := .i64) u (u + n) (by omega) (by omega)
      refine EO.slice (v := .slice a zs.length cap) (w := w1) (l := some (.int .i64 (Int.ofNat u))) (h' := some (.int .i64 (Int.ofNat (u + n)))) (m := none) (A1 := A2) rfl rfl rfl (by kernel_rfl) (by kernel_rfl) (by kernel_rfl) (by kernel_rfl) rfl ((asliceOp_slice (elem := 5) (size := 1) (by kernel_rfl) (by kernel_rfl)).trans hA2) ?_
      obtain ⟨w2, A3, hA3, hrw2, hxA3, hnA3⟩ := append_nil (ats := #[22, 22]) (fun _ _ => by kernel_rfl) hrw1 (by simp; omega) hnA2
      refine EO.append (v := .slice none 0 0) (u := w1) (w := w2) (A1 := A3) rfl rfl rfl rfl rfl (by kernel_rfl) (by kernel_rfl) (by kernel_rfl) hA3 ?_
      refine EO.run 9 [0, 2, 3, 4, 5, 6, 7, 24] (S2 := [(0, .slice a zs.length cap), (2, w2), (3, .int .i64 ((u + n : Nat) : Int)), (4, .bool true), (5, .int .u64 ((n : Nat) : Int)), (6, .int .i64 ((u : Nat) : Int)), (7, .int .i64 ((u + n : Nat) : Int)), (24, .bool false)]) (A2 := A3) rfl (by kernel_rfl) ?_
      refine EO.done rfl ?_
      refine J.ret ?_
      refine Ends_r (vs := [w2, .int .i64 ((u + n : Nat) : Int), .bool true]) (by kernel_rfl) ?_
      exact ⟨w2, rfl, by rw [show u + n - u = n from by omega] at hrw2; exact hrw2.mono (Nat.le_trans hx1.size hxA2.size), hx1.trans (hxA2.trans hxA3), hnA3⟩
end
end Go.Proofs.Ytioggedadamoaaa
