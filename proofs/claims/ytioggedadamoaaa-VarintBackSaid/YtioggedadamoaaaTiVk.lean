/- hostlerlaw01.VarintBack: the walk over the abstract machine. -/
import Derived.Test.YtioggedadamoaaaTiVi
set_option autoImplicit false
set_option linter.unusedVariables false
set_option linter.unusedSimpArgs false
namespace Go.Proofs.Ytioggedadamoaaa
open Go.Abs Go.RowKit

section
variable {pre : FuncId → Option (List Value → AW → Option (Value × AW))} {dr : CallF → Array Oper → Array Value → AW → Option (Array Value × AW)} {A : AW} {m : Nat}


theorem takeOf_bad {zs : List Int} (h : (takeOf zs).2.2 = false) : takeOf zs = (0, 0, false) := by
  cases zs with
  | nil => rfl
  | cons z r =>
    by_cases hl : r.length + 1 < 2 ^ (z / 64).toNat
    · exact takeOf_short rfl hl
    · rw [takeOf_long rfl hl] at h; simp at h

theorem takeOf_enc {n : Int} (h0 : 0 ≤ n) (hc : clsN n < 4) (t : List Int) : takeOf (shortOf n ++ t) = (n, szOf n, true) := by
  have hs : szOf n = 2 ^ clsN n := by unfold szOf; rw [if_pos hc]
  have hsh : shortOf n = encC (clsN n) n := by unfold shortOf; rw [if_pos hc]
  have hin := (clsN_in h0 rfl hc).2
  rw [hs, hsh]
  have hc4 : clsN n = 0 ∨ clsN n = 1 ∨ clsN n = 2 ∨ clsN n = 3 := by omega
  rcases hc4 with h | h | h | h <;> rw [h] at hin ⊢
  · have hin2 : n < 64 := hin
    simp only [encC, List.cons_append, List.nil_append]
    rw [takeOf_long (u := 1) (by rw [show (n % 256 + 0) / 64 = 0 from by omega]; rfl) (by first | omega | (simp only [List.length_cons]; omega))]
    simp only [fold256, List.take_succ_cons, List.take_zero, List.foldl_cons, List.foldl_nil, Nat.reduceSub]
    congr 1
    omega
  · have hin2 : n < 16384 := hin
    simp only [encC, List.cons_append, List.nil_append]
    rw [takeOf_long (u := 2) (by rw [show (n / 256 % 256 + 64) / 64 = 1 from by omega]; rfl) (by first | omega | (simp only [List.length_cons]; omega))]
    simp only [fold256, List.take_succ_cons, List.take_zero, List.foldl_cons, List.foldl_nil, Nat.reduceSub]
    congr 1
    omega
  · have hin2 : n < 1073741824 := hin
    simp only [encC, List.cons_append, List.nil_append]
    rw [takeOf_long (u := 4) (by rw [show (n / 256 / 256 / 256 % 256 + 128) / 64 = 2 from by omega]; rfl) (by first | omega | (simp only [List.length_cons]; omega))]
    simp only [fold256, List.take_succ_cons, List.take_zero, List.foldl_cons, List.foldl_nil, Nat.reduceSub]
    congr 1
    omega
  · have hin2 : n < 4611686018427387904 := hin
    simp only [encC, List.cons_append, List.nil_append]
    rw [takeOf_long (u := 8) (by rw [show (n / 256 / 256 / 256 / 256 / 256 / 256 / 256 % 256 + 192) / 64 = 3 from by omega]; rfl) (by first | omega | (simp only [List.length_cons]; omega))]
    simp only [fold256, List.take_succ_cons, List.take_zero, List.foldl_cons, List.foldl_nil, Nat.reduceSub]
    congr 1
    omega

theorem takeOf_cut {n : Int} (h0 : 0 ≤ n) (hc : clsN n < 4) (t : List Int) : takeOf ((shortOf n ++ t).take (szOf n - 1)) = (0, 0, false) := by
  have hs : szOf n = 2 ^ clsN n := by unfold szOf; rw [if_pos hc]
  have hsh : shortOf n = encC (clsN n) n := by unfold shortOf; rw [if_pos hc]
  have hin := (clsN_in h0 rfl hc).2
  rw [hs, hsh]
  have hc4 : clsN n = 0 ∨ clsN n = 1 ∨ clsN n = 2 ∨ clsN n = 3 := by omega
  rcases hc4 with h | h | h | h <;> rw [h] at hin ⊢
  · rfl
  · have hin2 : n < 16384 := hin
    simp only [encC, List.cons_append, List.nil_append, Nat.reducePow, Nat.reduceSub, List.take_succ_cons, List.take_zero]
    exact takeOf_short (u := 2) (by rw [show (n / 256 % 256 + 64) / 64 = 1 from by omega]; rfl) (by simp only [List.length_cons, List.length_nil]; omega)
  · have hin2 : n < 1073741824 := hin
    simp only [encC, List.cons_append, List.nil_append, Nat.reducePow, Nat.reduceSub, List.take_succ_cons, List.take_zero]
    exact takeOf_short (u := 4) (by rw [show (n / 256 / 256 / 256 % 256 + 128) / 64 = 2 from by omega]; rfl) (by simp only [List.length_cons, List.length_nil]; omega)
  · have hin2 : n < 4611686018427387904 := hin
    simp only [encC, List.cons_append, List.nil_append, Nat.reducePow, Nat.reduceSub, List.take_succ_cons, List.take_zero]
    exact takeOf_short (u := 8) (by rw [show (n / 256 / 256 / 256 / 256 / 256 / 256 / 256 % 256 + 192) / 64 = 3 from by omega]; rfl) (by simp only [List.length_cons, List.length_nil]; omega)

theorem encL_drop {ns : List Int} {i : Nat} {n : Int} (h : ns[i]? = some n) : encL (ns.drop i) = shortOf n ++ encL (ns.drop (i + 1)) := by
  unfold encL
  have hl := (List.getElem?_eq_some_iff.1 h).1
  rw [List.drop_eq_getElem_cons hl, (List.getElem?_eq_some_iff.1 h).2]
  simp
theorem shortOf_len {n : Int} (hc : clsN n < 4) : (shortOf n).length = szOf n := by
  unfold shortOf szOf
  rw [if_pos hc, if_pos hc]
  have hc4 : clsN n = 0 ∨ clsN n = 1 ∨ clsN n = 2 ∨ clsN n = 3 := by omega
  rcases hc4 with h | h | h | h <;> rw [h] <;> rfl
theorem szOf_le {n : Int} (hc : clsN n < 4) : 1 ≤ szOf n ∧ szOf n ≤ 8 := by
  rw [← shortOf_len hc]
  refine ⟨?_, shortOf_le n⟩
  rw [shortOf_len hc]
  exact szOf_pos.2 hc
theorem encL_len (ns : List Int) : (encL ns).length ≤ 8 * ns.length := by
  induction ns with
  | nil => simp [encL]
  | cons n ns ih =>
    have := shortOf_le n
    have e : encL (n :: ns) = shortOf n ++ encL ns := by simp [encL]
    rw [e, List.length_append, List.length_cons]
    omega

/-- What is taken is of a class that its first byte tells. -/
theorem takeOf_cls {bs : List Int} (hb : isByte bs) {n u : Nat} (h : takeOf bs = ((n : Int), u, true)) : clsN n < 4 ∧ szOf n ≤ u ∧ ∃ z r, bs = z :: r ∧ 2 ^ (z / 64).toNat = u := by
  cases bs with
  | nil => simp [takeOf] at h
  | cons z r =>
    have hz := hb z (by simp)
    obtain ⟨u', hu⟩ : ∃ u', 2 ^ (z / 64).toNat = u' := ⟨_, rfl⟩
    by_cases hl : r.length + 1 < u'
    · rw [takeOf_short hu hl] at h; simp at h
    · rw [takeOf_long hu hl] at h
      simp only [Prod.mk.injEq] at h
      obtain ⟨h1, h2, _⟩ := h
      have hbd := fold_bound (r.take (u' - 1)) (z % 64) 64 (by omega) (by omega) (fun y hy => hb y (by simp [List.mem_of_mem_take hy]))
      have hlen : (r.take (u' - 1)).length = u' - 1 := by simp; omega
      rw [hlen, h1] at hbd
      have hc4 : (z / 64).toNat = 0 ∨ (z / 64).toNat = 1 ∨ (z / 64).toNat = 2 ∨ (z / 64).toNat = 3 := by omega
      have key : clsN n < 4 ∧ szOf n ≤ u' := by
        rcases hc4 with hc | hc | hc | hc <;> rw [hc] at hu <;> subst hu
        · have hb2 : (n : Int) < 64 := hbd.2
          have hq : clsN n ≤ 0 := by unfold clsN; (repeat' split) <;> omega
          refine ⟨by omega, ?_⟩
          unfold szOf
          rw [if_pos (by omega)]
          exact Nat.pow_le_pow_right (by decide) hq
        · have hb2 : (n : Int) < 16384 := hbd.2
          have hq : clsN n ≤ 1 := by unfold clsN; (repeat' split) <;> omega
          refine ⟨by omega, ?_⟩
          unfold szOf
          rw [if_pos (by omega)]
          exact Nat.pow_le_pow_right (by decide) hq
        · have hb2 : (n : Int) < 1073741824 := hbd.2
          have hq : clsN n ≤ 2 := by unfold clsN; (repeat' split) <;> omega
          refine ⟨by omega, ?_⟩
          unfold szOf
          rw [if_pos (by omega)]
          exact Nat.pow_le_pow_right (by decide) hq
        · have hb2 : (n : Int) < 4611686018427387904 := hbd.2
          have hq : clsN n ≤ 3 := by unfold clsN; (repeat' split) <;> omega
          refine ⟨by omega, ?_⟩
          unfold szOf
          rw [if_pos (by omega)]
          exact Nat.pow_le_pow_right (by decide) hq
      subst h2
      exact ⟨key.1, key.2, z, r, rfl, hu⟩

theorem f5_spec (hp : pre 5 = none) (hp10 : pre 10 = none) (hp14 : pre 14 = none) (hp17 : pre 17 = none) (hp25 : pre 25 = none) (hp27 : pre 27 = none)
    (hk : ∀ m A, acall Try.prog pre dr 100000 (m + 1) 9 [] A = some (.bool true, A)) {vl vb : Value} {ns bs : List Int} (hl : R64 A vl ns) (hb : RowV A vb bs) (hnx : A.nx = none) :
    ∃ A', acall Try.prog pre dr 100000 (m + 3) 5 [vl, vb] A = some (.bool true, A') := by
  suffices hs : ∃ v' A', acall Try.prog pre dr 100000 (m + 2 + 1) 5 [vl, vb] A = some (v', A') ∧ (v' = .bool true) by
    obtain ⟨v', A', e, rfl⟩ := hs
    exact ⟨A', e⟩
  have hk9 := hk (m + 1) A
  have hb0 := hb
  obtain ⟨ab, capb, hvb⟩ := hb.form
  subst hvb
  obtain ⟨al, capl, hvl⟩ := hl.form
  subst hvl
  by_cases hbig : 300 < ns.length
  · refine J.fn (fn := Try.f5) hp Try.func5 rfl (Nat.le_of_ble_eq_true rfl) ?_
    refine J.sr ?_
    refine EO.run 1 [0, 1, 4] (S2 := [(0, .slice al ns.length capl), (1, .slice ab bs.length capb), (4, .bool false)]) (A2 := A) rfl (by kernel_rfl) ?_
    refine EO.done rfl ?_
    refine J.seq ?_
    refine J.sr ?_
    refine EO.fcall (f := 9) (vs := []) (v := .bool true) (A1 := A) rfl rfl rfl rfl (by kernel_rfl) (by kernel_rfl) (hk9) ?_
    refine EO.run 2 [0, 1, 4, 21] (S2 := [(0, .slice al ns.length capl), (1, .slice ab bs.length capb), (4, .bool false), (21, .bool false)]) (A2 := A) rfl (by kernel_rfl) ?_
    refine EO.done rfl ?_
    refine J.cond false (by kernel_rfl) (fun h => Bool.noConfusion h) (fun _ => ?_)
    refine J.skip ?_
    refine thenJ_n ?_
    refine J.seq ?_
    refine J.sr ?_
    refine EO.run 4 [0, 1, 4, 21, 25] (S2 := [(0, .slice al ns.length capl), (1, .slice ab bs.length capb), (4, .bool false), (21, .bool false), (25, .bool (decide (((ns.length : Nat) : Int) > 300)))]) (A2 := A) rfl (by kernel_rfl) ?_
    have d1 : (decide (((ns.length : Nat) : Int) > 300)) = true := decide_eq_true (by omega)
    rw [d1]
    refine EO.run 8 [0, 1, 4, 21, 29] (S2 := [(0, .slice al ns.length capl), (1, .slice ab bs.length capb), (4, .bool false), (21, .bool false), (29, .bool true)]) (A2 := A) rfl (by kernel_rfl) ?_
    refine EO.done rfl ?_
    refine J.cond true (by kernel_rfl) (fun _ => ?_) (fun h => Bool.noConfusion h)
    refine J.sr ?_
    refine EO.run 1 [0, 1, 4, 21, 29] (S2 := [(0, .slice al ns.length capl), (1, .slice ab bs.length capb), (4, .bool true), (21, .bool false), (29, .bool true)]) (A2 := A) rfl (by kernel_rfl) ?_
    refine EO.done rfl ?_
    refine J.ret ?_
    refine thenJ_r ?_
    refine Ends_r (vs := [.bool true]) (by kernel_rfl) ?_
    exact rfl
  · by_cases hbig2 : 1000 < bs.length
    · refine J.fn (fn := Try.f5) hp Try.func5 rfl (Nat.le_of_ble_eq_true rfl) ?_
      refine J.sr ?_
      refine EO.run 1 [0, 1, 4] (S2 := [(0, .slice al ns.length capl), (1, .slice ab bs.length capb), (4, .bool false)]) (A2 := A) rfl (by kernel_rfl) ?_
      refine EO.done rfl ?_
      refine J.seq ?_
      refine J.sr ?_
      refine EO.fcall (f := 9) (vs := []) (v := .bool true) (A1 := A) rfl rfl rfl rfl (by kernel_rfl) (by kernel_rfl) (hk9) ?_
      refine EO.run 2 [0, 1, 4, 21] (S2 := [(0, .slice al ns.length capl), (1, .slice ab bs.length capb), (4, .bool false), (21, .bool false)]) (A2 := A) rfl (by kernel_rfl) ?_
      refine EO.done rfl ?_
      refine J.cond false (by kernel_rfl) (fun h => Bool.noConfusion h) (fun _ => ?_)
      refine J.skip ?_
      refine thenJ_n ?_
      refine J.seq ?_
      refine J.sr ?_
      refine EO.run 4 [0, 1, 4, 21, 25] (S2 := [(0, .slice al ns.length capl), (1, .slice ab bs.length capb), (4, .bool false), (21, .bool false), (25, .bool (decide (((ns.length : Nat) : Int) > 300)))]) (A2 := A) rfl (by kernel_rfl) ?_
      have d1 : (decide (((ns.length : Nat) : Int) > 300)) = false := decide_eq_false (by omega)
      rw [d1]
      refine EO.run 8 [0, 1, 4, 21, 29] (S2 := [(0, .slice al ns.length capl), (1, .slice ab bs.length capb), (4, .bool false), (21, .bool false), (29, .bool (decide (((bs.length : Nat) : Int) > 1000)))]) (A2 := A) rfl (by kernel_rfl) ?_
      refine EO.done rfl ?_
      have d2 : (decide (((bs.length : Nat) : Int) > 1000)) = true := decide_eq_true (by omega)
      rw [d2]
      refine J.cond true (by kernel_rfl) (fun _ => ?_) (fun h => Bool.noConfusion h)
      refine J.sr ?_
      refine EO.run 1 [0, 1, 4, 21, 29] (S2 := [(0, .slice al ns.length capl), (1, .slice ab bs.length capb), (4, .bool true), (21, .bool false), (29, .bool true)]) (A2 := A) rfl (by kernel_rfl) ?_
      refine EO.done rfl ?_
      refine J.ret ?_
      refine thenJ_r ?_
      refine Ends_r (vs := [.bool true]) (by kernel_rfl) ?_
      exact rfl
    · refine J.fn (fn := Try.f5) hp Try.func5 rfl (Nat.le_of_ble_eq_true rfl) ?_
      refine J.sr ?_
      refine EO.run 1 [0, 1, 4] (S2 := [(0, .slice al ns.length capl), (1, .slice ab bs.length capb), (4, .bool false)]) (A2 := A) rfl (by kernel_rfl) ?_
      refine EO.done rfl ?_
      refine J.seq ?_
      refine J.sr ?_
      refine EO.fcall (f := 9) (vs := []) (v := .bool true) (A1 := A) rfl rfl rfl rfl (by kernel_rfl) (by kernel_rfl) (hk9) ?_
      refine EO.run 2 [0, 1, 4, 21] (S2 := [(0, .slice al ns.length capl), (1, .slice ab bs.length capb), (4, .bool false), (21, .bool false)]) (A2 := A) rfl (by kernel_rfl) ?_
      refine EO.done rfl ?_
      refine J.cond false (by kernel_rfl) (fun h => Bool.noConfusion h) (fun _ => ?_)
      refine J.skip ?_
      refine thenJ_n ?_
      refine J.seq ?_
      refine J.sr ?_
      refine EO.run 4 [0, 1, 4, 21, 25] (S2 := [(0, .slice al ns.length capl), (1, .slice ab bs.length capb), (4, .bool false), (21, .bool false), (25, .bool (decide (((ns.length : Nat) : Int) > 300)))]) (A2 := A) rfl (by kernel_rfl) ?_
      have d1 : (decide (((ns.length : Nat) : Int) > 300)) = false := decide_eq_false (by omega)
      rw [d1]
      refine EO.run 8 [0, 1, 4, 21, 29] (S2 := [(0, .slice al ns.length capl), (1, .slice ab bs.length capb), (4, .bool false), (21, .bool false), (29, .bool (decide (((bs.length : Nat) : Int) > 1000)))]) (A2 := A) rfl (by kernel_rfl) ?_
      refine EO.done rfl ?_
      have d2 : (decide (((bs.length : Nat) : Int) > 1000)) = false := decide_eq_false (by omega)
      rw [d2]
      refine J.cond false (by kernel_rfl) (fun h => Bool.noConfusion h) (fun _ => ?_)
      refine J.skip ?_
      refine thenJ_n ?_
      refine J.sr ?_
      refine EO.run 1 [0, 1, 4, 21, 29, 31] (S2 := [(0, .slice al ns.length capl), (1, .slice ab bs.length capb), (4, .bool false), (21, .bool false), (29, .bool false), (31, .slice al ns.length capl)]) (A2 := A) rfl (by kernel_rfl) ?_
      obtain ⟨v7, A1, e17, hx1, hn1, ⟨hall, w7, rfl, hO7⟩ | ⟨hno, rfl⟩⟩ := f17_spec (pre := pre) (dr := dr) (m := m) hp17 hp25 hp27 (vb := .slice none 0 0) (zs := []) (.inl ⟨rfl, rfl⟩) hl hnx (by simp only [List.length_nil]; omega) (by omega)
      ·
        refine EO.fcall (f := 17) (vs := [.slice none 0 0, .slice al ns.length capl]) (v := .tuple #[w7, .int .i64 0]) (A1 := A1) rfl rfl rfl rfl (by kernel_rfl) (by kernel_rfl) e17 ?_
        refine EO.run 7 [0, 1, 4, 5, 6, 21, 29] (S2 := [(0, .slice al ns.length capl), (1, .slice ab bs.length capb), (4, .bool false), (5, w7), (6, .int .i64 0), (21, .bool false), (29, .bool false)]) (A2 := A1) rfl (by kernel_rfl) ?_
        refine EO.done rfl ?_
        refine J.seq ?_
        refine J.sr ?_
        refine EO.run 2 [0, 1, 4, 5, 6, 21, 29, 36] (S2 := [(0, .slice al ns.length capl), (1, .slice ab bs.length capb), (4, .bool false), (5, w7), (6, .int .i64 0), (21, .bool false), (29, .bool false), (36, .bool true)]) (A2 := A1) rfl (by kernel_rfl) ?_
        refine EO.done rfl ?_
        refine J.cond true (by kernel_rfl) (fun _ => ?_) (fun h => Bool.noConfusion h)
        refine J.sr ?_
        obtain ⟨A2, hA2, hxA2, hnA2, hgA2, hbA2⟩ := new_empty (A := A1) hn1
        refine EO.run 1 [0, 1, 4, 5, 6, 21, 29, 36, 37] (S2 := [(0, .slice al ns.length capl), (1, .slice ab bs.length capb), (4, .bool false), (5, w7), (6, .int .i64 0), (21, .bool false), (29, .bool false), (36, .bool true), (37, .slice (some ⟨A1.nid, 0, none⟩) 0 0)]) (A2 := A1.push (.cells [] false false 1)) rfl (by kernel_rfl) ?_
        rw [hA2]
        refine EO.run 2 [0, 1, 4, 5, 6, 21, 29, 36, 37, 38] (S2 := [(0, .slice al ns.length capl), (1, .slice ab bs.length capb), (4, .bool false), (5, w7), (6, .int .i64 0), (21, .bool false), (29, .bool false), (36, .bool true), (37, .slice (some ⟨A1.nid, 0, none⟩) 0 0), (38, w7)]) (A2 := A2) rfl (by kernel_rfl) ?_
        have hO7r : RowV A2 w7 (encL ns) := (hO7.rowV).ext hxA2
        have hel := encL_len ns
        obtain ⟨w8, A3, hA3, hE8, hx3, hn3⟩ := append_empty_out (P := Try.prog) (ats := #[22, 22]) (fun _ _ => by kernel_rfl) hgA2 hO7r hbA2 (by omega) hnA2
        refine EO.append (v := .slice (some ⟨A1.nid, 0, none⟩) 0 0) (u := w7) (w := w8) (A1 := A3) rfl rfl rfl rfl rfl (by kernel_rfl) (by kernel_rfl) (by kernel_rfl) hA3 ?_
        refine EO.run 4 [0, 1, 4, 5, 6, 21, 29, 36, 39, 40] (S2 := [(0, .slice al ns.length capl), (1, .slice ab bs.length capb), (4, .bool false), (5, w7), (6, .int .i64 0), (21, .bool false), (29, .bool false), (36, .bool true), (39, w8), (40, .slice ab bs.length capb)]) (A2 := A3) rfl (by kernel_rfl) ?_
        have hx13 := (hx1.trans hxA2).trans hx3
        obtain ⟨w9, A4, hA4, hr9, hk4⟩ := hE8.app (P := Try.prog) (ats := #[22, 22]) (fun _ _ => by kernel_rfl) (hb0.ext hx13) (by omega) hx3.size hn3
        refine EO.append (v := w8) (u := .slice ab bs.length capb) (w := w9) (A1 := A4) rfl rfl rfl rfl rfl (by kernel_rfl) (by kernel_rfl) (by kernel_rfl) hA4 ?_
        have hx4 : AExt A A4 := ⟨Nat.le_trans hx13.size hk4.size, fun b hb => by rw [hk4.get b (Nat.lt_of_lt_of_le hb (hx1.trans hxA2).size), hx13.get b hb], fun _ => hk4.nx⟩
        refine EO.run 6 [0, 1, 4, 5, 6, 7, 21, 29, 36] (S2 := [(0, .slice al ns.length capl), (1, .slice ab bs.length capb), (4, .bool false), (5, w7), (6, .int .i64 0), (7, w9), (21, .bool false), (29, .bool false), (36, .bool true)]) (A2 := A4) rfl (by kernel_rfl) ?_
        refine EO.done rfl ?_
        refine J.seq ?_
        refine J.sr ?_
        refine EO.run 3 [0, 1, 4, 5, 6, 7, 21, 29, 36, 42, 43, 44] (S2 := [(0, .slice al ns.length capl), (1, .slice ab bs.length capb), (4, .bool false), (5, w7), (6, .int .i64 0), (7, w9), (21, .bool false), (29, .bool false), (36, .bool true), (42, .slice al ns.length capl), (43, .int .i64 ((ns.length : Nat) : Int)), (44, .int .i64 0)]) (A2 := A4) rfl (by kernel_rfl) ?_
        refine EO.done rfl ?_
        refine J.block ?_
        refine J.loopI (fun k S A' => ∃ (i : Nat) (w : Value), i + k = ns.length + 1 ∧ i ≤ ns.length ∧ RowV A' w (encL (ns.drop i) ++ bs) ∧ AExt A A' ∧ A'.nx = none ∧ S = [(0, .slice al ns.length capl), (1, .slice ab bs.length capb), (4, .bool false), (5, w7), (6, .int .i64 0), (7, w), (21, .bool false), (29, .bool false), (36, .bool true), (42, .slice al ns.length capl), (43, .int .i64 ((ns.length : Nat) : Int)), (44, .int .i64 ((i : Nat) : Int))]) (ns.length + 1) (by omega) ⟨0, w9, by omega, Nat.zero_le _, hr9, hx4, hk4.nx, rfl⟩ ?_ ?_
        rotate_left
        · rintro S A ⟨i, _, q1, q2, _⟩; omega
        rintro k S A5 ⟨i, w, q1, q2, hr, hx, hn, rfl⟩
        refine J.sr ?_
        refine EO.run 1 [0, 1, 4, 5, 6, 7, 21, 29, 36, 42, 43, 44, 45] (S2 := [(0, .slice al ns.length capl), (1, .slice ab bs.length capb), (4, .bool false), (5, w7), (6, .int .i64 0), (7, w), (21, .bool false), (29, .bool false), (36, .bool true), (42, .slice al ns.length capl), (43, .int .i64 ((ns.length : Nat) : Int)), (44, .int .i64 ((i : Nat) : Int)), (45, .bool (decide (((i : Nat) : Int) < ((ns.length : Nat) : Int))))]) (A2 := A5) rfl (by kernel_rfl) ?_
        refine EO.done rfl ?_
        refine J.seq ?_
        refine J.cond (decide (((i : Nat) : Int) < ((ns.length : Nat) : Int))) (by kernel_rfl) (fun h3 => ?_) (fun h3 => ?_)
        ·
          refine J.skip ?_
          refine thenJ_n ?_
          refine J.seq ?_
          refine J.block ?_
          refine J.sr ?_
          have q6 : i < ns.length := by have := of_decide_eq_true h3; omega
          obtain ⟨n, hnn⟩ : ∃ n, ns[i]? = some n := ⟨_, List.getElem?_eq_getElem q6⟩
          obtain ⟨ad, hi1, hi2⟩ := (hl.ext hx).load (P := Try.prog) (t := 24) (st := 34) (e := 24) (by kernel_rfl) (by kernel_rfl) (by kernel_rfl) hnn
          have hn0 := hl.1 n (List.mem_of_getElem? hnn)
          have hcn := hall n (List.mem_of_getElem? hnn)
          have hsz := szOf_le hcn
          rw [encL_drop hnn, List.append_assoc] at hr
          have htk := takeOf_enc hn0.1 hcn (encL (ns.drop (i + 1)) ++ bs)
          have hct := takeOf_cut hn0.1 hcn (encL (ns.drop (i + 1)) ++ bs)
          have hlen := shortOf_len hcn
          refine EO.index (v := .slice al ns.length capl) (u := .int .i64 (Int.ofNat i)) (w := .pointer (some ad)) rfl rfl rfl (by kernel_rfl) (by kernel_rfl) (by kernel_rfl) hi1 ?_
          refine EO.load (ad := ad) (w := .int .u64 n) rfl rfl rfl (by kernel_rfl) (by kernel_rfl) hi2 ?_
          refine EO.run 3 [0, 1, 4, 5, 6, 7, 9, 21, 29, 36, 42, 43, 44, 45] (S2 := [(0, .slice al ns.length capl), (1, .slice ab bs.length capb), (4, .bool false), (5, w7), (6, .int .i64 0), (7, w), (9, .int .u64 n), (21, .bool false), (29, .bool false), (36, .bool true), (42, .slice al ns.length capl), (43, .int .i64 ((ns.length : Nat) : Int)), (44, .int .i64 ((i : Nat) : Int)), (45, .bool (decide (((i : Nat) : Int) < ((ns.length : Nat) : Int))))]) (A2 := A5) rfl (by kernel_rfl) ?_
          refine EO.done rfl ?_
          refine J.sr ?_
          refine EO.run 1 [0, 1, 4, 5, 6, 7, 9, 21, 29, 36, 42, 43, 44, 45, 49] (S2 := [(0, .slice al ns.length capl), (1, .slice ab bs.length capb), (4, .bool false), (5, w7), (6, .int .i64 0), (7, w), (9, .int .u64 n), (21, .bool false), (29, .bool false), (36, .bool true), (42, .slice al ns.length capl), (43, .int .i64 ((ns.length : Nat) : Int)), (44, .int .i64 ((i : Nat) : Int)), (45, .bool (decide (((i : Nat) : Int) < ((ns.length : Nat) : Int)))), (49, w)]) (A2 := A5) rfl (by kernel_rfl) ?_
          obtain ⟨A6, e10, hx6, hn6⟩ := f10_spec (pre := pre) (dr := dr) (m := m) hp10 hp25 hr hn
          unfold takeV at e10
          rw [htk] at e10
          refine EO.fcall (f := 10) (vs := [w]) (v := .tuple #[.int .u64 n, .int .i64 ((szOf n : Nat) : Int), .bool true]) (A1 := A6) rfl rfl rfl rfl (by kernel_rfl) (by kernel_rfl) e10 ?_
          refine EO.run 9 [0, 1, 4, 5, 6, 7, 9, 10, 11, 12, 21, 29, 36, 42, 43, 44, 45] (S2 := [(0, .slice al ns.length capl), (1, .slice ab bs.length capb), (4, .bool false), (5, w7), (6, .int .i64 0), (7, w), (9, .int .u64 n), (10, .int .u64 n), (11, .int .i64 ((szOf n : Nat) : Int)), (12, .bool true), (21, .bool false), (29, .bool false), (36, .bool true), (42, .slice al ns.length capl), (43, .int .i64 ((ns.length : Nat) : Int)), (44, .int .i64 ((i : Nat) : Int)), (45, .bool (decide (((i : Nat) : Int) < ((ns.length : Nat) : Int))))]) (A2 := A6) rfl (by kernel_rfl) ?_
          refine EO.done rfl ?_
          refine J.seq ?_
          refine J.sr ?_
          refine EO.run 4 [0, 1, 4, 5, 6, 7, 9, 10, 11, 12, 21, 29, 36, 42, 43, 44, 45, 55, 58] (S2 := [(0, .slice al ns.length capl), (1, .slice ab bs.length capb), (4, .bool false), (5, w7), (6, .int .i64 0), (7, w), (9, .int .u64 n), (10, .int .u64 n), (11, .int .i64 ((szOf n : Nat) : Int)), (12, .bool true), (21, .bool false), (29, .bool false), (36, .bool true), (42, .slice al ns.length capl), (43, .int .i64 ((ns.length : Nat) : Int)), (44, .int .i64 ((i : Nat) : Int)), (45, .bool (decide (((i : Nat) : Int) < ((ns.length : Nat) : Int)))), (55, w), (58, .int .i64 (if (0 : Int) > (IntKind.wrap .i64 (((szOf n : Nat) : Int) - 1)) then 0 else IntKind.wrap .i64 (((szOf n : Nat) : Int) - 1)))]) (A2 := A6) rfl (by kernel_rfl) ?_
          refine EO.cast (S2 := [(0, .slice al ns.length capl), (1, .slice ab bs.length capb), (4, .bool false), (5, w7), (6, .int .i64 0), (7, w), (9, .int .u64 n), (10, .int .u64 n), (11, .int .i64 ((szOf n : Nat) : Int)), (12, .bool true), (21, .bool false), (29, .bool false), (36, .bool true), (42, .slice al ns.length capl), (43, .int .i64 ((ns.length : Nat) : Int)), (44, .int .i64 ((i : Nat) : Int)), (45, .bool (decide (((i : Nat) : Int) < ((ns.length : Nat) : Int)))), (55, w), (58, .int .i64 ((szOf n - 1 : Nat) : Int))]) (by rw [show (if (0 : Int) > (IntKind.wrap .i64 (((szOf n : Nat) : Int) - 1)) then 0 else IntKind.wrap .i64 (((szOf n : Nat) : Int) - 1) : Int) = ((szOf n - 1 : Nat) : Int) from by rw [wrap_i64 (by omega) (by omega), if_neg (by omega)]; omega]) ?_
          obtain ⟨w2, A7, hsl, hr2, hx7, hn7⟩ := (hr.ext hx6).slice0 hn6 (kd := .i64) (szOf n - 1) (by rw [List.length_append]; omega)
          refine EO.slice (v := w) (w := w2) (l := none) (h' := some (.int .i64 (Int.ofNat (szOf n - 1)))) (m := none) (A1 := A7) rfl rfl rfl (by kernel_rfl) (by kernel_rfl) (by kernel_rfl) (by kernel_rfl) rfl ((asliceOp_slice (elem := 5) (size := 1) (by kernel_rfl) (by kernel_rfl)).trans hsl) ?_
          obtain ⟨A8, e11, hx8, hn8⟩ := f10_spec (pre := pre) (dr := dr) (m := m) hp10 hp25 hr2 hn7
          unfold takeV at e11
          rw [hct] at e11
          refine EO.fcall (f := 10) (vs := [w2]) (v := .tuple #[.int .u64 0, .int .i64 0, .bool false]) (A1 := A8) rfl rfl rfl rfl (by kernel_rfl) (by kernel_rfl) e11 ?_
          refine EO.run 13 [0, 1, 4, 5, 6, 7, 9, 10, 11, 12, 15, 21, 29, 36, 42, 43, 44, 45] (S2 := [(0, .slice al ns.length capl), (1, .slice ab bs.length capb), (4, .bool false), (5, w7), (6, .int .i64 0), (7, w), (9, .int .u64 n), (10, .int .u64 n), (11, .int .i64 ((szOf n : Nat) : Int)), (12, .bool true), (15, .bool false), (21, .bool false), (29, .bool false), (36, .bool true), (42, .slice al ns.length capl), (43, .int .i64 ((ns.length : Nat) : Int)), (44, .int .i64 ((i : Nat) : Int)), (45, .bool (decide (((i : Nat) : Int) < ((ns.length : Nat) : Int))))]) (A2 := A8) rfl (by kernel_rfl) ?_
          refine EO.done rfl ?_
          refine J.sr ?_
          refine EO.run 4 [0, 1, 4, 5, 6, 7, 9, 10, 11, 12, 15, 21, 29, 36, 42, 43, 44, 45, 67] (S2 := [(0, .slice al ns.length capl), (1, .slice ab bs.length capb), (4, .bool false), (5, w7), (6, .int .i64 0), (7, w), (9, .int .u64 n), (10, .int .u64 n), (11, .int .i64 ((szOf n : Nat) : Int)), (12, .bool true), (15, .bool false), (21, .bool false), (29, .bool false), (36, .bool true), (42, .slice al ns.length capl), (43, .int .i64 ((ns.length : Nat) : Int)), (44, .int .i64 ((i : Nat) : Int)), (45, .bool (decide (((i : Nat) : Int) < ((ns.length : Nat) : Int)))), (67, .bool (n != n))]) (A2 := A8) rfl (by kernel_rfl) ?_
          have d4 : (n != n) = false := bne_refl' rfl
          rw [d4]
          refine EO.run 10 [0, 1, 4, 5, 6, 7, 9, 10, 11, 12, 15, 21, 29, 36, 42, 43, 44, 45, 71, 72, 73] (S2 := [(0, .slice al ns.length capl), (1, .slice ab bs.length capb), (4, .bool false), (5, w7), (6, .int .i64 0), (7, w), (9, .int .u64 n), (10, .int .u64 n), (11, .int .i64 ((szOf n : Nat) : Int)), (12, .bool true), (15, .bool false), (21, .bool false), (29, .bool false), (36, .bool true), (42, .slice al ns.length capl), (43, .int .i64 ((ns.length : Nat) : Int)), (44, .int .i64 ((i : Nat) : Int)), (45, .bool (decide (((i : Nat) : Int) < ((ns.length : Nat) : Int)))), (71, .bool false), (72, .int .i64 ((szOf n : Nat) : Int)), (73, .int .u64 n)]) (A2 := A8) rfl (by kernel_rfl) ?_
          refine EO.fcall (f := 14) (vs := [.int .u64 n]) (v := .int .i64 ((szOf n : Nat) : Int)) (A1 := A8) rfl rfl rfl rfl (by kernel_rfl) (by kernel_rfl) (f14_spec hp14 hp25 hp27 n) ?_
          refine EO.run 14 [0, 1, 4, 5, 6, 7, 9, 10, 11, 12, 15, 21, 29, 36, 42, 43, 44, 45, 77] (S2 := [(0, .slice al ns.length capl), (1, .slice ab bs.length capb), (4, .bool false), (5, w7), (6, .int .i64 0), (7, w), (9, .int .u64 n), (10, .int .u64 n), (11, .int .i64 ((szOf n : Nat) : Int)), (12, .bool true), (15, .bool false), (21, .bool false), (29, .bool false), (36, .bool true), (42, .slice al ns.length capl), (43, .int .i64 ((ns.length : Nat) : Int)), (44, .int .i64 ((i : Nat) : Int)), (45, .bool (decide (((i : Nat) : Int) < ((ns.length : Nat) : Int)))), (77, .bool (((szOf n : Nat) : Int) != ((szOf n : Nat) : Int)))]) (A2 := A8) rfl (by kernel_rfl) ?_
          have d5 : (((szOf n : Nat) : Int) != ((szOf n : Nat) : Int)) = false := bne_refl' rfl
          rw [d5]
          refine EO.run 16 [0, 1, 4, 5, 6, 7, 9, 10, 11, 12, 15, 21, 29, 36, 42, 43, 44, 45, 79] (S2 := [(0, .slice al ns.length capl), (1, .slice ab bs.length capb), (4, .bool false), (5, w7), (6, .int .i64 0), (7, w), (9, .int .u64 n), (10, .int .u64 n), (11, .int .i64 ((szOf n : Nat) : Int)), (12, .bool true), (15, .bool false), (21, .bool false), (29, .bool false), (36, .bool true), (42, .slice al ns.length capl), (43, .int .i64 ((ns.length : Nat) : Int)), (44, .int .i64 ((i : Nat) : Int)), (45, .bool (decide (((i : Nat) : Int) < ((ns.length : Nat) : Int)))), (79, .bool false)]) (A2 := A8) rfl (by kernel_rfl) ?_
          refine EO.done rfl ?_
          refine J.cond false (by kernel_rfl) (fun h => Bool.noConfusion h) (fun _ => ?_)
          refine J.skip ?_
          refine thenJ_n ?_
          refine J.region ?_
          refine EO.run 2 [0, 1, 4, 5, 6, 7, 9, 10, 11, 12, 15, 21, 29, 36, 42, 43, 44, 45, 79, 80, 81] (S2 := [(0, .slice al ns.length capl), (1, .slice ab bs.length capb), (4, .bool false), (5, w7), (6, .int .i64 0), (7, w), (9, .int .u64 n), (10, .int .u64 n), (11, .int .i64 ((szOf n : Nat) : Int)), (12, .bool true), (15, .bool false), (21, .bool false), (29, .bool false), (36, .bool true), (42, .slice al ns.length capl), (43, .int .i64 ((ns.length : Nat) : Int)), (44, .int .i64 ((i : Nat) : Int)), (45, .bool (decide (((i : Nat) : Int) < ((ns.length : Nat) : Int)))), (79, .bool false), (80, w), (81, .int .i64 ((szOf n : Nat) : Int))]) (A2 := A8) rfl (by kernel_rfl) ?_
          obtain ⟨w3, A9, hsl2, hr3, hx9, hn9⟩ := ((hr.ext hx6).ext (hx7.trans hx8)).slice1 hn8 (kd := .i64) (szOf n) (by rw [List.length_append]; omega)
          rw [List.drop_left' hlen] at hr3
          refine EO.slice (v := w) (w := w3) (l := some (.int .i64 (Int.ofNat (szOf n)))) (h' := none) (m := none) (A1 := A9) rfl rfl rfl (by kernel_rfl) (by kernel_rfl) (by kernel_rfl) (by kernel_rfl) rfl ((asliceOp_slice (elem := 5) (size := 1) (by kernel_rfl) (by kernel_rfl)).trans hsl2) ?_
          refine EO.run 4 [0, 1, 4, 5, 6, 7, 9, 10, 11, 12, 15, 21, 29, 36, 42, 43, 44, 45, 79] (S2 := [(0, .slice al ns.length capl), (1, .slice ab bs.length capb), (4, .bool false), (5, w7), (6, .int .i64 0), (7, w3), (9, .int .u64 n), (10, .int .u64 n), (11, .int .i64 ((szOf n : Nat) : Int)), (12, .bool true), (15, .bool false), (21, .bool false), (29, .bool false), (36, .bool true), (42, .slice al ns.length capl), (43, .int .i64 ((ns.length : Nat) : Int)), (44, .int .i64 ((i : Nat) : Int)), (45, .bool (decide (((i : Nat) : Int) < ((ns.length : Nat) : Int)))), (79, .bool false)]) (A2 := A9) rfl (by kernel_rfl) ?_
          refine EO.done rfl ?_
          refine blockQ_n ?_
          refine thenJ_n ?_
          refine J.region ?_
          refine EO.run 1 [0, 1, 4, 5, 6, 7, 9, 10, 11, 12, 15, 21, 29, 36, 42, 43, 44, 45, 79, 83] (S2 := [(0, .slice al ns.length capl), (1, .slice ab bs.length capb), (4, .bool false), (5, w7), (6, .int .i64 0), (7, w3), (9, .int .u64 n), (10, .int .u64 n), (11, .int .i64 ((szOf n : Nat) : Int)), (12, .bool true), (15, .bool false), (21, .bool false), (29, .bool false), (36, .bool true), (42, .slice al ns.length capl), (43, .int .i64 ((ns.length : Nat) : Int)), (44, .int .i64 ((i : Nat) : Int)), (45, .bool (decide (((i : Nat) : Int) < ((ns.length : Nat) : Int)))), (79, .bool false), (83, .int .i64 (IntKind.wrap .i64 (((i : Nat) : Int) + 1)))]) (A2 := A9) rfl (by kernel_rfl) ?_
          refine EO.cast (S2 := [(0, .slice al ns.length capl), (1, .slice ab bs.length capb), (4, .bool false), (5, w7), (6, .int .i64 0), (7, w3), (9, .int .u64 n), (10, .int .u64 n), (11, .int .i64 ((szOf n : Nat) : Int)), (12, .bool true), (15, .bool false), (21, .bool false), (29, .bool false), (36, .bool true), (42, .slice al ns.length capl), (43, .int .i64 ((ns.length : Nat) : Int)), (44, .int .i64 ((i : Nat) : Int)), (45, .bool (decide (((i : Nat) : Int) < ((ns.length : Nat) : Int)))), (79, .bool false), (83, .int .i64 ((i + 1 : Nat) : Int))]) (by rw [show (IntKind.wrap .i64 (((i : Nat) : Int) + 1) : Int) = ((i + 1 : Nat) : Int) from by rw [wrap_i64 (by omega) (by omega)]; omega]) ?_
          refine EO.run 2 [0, 1, 4, 5, 6, 7, 21, 29, 36, 42, 43, 44] (S2 := [(0, .slice al ns.length capl), (1, .slice ab bs.length capb), (4, .bool false), (5, w7), (6, .int .i64 0), (7, w3), (21, .bool false), (29, .bool false), (36, .bool true), (42, .slice al ns.length capl), (43, .int .i64 ((ns.length : Nat) : Int)), (44, .int .i64 ((i + 1 : Nat) : Int))]) (A2 := A9) rfl (by kernel_rfl) ?_
          refine EO.done rfl ?_
          refine loopI_n ?_
          exact ⟨i + 1, w3, by omega, by omega, hr3, ((hx.trans hx6).trans hx7).trans (hx8.trans hx9), hn9, rfl⟩
        ·
          refine J.exit ?_
          refine thenJ_e ?_
          refine loopI_e ?_
          refine blockQ_hit ?_
          refine thenJ_n ?_
          have q7 : ns.drop i = [] := List.drop_of_length_le (by simp only [decide_eq_false_iff_not] at *; omega)
          rw [q7] at hr
          have hr0 : RowV A5 w bs := hr
          refine J.sr ?_
          refine EO.run 1 [0, 1, 4, 5, 6, 7, 21, 29, 36, 42, 43, 44, 45, 84] (S2 := [(0, .slice al ns.length capl), (1, .slice ab bs.length capb), (4, .bool false), (5, w7), (6, .int .i64 0), (7, w), (21, .bool false), (29, .bool false), (36, .bool true), (42, .slice al ns.length capl), (43, .int .i64 ((ns.length : Nat) : Int)), (44, .int .i64 ((i : Nat) : Int)), (45, .bool (decide (((i : Nat) : Int) < ((ns.length : Nat) : Int)))), (84, w)]) (A2 := A5) rfl (by kernel_rfl) ?_
          refine EO.convert (v := w) (w := .string (strFrom ByteArray.empty (bs))) (A1 := A5) rfl rfl rfl (by kernel_rfl) (by kernel_rfl) ((hr0).toStr (e := 5) (by kernel_rfl) (by kernel_rfl) (by kernel_rfl)) ?_
          refine EO.run 3 [0, 1, 4, 5, 6, 7, 21, 29, 36, 42, 43, 44, 45, 85, 86] (S2 := [(0, .slice al ns.length capl), (1, .slice ab bs.length capb), (4, .bool false), (5, w7), (6, .int .i64 0), (7, w), (21, .bool false), (29, .bool false), (36, .bool true), (42, .slice al ns.length capl), (43, .int .i64 ((ns.length : Nat) : Int)), (44, .int .i64 ((i : Nat) : Int)), (45, .bool (decide (((i : Nat) : Int) < ((ns.length : Nat) : Int)))), (85, .string (strFrom ByteArray.empty (bs))), (86, .slice ab bs.length capb)]) (A2 := A5) rfl (by kernel_rfl) ?_
          refine EO.convert (v := .slice ab bs.length capb) (w := .string (strFrom ByteArray.empty (bs))) (A1 := A5) rfl rfl rfl (by kernel_rfl) (by kernel_rfl) (((hb0.ext hx)).toStr (e := 5) (by kernel_rfl) (by kernel_rfl) (by kernel_rfl)) ?_
          refine EO.run 5 [0, 1, 4, 5, 6, 7, 21, 29, 36, 42, 43, 44, 45, 88] (S2 := [(0, .slice al ns.length capl), (1, .slice ab bs.length capb), (4, .bool false), (5, w7), (6, .int .i64 0), (7, w), (21, .bool false), (29, .bool false), (36, .bool true), (42, .slice al ns.length capl), (43, .int .i64 ((ns.length : Nat) : Int)), (44, .int .i64 ((i : Nat) : Int)), (45, .bool (decide (((i : Nat) : Int) < ((ns.length : Nat) : Int)))), (88, .bool (!((strFrom ByteArray.empty (bs)).toList == (strFrom ByteArray.empty (bs)).toList)))]) (A2 := A5) rfl (by kernel_rfl) ?_
          refine EO.done rfl ?_
          have d6 : (!((strFrom ByteArray.empty (bs)).toList == (strFrom ByteArray.empty (bs)).toList)) = false := by rw [beq_refl' rfl]; rfl
          rw [d6]
          refine J.cond false (by kernel_rfl) (fun h => Bool.noConfusion h) (fun _ => ?_)
          refine J.skip ?_
          refine thenJ_n ?_
          refine J.sr ?_
          refine EO.run 1 [0, 1, 4, 5, 6, 7, 21, 29, 36, 42, 43, 44, 45, 88, 90] (S2 := [(0, .slice al ns.length capl), (1, .slice ab bs.length capb), (4, .bool false), (5, w7), (6, .int .i64 0), (7, w), (21, .bool false), (29, .bool false), (36, .bool true), (42, .slice al ns.length capl), (43, .int .i64 ((ns.length : Nat) : Int)), (44, .int .i64 ((i : Nat) : Int)), (45, .bool (decide (((i : Nat) : Int) < ((ns.length : Nat) : Int)))), (88, .bool false), (90, .slice ab bs.length capb)]) (A2 := A5) rfl (by kernel_rfl) ?_
          have hb5 := hb0.ext hx
          obtain ⟨D1, e19, hxD1, hnD1⟩ := f10_spec (pre := pre) (dr := dr) (m := m) hp10 hp25 hb5 hn
          unfold takeV at e19
          cases hok : (takeOf bs).2.2 with
          | false =>
            rw [takeOf_bad hok] at e19
            refine EO.fcall (f := 10) (vs := [.slice ab bs.length capb]) (v := .tuple #[.int .u64 0, .int .i64 0, .bool false]) (A1 := D1) rfl rfl rfl rfl (by kernel_rfl) (by kernel_rfl) e19 ?_
            refine EO.run 9 [0, 1, 4, 5, 6, 7, 16, 17, 18, 21, 29, 36, 42, 43, 44, 45, 88] (S2 := [(0, .slice al ns.length capl), (1, .slice ab bs.length capb), (4, .bool false), (5, w7), (6, .int .i64 0), (7, w), (16, .int .u64 0), (17, .int .i64 0), (18, .bool false), (21, .bool false), (29, .bool false), (36, .bool true), (42, .slice al ns.length capl), (43, .int .i64 ((ns.length : Nat) : Int)), (44, .int .i64 ((i : Nat) : Int)), (45, .bool (decide (((i : Nat) : Int) < ((ns.length : Nat) : Int)))), (88, .bool false)]) (A2 := D1) rfl (by kernel_rfl) ?_
            refine EO.done rfl ?_
            refine J.seq ?_
            refine J.sr ?_
            refine EO.run 2 [0, 1, 4, 5, 6, 7, 16, 17, 18, 21, 29, 36, 42, 43, 44, 45, 88, 96] (S2 := [(0, .slice al ns.length capl), (1, .slice ab bs.length capb), (4, .bool false), (5, w7), (6, .int .i64 0), (7, w), (16, .int .u64 0), (17, .int .i64 0), (18, .bool false), (21, .bool false), (29, .bool false), (36, .bool true), (42, .slice al ns.length capl), (43, .int .i64 ((ns.length : Nat) : Int)), (44, .int .i64 ((i : Nat) : Int)), (45, .bool (decide (((i : Nat) : Int) < ((ns.length : Nat) : Int)))), (88, .bool false), (96, .bool true)]) (A2 := D1) rfl (by kernel_rfl) ?_
            refine EO.done rfl ?_
            refine J.cond true (by kernel_rfl) (fun _ => ?_) (fun h => Bool.noConfusion h)
            refine J.sr ?_
            refine EO.run 7 [0, 1, 4, 5, 6, 7, 16, 17, 18, 21, 29, 36, 42, 43, 44, 45, 88, 96] (S2 := [(0, .slice al ns.length capl), (1, .slice ab bs.length capb), (4, .bool true), (5, w7), (6, .int .i64 0), (7, w), (16, .int .u64 0), (17, .int .i64 0), (18, .bool false), (21, .bool false), (29, .bool false), (36, .bool true), (42, .slice al ns.length capl), (43, .int .i64 ((ns.length : Nat) : Int)), (44, .int .i64 ((i : Nat) : Int)), (45, .bool (decide (((i : Nat) : Int) < ((ns.length : Nat) : Int)))), (88, .bool false), (96, .bool true)]) (A2 := D1) rfl (by kernel_rfl) ?_
            refine EO.done rfl ?_
            refine J.ret ?_
            refine thenJ_r ?_
            refine Ends_r (vs := [.bool true]) (by kernel_rfl) ?_
            exact rfl
          | true =>
            obtain ⟨n, u, htb, hnb, hub, hu1, hu8⟩ := takeOf_ok hb0.byte hok
            obtain ⟨hcl, hszu, z0, r0, hbs, hu⟩ := takeOf_cls hb0.byte htb
            rw [htb] at e19
            refine EO.fcall (f := 10) (vs := [.slice ab bs.length capb]) (v := .tuple #[.int .u64 ((n : Nat) : Int), .int .i64 ((u : Nat) : Int), .bool true]) (A1 := D1) rfl rfl rfl rfl (by kernel_rfl) (by kernel_rfl) e19 ?_
            refine EO.run 9 [0, 1, 4, 5, 6, 7, 16, 17, 18, 21, 29, 36, 42, 43, 44, 45, 88] (S2 := [(0, .slice al ns.length capl), (1, .slice ab bs.length capb), (4, .bool false), (5, w7), (6, .int .i64 0), (7, w), (16, .int .u64 ((n : Nat) : Int)), (17, .int .i64 ((u : Nat) : Int)), (18, .bool true), (21, .bool false), (29, .bool false), (36, .bool true), (42, .slice al ns.length capl), (43, .int .i64 ((ns.length : Nat) : Int)), (44, .int .i64 ((i : Nat) : Int)), (45, .bool (decide (((i : Nat) : Int) < ((ns.length : Nat) : Int)))), (88, .bool false)]) (A2 := D1) rfl (by kernel_rfl) ?_
            refine EO.done rfl ?_
            refine J.seq ?_
            refine J.sr ?_
            refine EO.run 2 [0, 1, 4, 5, 6, 7, 16, 17, 18, 21, 29, 36, 42, 43, 44, 45, 88, 96] (S2 := [(0, .slice al ns.length capl), (1, .slice ab bs.length capb), (4, .bool false), (5, w7), (6, .int .i64 0), (7, w), (16, .int .u64 ((n : Nat) : Int)), (17, .int .i64 ((u : Nat) : Int)), (18, .bool true), (21, .bool false), (29, .bool false), (36, .bool true), (42, .slice al ns.length capl), (43, .int .i64 ((ns.length : Nat) : Int)), (44, .int .i64 ((i : Nat) : Int)), (45, .bool (decide (((i : Nat) : Int) < ((ns.length : Nat) : Int)))), (88, .bool false), (96, .bool false)]) (A2 := D1) rfl (by kernel_rfl) ?_
            refine EO.done rfl ?_
            refine J.cond false (by kernel_rfl) (fun h => Bool.noConfusion h) (fun _ => ?_)
            refine J.skip ?_
            refine thenJ_n ?_
            refine J.sr ?_
            refine EO.run 1 [0, 1, 4, 5, 6, 7, 16, 17, 18, 21, 29, 36, 42, 43, 44, 45, 88, 96, 104] (S2 := [(0, .slice al ns.length capl), (1, .slice ab bs.length capb), (4, .bool false), (5, w7), (6, .int .i64 0), (7, w), (16, .int .u64 ((n : Nat) : Int)), (17, .int .i64 ((u : Nat) : Int)), (18, .bool true), (21, .bool false), (29, .bool false), (36, .bool true), (42, .slice al ns.length capl), (43, .int .i64 ((ns.length : Nat) : Int)), (44, .int .i64 ((i : Nat) : Int)), (45, .bool (decide (((i : Nat) : Int) < ((ns.length : Nat) : Int)))), (88, .bool false), (96, .bool false), (104, .int .u64 ((n : Nat) : Int))]) (A2 := D1) rfl (by kernel_rfl) ?_
            obtain ⟨D2, hD2, hxD2, hnD2, hN2⟩ := new_num (A := D1) hnD1 ((n : Nat) : Int) (by omega)
            refine EO.run 2 [0, 1, 4, 5, 6, 7, 16, 17, 18, 21, 29, 36, 42, 43, 44, 45, 88, 96, 104, 105] (S2 := [(0, .slice al ns.length capl), (1, .slice ab bs.length capb), (4, .bool false), (5, w7), (6, .int .i64 0), (7, w), (16, .int .u64 ((n : Nat) : Int)), (17, .int .i64 ((u : Nat) : Int)), (18, .bool true), (21, .bool false), (29, .bool false), (36, .bool true), (42, .slice al ns.length capl), (43, .int .i64 ((ns.length : Nat) : Int)), (44, .int .i64 ((i : Nat) : Int)), (45, .bool (decide (((i : Nat) : Int) < ((ns.length : Nat) : Int)))), (88, .bool false), (96, .bool false), (104, .int .u64 ((n : Nat) : Int)), (105, .slice (some ⟨D1.nid, 0, none⟩) 1 1)]) (A2 := D1.push (.cells [.int .u64 ((n : Nat) : Int)] false false 1)) rfl (by kernel_rfl) ?_
            rw [hD2]
            obtain ⟨v8, D3, e22, hxD3, hnD3, ⟨_, w22, rfl, hO22⟩ | ⟨hno2, _⟩⟩ := f17_spec (pre := pre) (dr := dr) (m := m) hp17 hp25 hp27 (vb := .slice none 0 0) (zs := []) (.inl ⟨rfl, rfl⟩) hN2 hnD2 (by simp) (by simp)
            rotate_left
            · obtain ⟨y, hy1, hy2⟩ := hno2; simp at hy1; subst hy1; exact absurd hcl hy2
            obtain ⟨aw, capw, hw⟩ := hO22.rowV.form
            subst hw
            have hlen22 : ([] ++ encL [((n : Nat) : Int)]).length = szOf n := by rw [List.nil_append]; simp only [encL, List.flatMap_cons, List.flatMap_nil, List.append_nil]; exact shortOf_len hcl
            refine EO.fcall (f := 17) (vs := [.slice none 0 0, .slice (some ⟨D1.nid, 0, none⟩) 1 1]) (v := .tuple #[.slice aw (([] ++ encL [((n : Nat) : Int)]).length) capw, .int .i64 0]) (A1 := D3) rfl rfl rfl rfl (by kernel_rfl) (by kernel_rfl) e22 ?_
            refine EO.run 8 [0, 1, 4, 5, 6, 7, 16, 17, 18, 19, 21, 29, 36, 42, 43, 44, 45, 88, 96] (S2 := [(0, .slice al ns.length capl), (1, .slice ab bs.length capb), (4, .bool false), (5, w7), (6, .int .i64 0), (7, w), (16, .int .u64 ((n : Nat) : Int)), (17, .int .i64 ((u : Nat) : Int)), (18, .bool true), (19, .slice aw (([] ++ encL [((n : Nat) : Int)]).length) capw), (21, .bool false), (29, .bool false), (36, .bool true), (42, .slice al ns.length capl), (43, .int .i64 ((ns.length : Nat) : Int)), (44, .int .i64 ((i : Nat) : Int)), (45, .bool (decide (((i : Nat) : Int) < ((ns.length : Nat) : Int)))), (88, .bool false), (96, .bool false)]) (A2 := D3) rfl (by kernel_rfl) ?_
            refine EO.done rfl ?_
            refine J.sr ?_
            refine EO.run 9 [0, 1, 4, 5, 6, 7, 16, 17, 18, 19, 21, 29, 36, 42, 43, 44, 45, 88, 96, 117] (S2 := [(0, .slice al ns.length capl), (1, .slice ab bs.length capb), (4, .bool false), (5, w7), (6, .int .i64 0), (7, w), (16, .int .u64 ((n : Nat) : Int)), (17, .int .i64 ((u : Nat) : Int)), (18, .bool true), (19, .slice aw (([] ++ encL [((n : Nat) : Int)]).length) capw), (21, .bool false), (29, .bool false), (36, .bool true), (42, .slice al ns.length capl), (43, .int .i64 ((ns.length : Nat) : Int)), (44, .int .i64 ((i : Nat) : Int)), (45, .bool (decide (((i : Nat) : Int) < ((ns.length : Nat) : Int)))), (88, .bool false), (96, .bool false), (117, .bool (decide (((([] ++ encL [((n : Nat) : Int)]).length : Nat) : Int) ≤ ((u : Nat) : Int))))]) (A2 := D3) rfl (by kernel_rfl) ?_
            have d7 : (decide (((([] ++ encL [((n : Nat) : Int)]).length : Nat) : Int) ≤ ((u : Nat) : Int))) = true := decide_eq_true (by rw [hlen22]; omega)
            rw [d7]
            refine EO.run 13 [0, 1, 4, 5, 6, 7, 16, 17, 18, 19, 21, 29, 36, 42, 43, 44, 45, 88, 96, 121] (S2 := [(0, .slice al ns.length capl), (1, .slice ab bs.length capb), (4, .bool false), (5, w7), (6, .int .i64 0), (7, w), (16, .int .u64 ((n : Nat) : Int)), (17, .int .i64 ((u : Nat) : Int)), (18, .bool true), (19, .slice aw (([] ++ encL [((n : Nat) : Int)]).length) capw), (21, .bool false), (29, .bool false), (36, .bool true), (42, .slice al ns.length capl), (43, .int .i64 ((ns.length : Nat) : Int)), (44, .int .i64 ((i : Nat) : Int)), (45, .bool (decide (((i : Nat) : Int) < ((ns.length : Nat) : Int)))), (88, .bool false), (96, .bool false), (121, .bool (decide (((n : Nat) : Int) ≤ 4611686018427387903)))]) (A2 := D3) rfl (by kernel_rfl) ?_
            have d8 : (decide (((n : Nat) : Int) ≤ 4611686018427387903)) = true := decide_eq_true (by omega)
            rw [d8]
            refine EO.run 15 [0, 1, 4, 5, 6, 7, 16, 17, 18, 19, 21, 29, 36, 42, 43, 44, 45, 88, 96, 121, 122, 123] (S2 := [(0, .slice al ns.length capl), (1, .slice ab bs.length capb), (4, .bool false), (5, w7), (6, .int .i64 0), (7, w), (16, .int .u64 ((n : Nat) : Int)), (17, .int .i64 ((u : Nat) : Int)), (18, .bool true), (19, .slice aw (([] ++ encL [((n : Nat) : Int)]).length) capw), (21, .bool false), (29, .bool false), (36, .bool true), (42, .slice al ns.length capl), (43, .int .i64 ((ns.length : Nat) : Int)), (44, .int .i64 ((i : Nat) : Int)), (45, .bool (decide (((i : Nat) : Int) < ((ns.length : Nat) : Int)))), (88, .bool false), (96, .bool false), (121, .bool true), (122, .int .i64 ((u : Nat) : Int)), (123, .slice ab bs.length capb)]) (A2 := D3) rfl (by kernel_rfl) ?_
            have hb9 := hb5.ext ((hxD1.trans hxD2).trans hxD3)
            obtain ⟨ad2, hj1, hj2⟩ := hb9.get (P := Try.prog) (t := 5) (st := 22) (e := 5) (by kernel_rfl) (by kernel_rfl) (by kernel_rfl) (j := 0) (z := z0) (by rw [hbs]; rfl)
            have hz0 := hb0.byte z0 (by rw [hbs]; simp)
            refine EO.index (v := .slice ab bs.length capb) (u := .int .i64 (Int.ofNat 0)) (w := .pointer (some ad2)) rfl rfl rfl (by kernel_rfl) (by kernel_rfl) (by kernel_rfl) hj1 ?_
            refine EO.load (ad := ad2) (w := .int .u8 z0) rfl rfl rfl (by kernel_rfl) (by kernel_rfl) hj2 ?_
            have hz4 : z0 / 64 = 0 ∨ z0 / 64 = 1 ∨ z0 / 64 = 2 ∨ z0 / 64 = 3 := by omega
            rcases hz4 with hc | hc | hc | hc
            · have hu2 : u = 1 := by rw [← hu, hc]; rfl
              refine EO.run 18 [0, 1, 4, 5, 6, 7, 16, 17, 18, 19, 21, 29, 36, 42, 43, 44, 45, 88, 96, 121, 122, 126] (S2 := [(0, .slice al ns.length capl), (1, .slice ab bs.length capb), (4, .bool false), (5, w7), (6, .int .i64 0), (7, w), (16, .int .u64 ((n : Nat) : Int)), (17, .int .i64 ((u : Nat) : Int)), (18, .bool true), (19, .slice aw (([] ++ encL [((n : Nat) : Int)]).length) capw), (21, .bool false), (29, .bool false), (36, .bool true), (42, .slice al ns.length capl), (43, .int .i64 ((ns.length : Nat) : Int)), (44, .int .i64 ((i : Nat) : Int)), (45, .bool (decide (((i : Nat) : Int) < ((ns.length : Nat) : Int)))), (88, .bool false), (96, .bool false), (121, .bool true), (122, .int .i64 ((u : Nat) : Int)), (126, .int .u8 (sShr .u8 z0 6))]) (A2 := D3) rfl (by kernel_rfl) ?_
              refine EO.cast (S2 := [(0, .slice al ns.length capl), (1, .slice ab bs.length capb), (4, .bool false), (5, w7), (6, .int .i64 0), (7, w), (16, .int .u64 ((n : Nat) : Int)), (17, .int .i64 ((u : Nat) : Int)), (18, .bool true), (19, .slice aw (([] ++ encL [((n : Nat) : Int)]).length) capw), (21, .bool false), (29, .bool false), (36, .bool true), (42, .slice al ns.length capl), (43, .int .i64 ((ns.length : Nat) : Int)), (44, .int .i64 ((i : Nat) : Int)), (45, .bool (decide (((i : Nat) : Int) < ((ns.length : Nat) : Int)))), (88, .bool false), (96, .bool false), (121, .bool true), (122, .int .i64 ((u : Nat) : Int)), (126, .int .u8 0)]) (by rw [show sShr .u8 z0 6 = 0 from by rw [shr6, hc]]) ?_
              refine EO.run 22 [0, 1, 4, 5, 6, 7, 16, 17, 18, 19, 21, 29, 36, 42, 43, 44, 45, 88, 96] (S2 := [(0, .slice al ns.length capl), (1, .slice ab bs.length capb), (4, .bool (((u : Nat) : Int) == 1)), (5, w7), (6, .int .i64 0), (7, w), (16, .int .u64 ((n : Nat) : Int)), (17, .int .i64 ((u : Nat) : Int)), (18, .bool true), (19, .slice aw (([] ++ encL [((n : Nat) : Int)]).length) capw), (21, .bool false), (29, .bool false), (36, .bool true), (42, .slice al ns.length capl), (43, .int .i64 ((ns.length : Nat) : Int)), (44, .int .i64 ((i : Nat) : Int)), (45, .bool (decide (((i : Nat) : Int) < ((ns.length : Nat) : Int)))), (88, .bool false), (96, .bool false)]) (A2 := D3) rfl (by kernel_rfl) ?_
              refine EO.done rfl ?_
              refine J.ret ?_
              refine Ends_r (vs := [.bool (((u : Nat) : Int) == 1)]) (by kernel_rfl) ?_
              exact congrArg Value.bool (beq_true' (by omega) : (((u : Nat) : Int) == 1) = true)
            · have hu2 : u = 2 := by rw [← hu, hc]; rfl
              refine EO.run 18 [0, 1, 4, 5, 6, 7, 16, 17, 18, 19, 21, 29, 36, 42, 43, 44, 45, 88, 96, 121, 122, 126] (S2 := [(0, .slice al ns.length capl), (1, .slice ab bs.length capb), (4, .bool false), (5, w7), (6, .int .i64 0), (7, w), (16, .int .u64 ((n : Nat) : Int)), (17, .int .i64 ((u : Nat) : Int)), (18, .bool true), (19, .slice aw (([] ++ encL [((n : Nat) : Int)]).length) capw), (21, .bool false), (29, .bool false), (36, .bool true), (42, .slice al ns.length capl), (43, .int .i64 ((ns.length : Nat) : Int)), (44, .int .i64 ((i : Nat) : Int)), (45, .bool (decide (((i : Nat) : Int) < ((ns.length : Nat) : Int)))), (88, .bool false), (96, .bool false), (121, .bool true), (122, .int .i64 ((u : Nat) : Int)), (126, .int .u8 (sShr .u8 z0 6))]) (A2 := D3) rfl (by kernel_rfl) ?_
              refine EO.cast (S2 := [(0, .slice al ns.length capl), (1, .slice ab bs.length capb), (4, .bool false), (5, w7), (6, .int .i64 0), (7, w), (16, .int .u64 ((n : Nat) : Int)), (17, .int .i64 ((u : Nat) : Int)), (18, .bool true), (19, .slice aw (([] ++ encL [((n : Nat) : Int)]).length) capw), (21, .bool false), (29, .bool false), (36, .bool true), (42, .slice al ns.length capl), (43, .int .i64 ((ns.length : Nat) : Int)), (44, .int .i64 ((i : Nat) : Int)), (45, .bool (decide (((i : Nat) : Int) < ((ns.length : Nat) : Int)))), (88, .bool false), (96, .bool false), (121, .bool true), (122, .int .i64 ((u : Nat) : Int)), (126, .int .u8 1)]) (by rw [show sShr .u8 z0 6 = 1 from by rw [shr6, hc]]) ?_
              refine EO.run 22 [0, 1, 4, 5, 6, 7, 16, 17, 18, 19, 21, 29, 36, 42, 43, 44, 45, 88, 96] (S2 := [(0, .slice al ns.length capl), (1, .slice ab bs.length capb), (4, .bool (((u : Nat) : Int) == 2)), (5, w7), (6, .int .i64 0), (7, w), (16, .int .u64 ((n : Nat) : Int)), (17, .int .i64 ((u : Nat) : Int)), (18, .bool true), (19, .slice aw (([] ++ encL [((n : Nat) : Int)]).length) capw), (21, .bool false), (29, .bool false), (36, .bool true), (42, .slice al ns.length capl), (43, .int .i64 ((ns.length : Nat) : Int)), (44, .int .i64 ((i : Nat) : Int)), (45, .bool (decide (((i : Nat) : Int) < ((ns.length : Nat) : Int)))), (88, .bool false), (96, .bool false)]) (A2 := D3) rfl (by kernel_rfl) ?_
              refine EO.done rfl ?_
              refine J.ret ?_
              refine Ends_r (vs := [.bool (((u : Nat) : Int) == 2)]) (by kernel_rfl) ?_
              exact congrArg Value.bool (beq_true' (by omega) : (((u : Nat) : Int) == 2) = true)
            · have hu2 : u = 4 := by rw [← hu, hc]; rfl
              refine EO.run 18 [0, 1, 4, 5, 6, 7, 16, 17, 18, 19, 21, 29, 36, 42, 43, 44, 45, 88, 96, 121, 122, 126] (S2 := [(0, .slice al ns.length capl), (1, .slice ab bs.length capb), (4, .bool false), (5, w7), (6, .int .i64 0), (7, w), (16, .int .u64 ((n : Nat) : Int)), (17, .int .i64 ((u : Nat) : Int)), (18, .bool true), (19, .slice aw (([] ++ encL [((n : Nat) : Int)]).length) capw), (21, .bool false), (29, .bool false), (36, .bool true), (42, .slice al ns.length capl), (43, .int .i64 ((ns.length : Nat) : Int)), (44, .int .i64 ((i : Nat) : Int)), (45, .bool (decide (((i : Nat) : Int) < ((ns.length : Nat) : Int)))), (88, .bool false), (96, .bool false), (121, .bool true), (122, .int .i64 ((u : Nat) : Int)), (126, .int .u8 (sShr .u8 z0 6))]) (A2 := D3) rfl (by kernel_rfl) ?_
              refine EO.cast (S2 := [(0, .slice al ns.length capl), (1, .slice ab bs.length capb), (4, .bool false), (5, w7), (6, .int .i64 0), (7, w), (16, .int .u64 ((n : Nat) : Int)), (17, .int .i64 ((u : Nat) : Int)), (18, .bool true), (19, .slice aw (([] ++ encL [((n : Nat) : Int)]).length) capw), (21, .bool false), (29, .bool false), (36, .bool true), (42, .slice al ns.length capl), (43, .int .i64 ((ns.length : Nat) : Int)), (44, .int .i64 ((i : Nat) : Int)), (45, .bool (decide (((i : Nat) : Int) < ((ns.length : Nat) : Int)))), (88, .bool false), (96, .bool false), (121, .bool true), (122, .int .i64 ((u : Nat) : Int)), (126, .int .u8 2)]) (by rw [show sShr .u8 z0 6 = 2 from by rw [shr6, hc]]) ?_
              refine EO.run 22 [0, 1, 4, 5, 6, 7, 16, 17, 18, 19, 21, 29, 36, 42, 43, 44, 45, 88, 96] (S2 := [(0, .slice al ns.length capl), (1, .slice ab bs.length capb), (4, .bool (((u : Nat) : Int) == 4)), (5, w7), (6, .int .i64 0), (7, w), (16, .int .u64 ((n : Nat) : Int)), (17, .int .i64 ((u : Nat) : Int)), (18, .bool true), (19, .slice aw (([] ++ encL [((n : Nat) : Int)]).length) capw), (21, .bool false), (29, .bool false), (36, .bool true), (42, .slice al ns.length capl), (43, .int .i64 ((ns.length : Nat) : Int)), (44, .int .i64 ((i : Nat) : Int)), (45, .bool (decide (((i : Nat) : Int) < ((ns.length : Nat) : Int)))), (88, .bool false), (96, .bool false)]) (A2 := D3) rfl (by kernel_rfl) ?_
              refine EO.done rfl ?_
              refine J.ret ?_
              refine Ends_r (vs := [.bool (((u : Nat) : Int) == 4)]) (by kernel_rfl) ?_
              exact congrArg Value.bool (beq_true' (by omega) : (((u : Nat) : Int) == 4) = true)
            · have hu2 : u = 8 := by rw [← hu, hc]; rfl
              refine EO.run 18 [0, 1, 4, 5, 6, 7, 16, 17, 18, 19, 21, 29, 36, 42, 43, 44, 45, 88, 96, 121, 122, 126] (S2 := [(0, .slice al ns.length capl), (1, .slice ab bs.length capb), (4, .bool false), (5, w7), (6, .int .i64 0), (7, w), (16, .int .u64 ((n : Nat) : Int)), (17, .int .i64 ((u : Nat) : Int)), (18, .bool true), (19, .slice aw (([] ++ encL [((n : Nat) : Int)]).length) capw), (21, .bool false), (29, .bool false), (36, .bool true), (42, .slice al ns.length capl), (43, .int .i64 ((ns.length : Nat) : Int)), (44, .int .i64 ((i : Nat) : Int)), (45, .bool (decide (((i : Nat) : Int) < ((ns.length : Nat) : Int)))), (88, .bool false), (96, .bool false), (121, .bool true), (122, .int .i64 ((u : Nat) : Int)), (126, .int .u8 (sShr .u8 z0 6))]) (A2 := D3) rfl (by kernel_rfl) ?_
              refine EO.cast (S2 := [(0, .slice al ns.length capl), (1, .slice ab bs.length capb), (4, .bool false), (5, w7), (6, .int .i64 0), (7, w), (16, .int .u64 ((n : Nat) : Int)), (17, .int .i64 ((u : Nat) : Int)), (18, .bool true), (19, .slice aw (([] ++ encL [((n : Nat) : Int)]).length) capw), (21, .bool false), (29, .bool false), (36, .bool true), (42, .slice al ns.length capl), (43, .int .i64 ((ns.length : Nat) : Int)), (44, .int .i64 ((i : Nat) : Int)), (45, .bool (decide (((i : Nat) : Int) < ((ns.length : Nat) : Int)))), (88, .bool false), (96, .bool false), (121, .bool true), (122, .int .i64 ((u : Nat) : Int)), (126, .int .u8 3)]) (by rw [show sShr .u8 z0 6 = 3 from by rw [shr6, hc]]) ?_
              refine EO.run 22 [0, 1, 4, 5, 6, 7, 16, 17, 18, 19, 21, 29, 36, 42, 43, 44, 45, 88, 96] (S2 := [(0, .slice al ns.length capl), (1, .slice ab bs.length capb), (4, .bool (((u : Nat) : Int) == 8)), (5, w7), (6, .int .i64 0), (7, w), (16, .int .u64 ((n : Nat) : Int)), (17, .int .i64 ((u : Nat) : Int)), (18, .bool true), (19, .slice aw (([] ++ encL [((n : Nat) : Int)]).length) capw), (21, .bool false), (29, .bool false), (36, .bool true), (42, .slice al ns.length capl), (43, .int .i64 ((ns.length : Nat) : Int)), (44, .int .i64 ((i : Nat) : Int)), (45, .bool (decide (((i : Nat) : Int) < ((ns.length : Nat) : Int)))), (88, .bool false), (96, .bool false)]) (A2 := D3) rfl (by kernel_rfl) ?_
              refine EO.done rfl ?_
              refine J.ret ?_
              refine Ends_r (vs := [.bool (((u : Nat) : Int) == 8)]) (by kernel_rfl) ?_
              exact congrArg Value.bool (beq_true' (by omega) : (((u : Nat) : Int) == 8) = true)
      ·
        refine EO.fcall (f := 17) (vs := [.slice none 0 0, .slice al ns.length capl]) (v := .tuple #[.slice none 0 0, .int .i64 5]) (A1 := A1) rfl rfl rfl rfl (by kernel_rfl) (by kernel_rfl) e17 ?_
        refine EO.run 7 [0, 1, 4, 5, 6, 21, 29] (S2 := [(0, .slice al ns.length capl), (1, .slice ab bs.length capb), (4, .bool false), (5, .slice none 0 0), (6, .int .i64 5), (21, .bool false), (29, .bool false)]) (A2 := A1) rfl (by kernel_rfl) ?_
        refine EO.done rfl ?_
        refine J.seq ?_
        refine J.sr ?_
        refine EO.run 2 [0, 1, 4, 5, 6, 21, 29, 36] (S2 := [(0, .slice al ns.length capl), (1, .slice ab bs.length capb), (4, .bool false), (5, .slice none 0 0), (6, .int .i64 5), (21, .bool false), (29, .bool false), (36, .bool false)]) (A2 := A1) rfl (by kernel_rfl) ?_
        refine EO.done rfl ?_
        refine J.cond false (by kernel_rfl) (fun h => Bool.noConfusion h) (fun _ => ?_)
        refine J.skip ?_
        refine thenJ_n ?_
        refine J.sr ?_
        refine EO.run 1 [0, 1, 4, 5, 6, 21, 29, 36, 90] (S2 := [(0, .slice al ns.length capl), (1, .slice ab bs.length capb), (4, .bool false), (5, .slice none 0 0), (6, .int .i64 5), (21, .bool false), (29, .bool false), (36, .bool false), (90, .slice ab bs.length capb)]) (A2 := A1) rfl (by kernel_rfl) ?_
        have hb5 := hb0.ext hx1
        obtain ⟨D1, e19, hxD1, hnD1⟩ := f10_spec (pre := pre) (dr := dr) (m := m) hp10 hp25 hb5 hn1
        unfold takeV at e19
        cases hok : (takeOf bs).2.2 with
        | false =>
          rw [takeOf_bad hok] at e19
          refine EO.fcall (f := 10) (vs := [.slice ab bs.length capb]) (v := .tuple #[.int .u64 0, .int .i64 0, .bool false]) (A1 := D1) rfl rfl rfl rfl (by kernel_rfl) (by kernel_rfl) e19 ?_
          refine EO.run 9 [0, 1, 4, 5, 6, 16, 17, 18, 21, 29, 36] (S2 := [(0, .slice al ns.length capl), (1, .slice ab bs.length capb), (4, .bool false), (5, .slice none 0 0), (6, .int .i64 5), (16, .int .u64 0), (17, .int .i64 0), (18, .bool false), (21, .bool false), (29, .bool false), (36, .bool false)]) (A2 := D1) rfl (by kernel_rfl) ?_
          refine EO.done rfl ?_
          refine J.seq ?_
          refine J.sr ?_
          refine EO.run 2 [0, 1, 4, 5, 6, 16, 17, 18, 21, 29, 36, 96] (S2 := [(0, .slice al ns.length capl), (1, .slice ab bs.length capb), (4, .bool false), (5, .slice none 0 0), (6, .int .i64 5), (16, .int .u64 0), (17, .int .i64 0), (18, .bool false), (21, .bool false), (29, .bool false), (36, .bool false), (96, .bool true)]) (A2 := D1) rfl (by kernel_rfl) ?_
          refine EO.done rfl ?_
          refine J.cond true (by kernel_rfl) (fun _ => ?_) (fun h => Bool.noConfusion h)
          refine J.sr ?_
          refine EO.run 7 [0, 1, 4, 5, 6, 16, 17, 18, 21, 29, 36, 96] (S2 := [(0, .slice al ns.length capl), (1, .slice ab bs.length capb), (4, .bool true), (5, .slice none 0 0), (6, .int .i64 5), (16, .int .u64 0), (17, .int .i64 0), (18, .bool false), (21, .bool false), (29, .bool false), (36, .bool false), (96, .bool true)]) (A2 := D1) rfl (by kernel_rfl) ?_
          refine EO.done rfl ?_
          refine J.ret ?_
          refine thenJ_r ?_
          refine Ends_r (vs := [.bool true]) (by kernel_rfl) ?_
          exact rfl
        | true =>
          obtain ⟨n, u, htb, hnb, hub, hu1, hu8⟩ := takeOf_ok hb0.byte hok
          obtain ⟨hcl, hszu, z0, r0, hbs, hu⟩ := takeOf_cls hb0.byte htb
          rw [htb] at e19
          refine EO.fcall (f := 10) (vs := [.slice ab bs.length capb]) (v := .tuple #[.int .u64 ((n : Nat) : Int), .int .i64 ((u : Nat) : Int), .bool true]) (A1 := D1) rfl rfl rfl rfl (by kernel_rfl) (by kernel_rfl) e19 ?_
          refine EO.run 9 [0, 1, 4, 5, 6, 16, 17, 18, 21, 29, 36] (S2 := [(0, .slice al ns.length capl), (1, .slice ab bs.length capb), (4, .bool false), (5, .slice none 0 0), (6, .int .i64 5), (16, .int .u64 ((n : Nat) : Int)), (17, .int .i64 ((u : Nat) : Int)), (18, .bool true), (21, .bool false), (29, .bool false), (36, .bool false)]) (A2 := D1) rfl (by kernel_rfl) ?_
          refine EO.done rfl ?_
          refine J.seq ?_
          refine J.sr ?_
          refine EO.run 2 [0, 1, 4, 5, 6, 16, 17, 18, 21, 29, 36, 96] (S2 := [(0, .slice al ns.length capl), (1, .slice ab bs.length capb), (4, .bool false), (5, .slice none 0 0), (6, .int .i64 5), (16, .int .u64 ((n : Nat) : Int)), (17, .int .i64 ((u : Nat) : Int)), (18, .bool true), (21, .bool false), (29, .bool false), (36, .bool false), (96, .bool false)]) (A2 := D1) rfl (by kernel_rfl) ?_
          refine EO.done rfl ?_
          refine J.cond false (by kernel_rfl) (fun h => Bool.noConfusion h) (fun _ => ?_)
          refine J.skip ?_
          refine thenJ_n ?_
          refine J.sr ?_
          refine EO.run 1 [0, 1, 4, 5, 6, 16, 17, 18, 21, 29, 36, 96, 104] (S2 := [(0, .slice al ns.length capl), (1, .slice ab bs.length capb), (4, .bool false), (5, .slice none 0 0), (6, .int .i64 5), (16, .int .u64 ((n : Nat) : Int)), (17, .int .i64 ((u : Nat) : Int)), (18, .bool true), (21, .bool false), (29, .bool false), (36, .bool false), (96, .bool false), (104, .int .u64 ((n : Nat) : Int))]) (A2 := D1) rfl (by kernel_rfl) ?_
          obtain ⟨D2, hD2, hxD2, hnD2, hN2⟩ := new_num (A := D1) hnD1 ((n : Nat) : Int) (by omega)
          refine EO.run 2 [0, 1, 4, 5, 6, 16, 17, 18, 21, 29, 36, 96, 104, 105] (S2 := [(0, .slice al ns.length capl), (1, .slice ab bs.length capb), (4, .bool false), (5, .slice none 0 0), (6, .int .i64 5), (16, .int .u64 ((n : Nat) : Int)), (17, .int .i64 ((u : Nat) : Int)), (18, .bool true), (21, .bool false), (29, .bool false), (36, .bool false), (96, .bool false), (104, .int .u64 ((n : Nat) : Int)), (105, .slice (some ⟨D1.nid, 0, none⟩) 1 1)]) (A2 := D1.push (.cells [.int .u64 ((n : Nat) : Int)] false false 1)) rfl (by kernel_rfl) ?_
          rw [hD2]
          obtain ⟨v8, D3, e22, hxD3, hnD3, ⟨_, w22, rfl, hO22⟩ | ⟨hno2, _⟩⟩ := f17_spec (pre := pre) (dr := dr) (m := m) hp17 hp25 hp27 (vb := .slice none 0 0) (zs := []) (.inl ⟨rfl, rfl⟩) hN2 hnD2 (by simp) (by simp)
          rotate_left
          · obtain ⟨y, hy1, hy2⟩ := hno2; simp at hy1; subst hy1; exact absurd hcl hy2
          obtain ⟨aw, capw, hw⟩ := hO22.rowV.form
          subst hw
          have hlen22 : ([] ++ encL [((n : Nat) : Int)]).length = szOf n := by rw [List.nil_append]; simp only [encL, List.flatMap_cons, List.flatMap_nil, List.append_nil]; exact shortOf_len hcl
          refine EO.fcall (f := 17) (vs := [.slice none 0 0, .slice (some ⟨D1.nid, 0, none⟩) 1 1]) (v := .tuple #[.slice aw (([] ++ encL [((n : Nat) : Int)]).length) capw, .int .i64 0]) (A1 := D3) rfl rfl rfl rfl (by kernel_rfl) (by kernel_rfl) e22 ?_
          refine EO.run 8 [0, 1, 4, 5, 6, 16, 17, 18, 19, 21, 29, 36, 96] (S2 := [(0, .slice al ns.length capl), (1, .slice ab bs.length capb), (4, .bool false), (5, .slice none 0 0), (6, .int .i64 0), (16, .int .u64 ((n : Nat) : Int)), (17, .int .i64 ((u : Nat) : Int)), (18, .bool true), (19, .slice aw (([] ++ encL [((n : Nat) : Int)]).length) capw), (21, .bool false), (29, .bool false), (36, .bool false), (96, .bool false)]) (A2 := D3) rfl (by kernel_rfl) ?_
          refine EO.done rfl ?_
          refine J.sr ?_
          refine EO.run 9 [0, 1, 4, 5, 6, 16, 17, 18, 19, 21, 29, 36, 96, 117] (S2 := [(0, .slice al ns.length capl), (1, .slice ab bs.length capb), (4, .bool false), (5, .slice none 0 0), (6, .int .i64 0), (16, .int .u64 ((n : Nat) : Int)), (17, .int .i64 ((u : Nat) : Int)), (18, .bool true), (19, .slice aw (([] ++ encL [((n : Nat) : Int)]).length) capw), (21, .bool false), (29, .bool false), (36, .bool false), (96, .bool false), (117, .bool (decide (((([] ++ encL [((n : Nat) : Int)]).length : Nat) : Int) ≤ ((u : Nat) : Int))))]) (A2 := D3) rfl (by kernel_rfl) ?_
          have d9 : (decide (((([] ++ encL [((n : Nat) : Int)]).length : Nat) : Int) ≤ ((u : Nat) : Int))) = true := decide_eq_true (by rw [hlen22]; omega)
          rw [d9]
          refine EO.run 13 [0, 1, 4, 5, 6, 16, 17, 18, 19, 21, 29, 36, 96, 121] (S2 := [(0, .slice al ns.length capl), (1, .slice ab bs.length capb), (4, .bool false), (5, .slice none 0 0), (6, .int .i64 0), (16, .int .u64 ((n : Nat) : Int)), (17, .int .i64 ((u : Nat) : Int)), (18, .bool true), (19, .slice aw (([] ++ encL [((n : Nat) : Int)]).length) capw), (21, .bool false), (29, .bool false), (36, .bool false), (96, .bool false), (121, .bool (decide (((n : Nat) : Int) ≤ 4611686018427387903)))]) (A2 := D3) rfl (by kernel_rfl) ?_
          have d10 : (decide (((n : Nat) : Int) ≤ 4611686018427387903)) = true := decide_eq_true (by omega)
          rw [d10]
          refine EO.run 15 [0, 1, 4, 5, 6, 16, 17, 18, 19, 21, 29, 36, 96, 121, 122, 123] (S2 := [(0, .slice al ns.length capl), (1, .slice ab bs.length capb), (4, .bool false), (5, .slice none 0 0), (6, .int .i64 0), (16, .int .u64 ((n : Nat) : Int)), (17, .int .i64 ((u : Nat) : Int)), (18, .bool true), (19, .slice aw (([] ++ encL [((n : Nat) : Int)]).length) capw), (21, .bool false), (29, .bool false), (36, .bool false), (96, .bool false), (121, .bool true), (122, .int .i64 ((u : Nat) : Int)), (123, .slice ab bs.length capb)]) (A2 := D3) rfl (by kernel_rfl) ?_
          have hb9 := hb5.ext ((hxD1.trans hxD2).trans hxD3)
          obtain ⟨ad2, hj1, hj2⟩ := hb9.get (P := Try.prog) (t := 5) (st := 22) (e := 5) (by kernel_rfl) (by kernel_rfl) (by kernel_rfl) (j := 0) (z := z0) (by rw [hbs]; rfl)
          have hz0 := hb0.byte z0 (by rw [hbs]; simp)
          refine EO.index (v := .slice ab bs.length capb) (u := .int .i64 (Int.ofNat 0)) (w := .pointer (some ad2)) rfl rfl rfl (by kernel_rfl) (by kernel_rfl) (by kernel_rfl) hj1 ?_
          refine EO.load (ad := ad2) (w := .int .u8 z0) rfl rfl rfl (by kernel_rfl) (by kernel_rfl) hj2 ?_
          have hz4 : z0 / 64 = 0 ∨ z0 / 64 = 1 ∨ z0 / 64 = 2 ∨ z0 / 64 = 3 := by omega
          rcases hz4 with hc | hc | hc | hc
          · have hu2 : u = 1 := by rw [← hu, hc]; rfl
            refine EO.run 18 [0, 1, 4, 5, 6, 16, 17, 18, 19, 21, 29, 36, 96, 121, 122, 126] (S2 := [(0, .slice al ns.length capl), (1, .slice ab bs.length capb), (4, .bool false), (5, .slice none 0 0), (6, .int .i64 0), (16, .int .u64 ((n : Nat) : Int)), (17, .int .i64 ((u : Nat) : Int)), (18, .bool true), (19, .slice aw (([] ++ encL [((n : Nat) : Int)]).length) capw), (21, .bool false), (29, .bool false), (36, .bool false), (96, .bool false), (121, .bool true), (122, .int .i64 ((u : Nat) : Int)), (126, .int .u8 (sShr .u8 z0 6))]) (A2 := D3) rfl (by kernel_rfl) ?_
            refine EO.cast (S2 := [(0, .slice al ns.length capl), (1, .slice ab bs.length capb), (4, .bool false), (5, .slice none 0 0), (6, .int .i64 0), (16, .int .u64 ((n : Nat) : Int)), (17, .int .i64 ((u : Nat) : Int)), (18, .bool true), (19, .slice aw (([] ++ encL [((n : Nat) : Int)]).length) capw), (21, .bool false), (29, .bool false), (36, .bool false), (96, .bool false), (121, .bool true), (122, .int .i64 ((u : Nat) : Int)), (126, .int .u8 0)]) (by rw [show sShr .u8 z0 6 = 0 from by rw [shr6, hc]]) ?_
            refine EO.run 22 [0, 1, 4, 5, 6, 16, 17, 18, 19, 21, 29, 36, 96] (S2 := [(0, .slice al ns.length capl), (1, .slice ab bs.length capb), (4, .bool (((u : Nat) : Int) == 1)), (5, .slice none 0 0), (6, .int .i64 0), (16, .int .u64 ((n : Nat) : Int)), (17, .int .i64 ((u : Nat) : Int)), (18, .bool true), (19, .slice aw (([] ++ encL [((n : Nat) : Int)]).length) capw), (21, .bool false), (29, .bool false), (36, .bool false), (96, .bool false)]) (A2 := D3) rfl (by kernel_rfl) ?_
            refine EO.done rfl ?_
            refine J.ret ?_
            refine Ends_r (vs := [.bool (((u : Nat) : Int) == 1)]) (by kernel_rfl) ?_
            exact congrArg Value.bool (beq_true' (by omega) : (((u : Nat) : Int) == 1) = true)
          · have hu2 : u = 2 := by rw [← hu, hc]; rfl
            refine EO.run 18 [0, 1, 4, 5, 6, 16, 17, 18, 19, 21, 29, 36, 96, 121, 122, 126] (S2 := [(0, .slice al ns.length capl), (1, .slice ab bs.length capb), (4, .bool false), (5, .slice none 0 0), (6, .int .i64 0), (16, .int .u64 ((n : Nat) : Int)), (17, .int .i64 ((u : Nat) : Int)), (18, .bool true), (19, .slice aw (([] ++ encL [((n : Nat) : Int)]).length) capw), (21, .bool false), (29, .bool false), (36, .bool false), (96, .bool false), (121, .bool true), (122, .int .i64 ((u : Nat) : Int)), (126, .int .u8 (sShr .u8 z0 6))]) (A2 := D3) rfl (by kernel_rfl) ?_
            refine EO.cast (S2 := [(0, .slice al ns.length capl), (1, .slice ab bs.length capb), (4, .bool false), (5, .slice none 0 0), (6, .int .i64 0), (16, .int .u64 ((n : Nat) : Int)), (17, .int .i64 ((u : Nat) : Int)), (18, .bool true), (19, .slice aw (([] ++ encL [((n : Nat) : Int)]).length) capw), (21, .bool false), (29, .bool false), (36, .bool false), (96, .bool false), (121, .bool true), (122, .int .i64 ((u : Nat) : Int)), (126, .int .u8 1)]) (by rw [show sShr .u8 z0 6 = 1 from by rw [shr6, hc]]) ?_
            refine EO.run 22 [0, 1, 4, 5, 6, 16, 17, 18, 19, 21, 29, 36, 96] (S2 := [(0, .slice al ns.length capl), (1, .slice ab bs.length capb), (4, .bool (((u : Nat) : Int) == 2)), (5, .slice none 0 0), (6, .int .i64 0), (16, .int .u64 ((n : Nat) : Int)), (17, .int .i64 ((u : Nat) : Int)), (18, .bool true), (19, .slice aw (([] ++ encL [((n : Nat) : Int)]).length) capw), (21, .bool false), (29, .bool false), (36, .bool false), (96, .bool false)]) (A2 := D3) rfl (by kernel_rfl) ?_
            refine EO.done rfl ?_
            refine J.ret ?_
            refine Ends_r (vs := [.bool (((u : Nat) : Int) == 2)]) (by kernel_rfl) ?_
            exact congrArg Value.bool (beq_true' (by omega) : (((u : Nat) : Int) == 2) = true)
          · have hu2 : u = 4 := by rw [← hu, hc]; rfl
            refine EO.run 18 [0, 1, 4, 5, 6, 16, 17, 18, 19, 21, 29, 36, 96, 121, 122, 126] (S2 := [(0, .slice al ns.length capl), (1, .slice ab bs.length capb), (4, .bool false), (5, .slice none 0 0), (6, .int .i64 0), (16, .int .u64 ((n : Nat) : Int)), (17, .int .i64 ((u : Nat) : Int)), (18, .bool true), (19, .slice aw (([] ++ encL [((n : Nat) : Int)]).length) capw), (21, .bool false), (29, .bool false), (36, .bool false), (96, .bool false), (121, .bool true), (122, .int .i64 ((u : Nat) : Int)), (126, .int .u8 (sShr .u8 z0 6))]) (A2 := D3) rfl (by kernel_rfl) ?_
            refine EO.cast (S2 := [(0, .slice al ns.length capl), (1, .slice ab bs.length capb), (4, .bool false), (5, .slice none 0 0), (6, .int .i64 0), (16, .int .u64 ((n : Nat) : Int)), (17, .int .i64 ((u : Nat) : Int)), (18, .bool true), (19, .slice aw (([] ++ encL [((n : Nat) : Int)]).length) capw), (21, .bool false), (29, .bool false), (36, .bool false), (96, .bool false), (121, .bool true), (122, .int .i64 ((u : Nat) : Int)), (126, .int .u8 2)]) (by rw [show sShr .u8 z0 6 = 2 from by rw [shr6, hc]]) ?_
            refine EO.run 22 [0, 1, 4, 5, 6, 16, 17, 18, 19, 21, 29, 36, 96] (S2 := [(0, .slice al ns.length capl), (1, .slice ab bs.length capb), (4, .bool (((u : Nat) : Int) == 4)), (5, .slice none 0 0), (6, .int .i64 0), (16, .int .u64 ((n : Nat) : Int)), (17, .int .i64 ((u : Nat) : Int)), (18, .bool true), (19, .slice aw (([] ++ encL [((n : Nat) : Int)]).length) capw), (21, .bool false), (29, .bool false), (36, .bool false), (96, .bool false)]) (A2 := D3) rfl (by kernel_rfl) ?_
            refine EO.done rfl ?_
            refine J.ret ?_
            refine Ends_r (vs := [.bool (((u : Nat) : Int) == 4)]) (by kernel_rfl) ?_
            exact congrArg Value.bool (beq_true' (by omega) : (((u : Nat) : Int) == 4) = true)
          · have hu2 : u = 8 := by rw [← hu, hc]; rfl
            refine EO.run 18 [0, 1, 4, 5, 6, 16, 17, 18, 19, 21, 29, 36, 96, 121, 122, 126] (S2 := [(0, .slice al ns.length capl), (1, .slice ab bs.length capb), (4, .bool false), (5, .slice none 0 0), (6, .int .i64 0), (16, .int .u64 ((n : Nat) : Int)), (17, .int .i64 ((u : Nat) : Int)), (18, .bool true), (19, .slice aw (([] ++ encL [((n : Nat) : Int)]).length) capw), (21, .bool false), (29, .bool false), (36, .bool false), (96, .bool false), (121, .bool true), (122, .int .i64 ((u : Nat) : Int)), (126, .int .u8 (sShr .u8 z0 6))]) (A2 := D3) rfl (by kernel_rfl) ?_
            refine EO.cast (S2 := [(0, .slice al ns.length capl), (1, .slice ab bs.length capb), (4, .bool false), (5, .slice none 0 0), (6, .int .i64 0), (16, .int .u64 ((n : Nat) : Int)), (17, .int .i64 ((u : Nat) : Int)), (18, .bool true), (19, .slice aw (([] ++ encL [((n : Nat) : Int)]).length) capw), (21, .bool false), (29, .bool false), (36, .bool false), (96, .bool false), (121, .bool true), (122, .int .i64 ((u : Nat) : Int)), (126, .int .u8 3)]) (by rw [show sShr .u8 z0 6 = 3 from by rw [shr6, hc]]) ?_
            refine EO.run 22 [0, 1, 4, 5, 6, 16, 17, 18, 19, 21, 29, 36, 96] (S2 := [(0, .slice al ns.length capl), (1, .slice ab bs.length capb), (4, .bool (((u : Nat) : Int) == 8)), (5, .slice none 0 0), (6, .int .i64 0), (16, .int .u64 ((n : Nat) : Int)), (17, .int .i64 ((u : Nat) : Int)), (18, .bool true), (19, .slice aw (([] ++ encL [((n : Nat) : Int)]).length) capw), (21, .bool false), (29, .bool false), (36, .bool false), (96, .bool false)]) (A2 := D3) rfl (by kernel_rfl) ?_
            refine EO.done rfl ?_
            refine J.ret ?_
            refine Ends_r (vs := [.bool (((u : Nat) : Int) == 8)]) (by kernel_rfl) ?_
            exact congrArg Value.bool (beq_true' (by omega) : (((u : Nat) : Int) == 8) = true)
end
end Go.Proofs.Ytioggedadamoaaa
