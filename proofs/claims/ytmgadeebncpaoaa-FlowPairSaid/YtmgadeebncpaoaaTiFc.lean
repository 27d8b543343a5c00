/- flow: Use, raise, More, Allow. -/
import Derived.Test.YtmgadeebncpaoaaTiFb
set_option autoImplicit false
set_option linter.unusedVariables false
set_option linter.unusedSimpArgs false
namespace Go.Proofs.Ytmgadeebncpaoaa
open Go.Abs Go.RowKit

section
variable {pre : FuncId → Option (List Value → AW → Option (Value × AW))} {dr : CallF → Array Oper → Array Value → AW → Option (Array Value × AW)} {A : AW} {m : Nat}

theorem new_num2 (hnx : A.nx = none) (x y : Int) (hx : 0 ≤ x ∧ x < 18446744073709551616) (hy : 0 ≤ y ∧ y < 18446744073709551616) : AExt A (A.push (.cells [.int .u64 x, .int .u64 y] false false 1)) ∧ (A.push (.cells [.int .u64 x, .int .u64 y] false false 1)).nx = none ∧
    R64 (A.push (.cells [.int .u64 x, .int .u64 y] false false 1)) (.slice (some ⟨A.nid, 0, none⟩) 2 2) [x, y] := by
  refine ⟨AExt.push hnx _, AW.push_nx _ _, ⟨by intro z hz; simp at hz; rcases hz with rfl | rfl <;> assumption, .inr ⟨A.nid, 0, 2, rfl, ?_, _, _, _, _, push_get_new _, ?_⟩⟩⟩
  · rw [nid_none hnx, A.size_push_none _ hnx]; exact Nat.lt_succ_self _
  · intro j n hj
    have hl := (List.getElem?_eq_some_iff.1 hj).1
    have hj0 : j = 0 ∨ j = 1 := by simp at hl; omega
    rcases hj0 with rfl | rfl <;> simp at hj <;> subst hj <;> rfl

/-- What is read, behind Use. -/
def useOf (re ca s : Int) : Int := if ca < sumOf [re, s] then ca else sumOf [re, s]

theorem f12_spec (hp : pre 12 = none) (hp19 : pre 19 = none) (hdr : ∀ {call ops t A r}, adraw Try.prog call ops t A = some r → dr call ops t A = some r) {b : Nat} {sm se rm ca re : Int} {vl : Value} {ns : List Int} (h : Flow A b sm se rm ca re) (hl : R64 A vl ns) (hlen : ns.length < 99999) (hnx : A.nx = none) (h0 : 0 ≤ re ∧ re < 9223372036854775808) :
    ∃ A', acall Try.prog pre dr 100000 (m + 2) 12 [.pointer (some ⟨b, 0, none⟩), vl] A = some (.tuple #[], A') ∧ Flow A' b sm se rm ca (useOf re ca (sumOf ns)) ∧ AUp A b A' := by
  have e19 := f19_spec (pre := pre) (dr := dr) (m := m) hp19 hl hlen
  have hsum := sum_le ns 0 (by omega) (by omega) (fun y hy => (hl.1 y hy).1)
  have hsum2 : 0 ≤ sumOf ns ∧ sumOf ns ≤ 4611686018427387903 := hsum
  obtain ⟨hxp, hnp, hN⟩ := new_num2 hnx re (sumOf ns) (by omega) (by omega)
  have e20 := f19_spec (pre := pre) (dr := dr) (m := m) hp19 hN (by simp)
  have hp2 := h.ext hxp
  obtain ⟨A4, hst, hF, hM⟩ := hp2.st4 hnp (useOf re ca (sumOf ns))
  suffices hs : ∃ v' A', acall Try.prog pre dr 100000 (m + 1 + 1) 12 [.pointer (some ⟨b, 0, none⟩), vl] A = some (v', A') ∧ (v' = .tuple #[] ∧ A' = A4) by
    obtain ⟨v', A', e, rfl, rfl⟩ := hs
    exact ⟨_, e, hF, (AUp.ofExt hxp hnp).trans (AUp.ofMod hM)⟩
  refine J.fn (fn := Try.f12) hp Try.func12 rfl (Nat.le_of_ble_eq_true rfl) ?_
  refine J.sr ?_
  refine EO.run 2 [0, 1, 5] (S2 := [(0, .pointer (some ⟨b, 0, none⟩)), (1, vl), (5, .bool true)]) (A2 := A) rfl (by kernel_rfl) ?_
  refine EO.done rfl ?_
  refine J.cond true (by kernel_rfl) (fun _ => ?_) (fun h => Bool.noConfusion h)
  refine J.draw [A, A, A.push (.cells [.int .u64 re, .int .u64 (sumOf ns)] false false 1), A.push (.cells [.int .u64 re, .int .u64 (sumOf ns)] false false 1), A4] (A1 := A4) (S' := [(0, .pointer (some ⟨b, 0, none⟩)), (1, vl), (5, .bool true)]) (fun t r => hdr) (by kernel_rfl) rfl (by kernel_rfl) ?_ ?_
  ·
    refine DR.run 5 [0, 1, 5, 6, 10] (S2 := [(0, .pointer (some ⟨b, 0, none⟩)), (1, vl), (5, .bool true), (6, .pointer (some ⟨b, 0, none⟩)), (10, .pointer (some ⟨b, 4, none⟩))]) (A := A) rfl rfl (by kernel_rfl) ?_
    refine DR.load (ad := ⟨b, 4, none⟩) (v := .int .u64 re) (A := A) rfl rfl rfl rfl (by kernel_rfl) (by kernel_rfl) (beqV_int _ _) ?_ (Nat.le_of_ble_eq_true (by kernel_rfl)) ?_
    · intro k' A' h1 h2 h3
      rcases k' with _ | _ | _ | _ | _ | k'
      · obtain rfl := Option.some.inj h3; exact (h).ld 4 _ rfl
      · obtain rfl := Option.some.inj h3; exact (h).ld 4 _ rfl
      · rcases h2 with h2 | h2
        · cases h2
        · exact Bool.noConfusion (h2.symm.trans (show _ = false by kernel_rfl))
      · rcases h2 with h2 | h2
        · cases h2
        · exact Bool.noConfusion (h2.symm.trans (show _ = false by kernel_rfl))
      · rcases h2 with h2 | h2
        · cases h2
        · exact Bool.noConfusion (h2.symm.trans (show _ = false by kernel_rfl))
      · simp at h3
    refine DR.run 7 [0, 1, 5, 6, 11, 12] (S2 := [(0, .pointer (some ⟨b, 0, none⟩)), (1, vl), (5, .bool true), (6, .pointer (some ⟨b, 0, none⟩)), (11, .int .u64 re), (12, vl)]) (A := A) rfl rfl (by kernel_rfl) ?_
    refine DR.eff (v := .int .u64 (sumOf ns)) (A := A) (A1 := A) rfl rfl rfl rfl rfl (eop_call (f := 19) rfl rfl (by kernel_rfl) (by kernel_rfl) (e19)) ?_
    refine DR.eff (v := .slice (some ⟨A.nid, 0, none⟩) 2 2) (A := A) (A1 := A.push (.cells [.int .u64 re, .int .u64 (sumOf ns)] false false 1)) rfl rfl rfl rfl rfl (by kernel_rfl) ?_
    refine DR.eff (v := .int .u64 (sumOf [re, sumOf ns])) (A := A.push (.cells [.int .u64 re, .int .u64 (sumOf ns)] false false 1)) (A1 := A.push (.cells [.int .u64 re, .int .u64 (sumOf ns)] false false 1)) rfl rfl rfl rfl rfl (eop_call (f := 19) rfl rfl (by kernel_rfl) (by kernel_rfl) (e20)) ?_
    refine DR.run 14 [0, 1, 5, 6, 15, 19] (S2 := [(0, .pointer (some ⟨b, 0, none⟩)), (1, vl), (5, .bool true), (6, .pointer (some ⟨b, 0, none⟩)), (15, .int .u64 (sumOf [re, sumOf ns])), (19, .pointer (some ⟨b, 3, none⟩))]) (A := A.push (.cells [.int .u64 re, .int .u64 (sumOf ns)] false false 1)) rfl rfl (by kernel_rfl) ?_
    refine DR.load (ad := ⟨b, 3, none⟩) (v := .int .u64 ca) (A := A.push (.cells [.int .u64 re, .int .u64 (sumOf ns)] false false 1)) rfl rfl rfl rfl (by kernel_rfl) (by kernel_rfl) (beqV_int _ _) ?_ (Nat.le_of_ble_eq_true (by kernel_rfl)) ?_
    · intro k' A' h1 h2 h3
      rcases k' with _ | _ | _ | _ | _ | k'
      · obtain rfl := Option.some.inj h3; exact (h).ld 3 _ rfl
      · obtain rfl := Option.some.inj h3; exact (h).ld 3 _ rfl
      · obtain rfl := Option.some.inj h3; exact (hp2).ld 3 _ rfl
      · obtain rfl := Option.some.inj h3; exact (hp2).ld 3 _ rfl
      · rcases h2 with h2 | h2
        · cases h2
        · exact Bool.noConfusion (h2.symm.trans (show _ = false by kernel_rfl))
      · simp at h3
    refine DR.run 16 [0, 1, 5, 6, 21] (S2 := [(0, .pointer (some ⟨b, 0, none⟩)), (1, vl), (5, .bool true), (6, .pointer (some ⟨b, 0, none⟩)), (21, .int .u64 (if (ca : Int) < (sumOf [re, sumOf ns]) then ca else sumOf [re, sumOf ns]))]) (A := A.push (.cells [.int .u64 re, .int .u64 (sumOf ns)] false false 1)) rfl rfl (by kernel_rfl) ?_
    refine DR.cast (S2 := [(0, .pointer (some ⟨b, 0, none⟩)), (1, vl), (5, .bool true), (6, .pointer (some ⟨b, 0, none⟩)), (21, .int .u64 (useOf re ca (sumOf ns)))]) (by rfl) ?_
    refine DR.run 19 [0, 1, 5, 21, 24] (S2 := [(0, .pointer (some ⟨b, 0, none⟩)), (1, vl), (5, .bool true), (21, .int .u64 (useOf re ca (sumOf ns))), (24, .pointer (some ⟨b, 4, none⟩))]) (A := A.push (.cells [.int .u64 re, .int .u64 (sumOf ns)] false false 1)) rfl rfl (by kernel_rfl) ?_
    refine DR.eff (v := undef) (A := A.push (.cells [.int .u64 re, .int .u64 (sumOf ns)] false false 1)) (A1 := A4) rfl rfl rfl rfl rfl (eop_store (ad := ⟨b, 4, none⟩) (u := .int .u64 (useOf re ca (sumOf ns))) rfl (by kernel_rfl) (by kernel_rfl) (by kernel_rfl) hst) ?_
    refine DR.weak [0, 1, 5] (S2 := [(0, .pointer (some ⟨b, 0, none⟩)), (1, vl), (5, .bool true)]) (by kernel_rfl) ?_
    exact DR.done rfl
  refine Ends_n (vs := []) (by kernel_rfl) ?_
  exact ⟨rfl, rfl⟩

/-- What a limit is raised to. -/
def wantOf (re w : Int) : Int := mnV (re + w)
def worth (rm re w : Int) : Prop := ¬ (wantOf re w ≤ rm) ∧ ¬ (wantOf re w - rm < w / 2 + 1)

theorem f18_spec (hp : pre 18 = none) {b : Nat} {sm se rm ca re : Int} (h : Flow A b sm se rm ca re) (hnx : A.nx = none) (w : Int) (h0 : 0 ≤ re ∧ re < 9223372036854775808) (h1 : 0 ≤ rm ∧ rm < 9223372036854775808) (hw : 0 ≤ w ∧ w ≤ 1048576) :
    (¬ worth rm re w → acall Try.prog pre dr 100000 (m + 1) 18 [.pointer (some ⟨b, 2, none⟩), .int .u64 re, .int .u64 w, .int .u64 4611686018427387903] A = some (.tuple #[.int .u64 0, .bool false], A)) ∧
    (worth rm re w → ∃ A', acall Try.prog pre dr 100000 (m + 1) 18 [.pointer (some ⟨b, 2, none⟩), .int .u64 re, .int .u64 w, .int .u64 4611686018427387903] A = some (.tuple #[.int .u64 (wantOf re w), .bool true], A') ∧ Flow A' b sm se (wantOf re w) ca re ∧ AMod A b A') := by
  have hwn := mnV_le (x := re + w) (by omega)
  have hwn2 : 0 ≤ wantOf re w ∧ wantOf re w ≤ 4611686018427387903 := hwn
  constructor
  · intro hno
    by_cases hle : wantOf re w ≤ rm
    · suffices hs : ∃ v' A', acall Try.prog pre dr 100000 (m + 1) 18 [.pointer (some ⟨b, 2, none⟩), .int .u64 re, .int .u64 w, .int .u64 4611686018427387903] A = some (v', A') ∧ (v' = .tuple #[.int .u64 0, .bool false] ∧ A' = A) by
        obtain ⟨v', A', e, rfl, rfl⟩ := hs
        exact e
      refine J.fn (fn := Try.f18) hp Try.func18 rfl (Nat.le_of_ble_eq_true rfl) ?_
      refine J.sr ?_
      refine EO.run 2 [0, 1, 2, 3, 8, 9] (S2 := [(0, .pointer (some ⟨b, 2, none⟩)), (1, .int .u64 re), (2, .int .u64 w), (3, .int .u64 4611686018427387903), (8, .int .u64 0), (9, .bool false)]) (A2 := A) rfl (by kernel_rfl) ?_
      refine EO.done rfl ?_
      refine J.sr ?_
      refine EO.run 3 [0, 1, 2, 3, 8, 9, 13] (S2 := [(0, .pointer (some ⟨b, 2, none⟩)), (1, .int .u64 re), (2, .int .u64 w), (3, .int .u64 4611686018427387903), (8, .int .u64 0), (9, .bool false), (13, .int .u64 (IntKind.wrap .u64 (re + w)))]) (A2 := A) rfl (by kernel_rfl) ?_
      refine EO.cast (S2 := [(0, .pointer (some ⟨b, 2, none⟩)), (1, .int .u64 re), (2, .int .u64 w), (3, .int .u64 4611686018427387903), (8, .int .u64 0), (9, .bool false), (13, .int .u64 (re + w))]) (by rw [wrap_u64 (x := re + w) (by omega) (by omega)]) ?_
      refine EO.run 5 [0, 1, 2, 3, 8, 9, 15] (S2 := [(0, .pointer (some ⟨b, 2, none⟩)), (1, .int .u64 re), (2, .int .u64 w), (3, .int .u64 4611686018427387903), (8, .int .u64 0), (9, .bool false), (15, .int .u64 (if (4611686018427387903 : Int) < (re + w) then 4611686018427387903 else re + w))]) (A2 := A) rfl (by kernel_rfl) ?_
      refine EO.cast (S2 := [(0, .pointer (some ⟨b, 2, none⟩)), (1, .int .u64 re), (2, .int .u64 w), (3, .int .u64 4611686018427387903), (8, .int .u64 0), (9, .bool false), (15, .int .u64 (wantOf re w))]) (by rfl) ?_
      refine EO.run 6 [0, 1, 2, 3, 8, 9, 10] (S2 := [(0, .pointer (some ⟨b, 2, none⟩)), (1, .int .u64 re), (2, .int .u64 w), (3, .int .u64 4611686018427387903), (8, .int .u64 0), (9, .bool false), (10, .int .u64 (wantOf re w))]) (A2 := A) rfl (by kernel_rfl) ?_
      refine EO.done rfl ?_
      refine J.seq ?_
      refine J.sr ?_
      refine EO.run 3 [0, 1, 2, 3, 8, 9, 10, 18] (S2 := [(0, .pointer (some ⟨b, 2, none⟩)), (1, .int .u64 re), (2, .int .u64 w), (3, .int .u64 4611686018427387903), (8, .int .u64 0), (9, .bool false), (10, .int .u64 (wantOf re w)), (18, .bool (decide (w > 4611686018427387903)))]) (A2 := A) rfl (by kernel_rfl) ?_
      have d1 : (decide (w > 4611686018427387903)) = false := decide_eq_false (by omega)
      rw [d1]
      refine EO.run 6 [0, 1, 2, 3, 8, 9, 10, 18, 19, 21] (S2 := [(0, .pointer (some ⟨b, 2, none⟩)), (1, .int .u64 re), (2, .int .u64 w), (3, .int .u64 4611686018427387903), (8, .int .u64 0), (9, .bool false), (10, .int .u64 (wantOf re w)), (18, .bool false), (19, .int .u64 (wantOf re w)), (21, .pointer (some ⟨b, 2, none⟩))]) (A2 := A) rfl (by kernel_rfl) ?_
      refine EO.load (ad := ⟨b, 2, none⟩) (w := .int .u64 rm) rfl rfl rfl (by kernel_rfl) (by kernel_rfl) (h.ld 2 _ rfl) ?_
      refine EO.run 10 [0, 1, 2, 3, 8, 9, 10, 25] (S2 := [(0, .pointer (some ⟨b, 2, none⟩)), (1, .int .u64 re), (2, .int .u64 w), (3, .int .u64 4611686018427387903), (8, .int .u64 0), (9, .bool false), (10, .int .u64 (wantOf re w)), (25, .bool (decide ((wantOf re w) ≤ rm)))]) (A2 := A) rfl (by kernel_rfl) ?_
      have d2 : (decide ((wantOf re w) ≤ rm)) = true := decide_eq_true hle
      rw [d2]
      refine EO.run 15 [0, 1, 2, 3, 8, 9, 10, 25, 30] (S2 := [(0, .pointer (some ⟨b, 2, none⟩)), (1, .int .u64 re), (2, .int .u64 w), (3, .int .u64 4611686018427387903), (8, .int .u64 0), (9, .bool false), (10, .int .u64 (wantOf re w)), (25, .bool true), (30, undef)]) (A2 := A) rfl (by kernel_rfl) ?_
      refine EO.run 17 [0, 1, 2, 3, 8, 9, 10, 25, 30, 32] (S2 := [(0, .pointer (some ⟨b, 2, none⟩)), (1, .int .u64 re), (2, .int .u64 w), (3, .int .u64 4611686018427387903), (8, .int .u64 0), (9, .bool false), (10, .int .u64 (wantOf re w)), (25, .bool true), (30, undef), (32, undef)]) (A2 := A) rfl (by kernel_rfl) ?_
      refine EO.run 18 [0, 1, 2, 3, 8, 9, 10, 25, 30, 33] (S2 := [(0, .pointer (some ⟨b, 2, none⟩)), (1, .int .u64 re), (2, .int .u64 w), (3, .int .u64 4611686018427387903), (8, .int .u64 0), (9, .bool false), (10, .int .u64 (wantOf re w)), (25, .bool true), (30, undef), (33, undef)]) (A2 := A) rfl (by kernel_rfl) ?_
      refine EO.run 20 [0, 1, 2, 3, 8, 9, 10, 35] (S2 := [(0, .pointer (some ⟨b, 2, none⟩)), (1, .int .u64 re), (2, .int .u64 w), (3, .int .u64 4611686018427387903), (8, .int .u64 0), (9, .bool false), (10, .int .u64 (wantOf re w)), (35, .bool true)]) (A2 := A) rfl (by kernel_rfl) ?_
      refine EO.done rfl ?_
      refine J.cond true (by kernel_rfl) (fun _ => ?_) (fun h => Bool.noConfusion h)
      refine J.sr ?_
      refine EO.run 2 [0, 1, 2, 3, 8, 9, 10, 35] (S2 := [(0, .pointer (some ⟨b, 2, none⟩)), (1, .int .u64 re), (2, .int .u64 w), (3, .int .u64 4611686018427387903), (8, .int .u64 0), (9, .bool false), (10, .int .u64 (wantOf re w)), (35, .bool true)]) (A2 := A) rfl (by kernel_rfl) ?_
      refine EO.done rfl ?_
      refine J.ret ?_
      refine thenJ_r ?_
      refine Ends_r (vs := [.int .u64 0, .bool false]) (by kernel_rfl) ?_
      exact ⟨rfl, rfl⟩
    · have hlt : wantOf re w - rm < w / 2 + 1 := by
        unfold worth at hno
        omega
      suffices hs : ∃ v' A', acall Try.prog pre dr 100000 (m + 1) 18 [.pointer (some ⟨b, 2, none⟩), .int .u64 re, .int .u64 w, .int .u64 4611686018427387903] A = some (v', A') ∧ (v' = .tuple #[.int .u64 0, .bool false] ∧ A' = A) by
        obtain ⟨v', A', e, rfl, rfl⟩ := hs
        exact e
      refine J.fn (fn := Try.f18) hp Try.func18 rfl (Nat.le_of_ble_eq_true rfl) ?_
      refine J.sr ?_
      refine EO.run 2 [0, 1, 2, 3, 8, 9] (S2 := [(0, .pointer (some ⟨b, 2, none⟩)), (1, .int .u64 re), (2, .int .u64 w), (3, .int .u64 4611686018427387903), (8, .int .u64 0), (9, .bool false)]) (A2 := A) rfl (by kernel_rfl) ?_
      refine EO.done rfl ?_
      refine J.sr ?_
      refine EO.run 3 [0, 1, 2, 3, 8, 9, 13] (S2 := [(0, .pointer (some ⟨b, 2, none⟩)), (1, .int .u64 re), (2, .int .u64 w), (3, .int .u64 4611686018427387903), (8, .int .u64 0), (9, .bool false), (13, .int .u64 (IntKind.wrap .u64 (re + w)))]) (A2 := A) rfl (by kernel_rfl) ?_
      refine EO.cast (S2 := [(0, .pointer (some ⟨b, 2, none⟩)), (1, .int .u64 re), (2, .int .u64 w), (3, .int .u64 4611686018427387903), (8, .int .u64 0), (9, .bool false), (13, .int .u64 (re + w))]) (by rw [wrap_u64 (x := re + w) (by omega) (by omega)]) ?_
      refine EO.run 5 [0, 1, 2, 3, 8, 9, 15] (S2 := [(0, .pointer (some ⟨b, 2, none⟩)), (1, .int .u64 re), (2, .int .u64 w), (3, .int .u64 4611686018427387903), (8, .int .u64 0), (9, .bool false), (15, .int .u64 (if (4611686018427387903 : Int) < (re + w) then 4611686018427387903 else re + w))]) (A2 := A) rfl (by kernel_rfl) ?_
      refine EO.cast (S2 := [(0, .pointer (some ⟨b, 2, none⟩)), (1, .int .u64 re), (2, .int .u64 w), (3, .int .u64 4611686018427387903), (8, .int .u64 0), (9, .bool false), (15, .int .u64 (wantOf re w))]) (by rfl) ?_
      refine EO.run 6 [0, 1, 2, 3, 8, 9, 10] (S2 := [(0, .pointer (some ⟨b, 2, none⟩)), (1, .int .u64 re), (2, .int .u64 w), (3, .int .u64 4611686018427387903), (8, .int .u64 0), (9, .bool false), (10, .int .u64 (wantOf re w))]) (A2 := A) rfl (by kernel_rfl) ?_
      refine EO.done rfl ?_
      refine J.seq ?_
      refine J.sr ?_
      refine EO.run 3 [0, 1, 2, 3, 8, 9, 10, 18] (S2 := [(0, .pointer (some ⟨b, 2, none⟩)), (1, .int .u64 re), (2, .int .u64 w), (3, .int .u64 4611686018427387903), (8, .int .u64 0), (9, .bool false), (10, .int .u64 (wantOf re w)), (18, .bool (decide (w > 4611686018427387903)))]) (A2 := A) rfl (by kernel_rfl) ?_
      have d1 : (decide (w > 4611686018427387903)) = false := decide_eq_false (by omega)
      rw [d1]
      refine EO.run 6 [0, 1, 2, 3, 8, 9, 10, 18, 19, 21] (S2 := [(0, .pointer (some ⟨b, 2, none⟩)), (1, .int .u64 re), (2, .int .u64 w), (3, .int .u64 4611686018427387903), (8, .int .u64 0), (9, .bool false), (10, .int .u64 (wantOf re w)), (18, .bool false), (19, .int .u64 (wantOf re w)), (21, .pointer (some ⟨b, 2, none⟩))]) (A2 := A) rfl (by kernel_rfl) ?_
      refine EO.load (ad := ⟨b, 2, none⟩) (w := .int .u64 rm) rfl rfl rfl (by kernel_rfl) (by kernel_rfl) (h.ld 2 _ rfl) ?_
      refine EO.run 10 [0, 1, 2, 3, 8, 9, 10, 25] (S2 := [(0, .pointer (some ⟨b, 2, none⟩)), (1, .int .u64 re), (2, .int .u64 w), (3, .int .u64 4611686018427387903), (8, .int .u64 0), (9, .bool false), (10, .int .u64 (wantOf re w)), (25, .bool (decide ((wantOf re w) ≤ rm)))]) (A2 := A) rfl (by kernel_rfl) ?_
      have d2 : (decide ((wantOf re w) ≤ rm)) = false := decide_eq_false hle
      rw [d2]
      refine EO.run 13 [0, 1, 2, 3, 8, 9, 10, 25, 26, 28] (S2 := [(0, .pointer (some ⟨b, 2, none⟩)), (1, .int .u64 re), (2, .int .u64 w), (3, .int .u64 4611686018427387903), (8, .int .u64 0), (9, .bool false), (10, .int .u64 (wantOf re w)), (25, .bool false), (26, .int .u64 (wantOf re w)), (28, .pointer (some ⟨b, 2, none⟩))]) (A2 := A) rfl (by kernel_rfl) ?_
      refine EO.load (ad := ⟨b, 2, none⟩) (w := .int .u64 rm) rfl rfl rfl (by kernel_rfl) (by kernel_rfl) (h.ld 2 _ rfl) ?_
      refine EO.run 15 [0, 1, 2, 3, 8, 9, 10, 25, 30] (S2 := [(0, .pointer (some ⟨b, 2, none⟩)), (1, .int .u64 re), (2, .int .u64 w), (3, .int .u64 4611686018427387903), (8, .int .u64 0), (9, .bool false), (10, .int .u64 (wantOf re w)), (25, .bool false), (30, .int .u64 (IntKind.wrap .u64 ((wantOf re w) - rm)))]) (A2 := A) rfl (by kernel_rfl) ?_
      refine EO.cast (S2 := [(0, .pointer (some ⟨b, 2, none⟩)), (1, .int .u64 re), (2, .int .u64 w), (3, .int .u64 4611686018427387903), (8, .int .u64 0), (9, .bool false), (10, .int .u64 (wantOf re w)), (25, .bool false), (30, .int .u64 (wantOf re w - rm))]) (by rw [wrap_u64 (x := wantOf re w - rm) (by omega) (by omega)]) ?_
      refine EO.run 17 [0, 1, 2, 3, 8, 9, 10, 25, 30, 32] (S2 := [(0, .pointer (some ⟨b, 2, none⟩)), (1, .int .u64 re), (2, .int .u64 w), (3, .int .u64 4611686018427387903), (8, .int .u64 0), (9, .bool false), (10, .int .u64 (wantOf re w)), (25, .bool false), (30, .int .u64 (wantOf re w - rm)), (32, .int .u64 (IntKind.wrap .u64 (Int.tdiv w 2)))]) (A2 := A) rfl (by kernel_rfl) ?_
      refine EO.cast (S2 := [(0, .pointer (some ⟨b, 2, none⟩)), (1, .int .u64 re), (2, .int .u64 w), (3, .int .u64 4611686018427387903), (8, .int .u64 0), (9, .bool false), (10, .int .u64 (wantOf re w)), (25, .bool false), (30, .int .u64 (wantOf re w - rm)), (32, .int .u64 (w / 2))]) (by rw [show IntKind.wrap .u64 (Int.tdiv w 2) = w / 2 from by rw [Int.tdiv_eq_ediv_of_nonneg hw.1, wrap_u64 (by omega) (by omega)]]) ?_
      refine EO.run 18 [0, 1, 2, 3, 8, 9, 10, 25, 30, 33] (S2 := [(0, .pointer (some ⟨b, 2, none⟩)), (1, .int .u64 re), (2, .int .u64 w), (3, .int .u64 4611686018427387903), (8, .int .u64 0), (9, .bool false), (10, .int .u64 (wantOf re w)), (25, .bool false), (30, .int .u64 (wantOf re w - rm)), (33, .int .u64 (IntKind.wrap .u64 ((w / 2) + 1)))]) (A2 := A) rfl (by kernel_rfl) ?_
      refine EO.cast (S2 := [(0, .pointer (some ⟨b, 2, none⟩)), (1, .int .u64 re), (2, .int .u64 w), (3, .int .u64 4611686018427387903), (8, .int .u64 0), (9, .bool false), (10, .int .u64 (wantOf re w)), (25, .bool false), (30, .int .u64 (wantOf re w - rm)), (33, .int .u64 (w / 2 + 1))]) (by rw [wrap_u64 (x := w / 2 + 1) (by omega) (by omega)]) ?_
      refine EO.run 20 [0, 1, 2, 3, 8, 9, 10, 35] (S2 := [(0, .pointer (some ⟨b, 2, none⟩)), (1, .int .u64 re), (2, .int .u64 w), (3, .int .u64 4611686018427387903), (8, .int .u64 0), (9, .bool false), (10, .int .u64 (wantOf re w)), (35, .bool (decide ((wantOf re w - rm) < (w / 2 + 1))))]) (A2 := A) rfl (by kernel_rfl) ?_
      refine EO.done rfl ?_
      have d3 : (decide ((wantOf re w - rm) < (w / 2 + 1))) = true := decide_eq_true hlt
      rw [d3]
      refine J.cond true (by kernel_rfl) (fun _ => ?_) (fun h => Bool.noConfusion h)
      refine J.sr ?_
      refine EO.run 2 [0, 1, 2, 3, 8, 9, 10, 35] (S2 := [(0, .pointer (some ⟨b, 2, none⟩)), (1, .int .u64 re), (2, .int .u64 w), (3, .int .u64 4611686018427387903), (8, .int .u64 0), (9, .bool false), (10, .int .u64 (wantOf re w)), (35, .bool true)]) (A2 := A) rfl (by kernel_rfl) ?_
      refine EO.done rfl ?_
      refine J.ret ?_
      refine thenJ_r ?_
      refine Ends_r (vs := [.int .u64 0, .bool false]) (by kernel_rfl) ?_
      exact ⟨rfl, rfl⟩
  · rintro ⟨hle, hlt⟩
    obtain ⟨A1, hst, hF, hM⟩ := h.st2 hnx (wantOf re w)
    · suffices hs : ∃ v' A', acall Try.prog pre dr 100000 (m + 1) 18 [.pointer (some ⟨b, 2, none⟩), .int .u64 re, .int .u64 w, .int .u64 4611686018427387903] A = some (v', A') ∧ (v' = .tuple #[.int .u64 (wantOf re w), .bool true] ∧ A' = A1) by
        obtain ⟨v', A', e, rfl, rfl⟩ := hs
        exact ⟨_, e, hF, hM⟩
      refine J.fn (fn := Try.f18) hp Try.func18 rfl (Nat.le_of_ble_eq_true rfl) ?_
      refine J.sr ?_
      refine EO.run 2 [0, 1, 2, 3, 8, 9] (S2 := [(0, .pointer (some ⟨b, 2, none⟩)), (1, .int .u64 re), (2, .int .u64 w), (3, .int .u64 4611686018427387903), (8, .int .u64 0), (9, .bool false)]) (A2 := A) rfl (by kernel_rfl) ?_
      refine EO.done rfl ?_
      refine J.sr ?_
      refine EO.run 3 [0, 1, 2, 3, 8, 9, 13] (S2 := [(0, .pointer (some ⟨b, 2, none⟩)), (1, .int .u64 re), (2, .int .u64 w), (3, .int .u64 4611686018427387903), (8, .int .u64 0), (9, .bool false), (13, .int .u64 (IntKind.wrap .u64 (re + w)))]) (A2 := A) rfl (by kernel_rfl) ?_
      refine EO.cast (S2 := [(0, .pointer (some ⟨b, 2, none⟩)), (1, .int .u64 re), (2, .int .u64 w), (3, .int .u64 4611686018427387903), (8, .int .u64 0), (9, .bool false), (13, .int .u64 (re + w))]) (by rw [wrap_u64 (x := re + w) (by omega) (by omega)]) ?_
      refine EO.run 5 [0, 1, 2, 3, 8, 9, 15] (S2 := [(0, .pointer (some ⟨b, 2, none⟩)), (1, .int .u64 re), (2, .int .u64 w), (3, .int .u64 4611686018427387903), (8, .int .u64 0), (9, .bool false), (15, .int .u64 (if (4611686018427387903 : Int) < (re + w) then 4611686018427387903 else re + w))]) (A2 := A) rfl (by kernel_rfl) ?_
      refine EO.cast (S2 := [(0, .pointer (some ⟨b, 2, none⟩)), (1, .int .u64 re), (2, .int .u64 w), (3, .int .u64 4611686018427387903), (8, .int .u64 0), (9, .bool false), (15, .int .u64 (wantOf re w))]) (by rfl) ?_
      refine EO.run 6 [0, 1, 2, 3, 8, 9, 10] (S2 := [(0, .pointer (some ⟨b, 2, none⟩)), (1, .int .u64 re), (2, .int .u64 w), (3, .int .u64 4611686018427387903), (8, .int .u64 0), (9, .bool false), (10, .int .u64 (wantOf re w))]) (A2 := A) rfl (by kernel_rfl) ?_
      refine EO.done rfl ?_
      refine J.seq ?_
      refine J.sr ?_
      refine EO.run 3 [0, 1, 2, 3, 8, 9, 10, 18] (S2 := [(0, .pointer (some ⟨b, 2, none⟩)), (1, .int .u64 re), (2, .int .u64 w), (3, .int .u64 4611686018427387903), (8, .int .u64 0), (9, .bool false), (10, .int .u64 (wantOf re w)), (18, .bool (decide (w > 4611686018427387903)))]) (A2 := A) rfl (by kernel_rfl) ?_
      have d1 : (decide (w > 4611686018427387903)) = false := decide_eq_false (by omega)
      rw [d1]
      refine EO.run 6 [0, 1, 2, 3, 8, 9, 10, 18, 19, 21] (S2 := [(0, .pointer (some ⟨b, 2, none⟩)), (1, .int .u64 re), (2, .int .u64 w), (3, .int .u64 4611686018427387903), (8, .int .u64 0), (9, .bool false), (10, .int .u64 (wantOf re w)), (18, .bool false), (19, .int .u64 (wantOf re w)), (21, .pointer (some ⟨b, 2, none⟩))]) (A2 := A) rfl (by kernel_rfl) ?_
      refine EO.load (ad := ⟨b, 2, none⟩) (w := .int .u64 rm) rfl rfl rfl (by kernel_rfl) (by kernel_rfl) (h.ld 2 _ rfl) ?_
      refine EO.run 10 [0, 1, 2, 3, 8, 9, 10, 25] (S2 := [(0, .pointer (some ⟨b, 2, none⟩)), (1, .int .u64 re), (2, .int .u64 w), (3, .int .u64 4611686018427387903), (8, .int .u64 0), (9, .bool false), (10, .int .u64 (wantOf re w)), (25, .bool (decide ((wantOf re w) ≤ rm)))]) (A2 := A) rfl (by kernel_rfl) ?_
      have d2 : (decide ((wantOf re w) ≤ rm)) = false := decide_eq_false hle
      rw [d2]
      refine EO.run 13 [0, 1, 2, 3, 8, 9, 10, 25, 26, 28] (S2 := [(0, .pointer (some ⟨b, 2, none⟩)), (1, .int .u64 re), (2, .int .u64 w), (3, .int .u64 4611686018427387903), (8, .int .u64 0), (9, .bool false), (10, .int .u64 (wantOf re w)), (25, .bool false), (26, .int .u64 (wantOf re w)), (28, .pointer (some ⟨b, 2, none⟩))]) (A2 := A) rfl (by kernel_rfl) ?_
      refine EO.load (ad := ⟨b, 2, none⟩) (w := .int .u64 rm) rfl rfl rfl (by kernel_rfl) (by kernel_rfl) (h.ld 2 _ rfl) ?_
      refine EO.run 15 [0, 1, 2, 3, 8, 9, 10, 25, 30] (S2 := [(0, .pointer (some ⟨b, 2, none⟩)), (1, .int .u64 re), (2, .int .u64 w), (3, .int .u64 4611686018427387903), (8, .int .u64 0), (9, .bool false), (10, .int .u64 (wantOf re w)), (25, .bool false), (30, .int .u64 (IntKind.wrap .u64 ((wantOf re w) - rm)))]) (A2 := A) rfl (by kernel_rfl) ?_
      refine EO.cast (S2 := [(0, .pointer (some ⟨b, 2, none⟩)), (1, .int .u64 re), (2, .int .u64 w), (3, .int .u64 4611686018427387903), (8, .int .u64 0), (9, .bool false), (10, .int .u64 (wantOf re w)), (25, .bool false), (30, .int .u64 (wantOf re w - rm))]) (by rw [wrap_u64 (x := wantOf re w - rm) (by omega) (by omega)]) ?_
      refine EO.run 17 [0, 1, 2, 3, 8, 9, 10, 25, 30, 32] (S2 := [(0, .pointer (some ⟨b, 2, none⟩)), (1, .int .u64 re), (2, .int .u64 w), (3, .int .u64 4611686018427387903), (8, .int .u64 0), (9, .bool false), (10, .int .u64 (wantOf re w)), (25, .bool false), (30, .int .u64 (wantOf re w - rm)), (32, .int .u64 (IntKind.wrap .u64 (Int.tdiv w 2)))]) (A2 := A) rfl (by kernel_rfl) ?_
      refine EO.cast (S2 := [(0, .pointer (some ⟨b, 2, none⟩)), (1, .int .u64 re), (2, .int .u64 w), (3, .int .u64 4611686018427387903), (8, .int .u64 0), (9, .bool false), (10, .int .u64 (wantOf re w)), (25, .bool false), (30, .int .u64 (wantOf re w - rm)), (32, .int .u64 (w / 2))]) (by rw [show IntKind.wrap .u64 (Int.tdiv w 2) = w / 2 from by rw [Int.tdiv_eq_ediv_of_nonneg hw.1, wrap_u64 (by omega) (by omega)]]) ?_
      refine EO.run 18 [0, 1, 2, 3, 8, 9, 10, 25, 30, 33] (S2 := [(0, .pointer (some ⟨b, 2, none⟩)), (1, .int .u64 re), (2, .int .u64 w), (3, .int .u64 4611686018427387903), (8, .int .u64 0), (9, .bool false), (10, .int .u64 (wantOf re w)), (25, .bool false), (30, .int .u64 (wantOf re w - rm)), (33, .int .u64 (IntKind.wrap .u64 ((w / 2) + 1)))]) (A2 := A) rfl (by kernel_rfl) ?_
      refine EO.cast (S2 := [(0, .pointer (some ⟨b, 2, none⟩)), (1, .int .u64 re), (2, .int .u64 w), (3, .int .u64 4611686018427387903), (8, .int .u64 0), (9, .bool false), (10, .int .u64 (wantOf re w)), (25, .bool false), (30, .int .u64 (wantOf re w - rm)), (33, .int .u64 (w / 2 + 1))]) (by rw [wrap_u64 (x := w / 2 + 1) (by omega) (by omega)]) ?_
      refine EO.run 20 [0, 1, 2, 3, 8, 9, 10, 35] (S2 := [(0, .pointer (some ⟨b, 2, none⟩)), (1, .int .u64 re), (2, .int .u64 w), (3, .int .u64 4611686018427387903), (8, .int .u64 0), (9, .bool false), (10, .int .u64 (wantOf re w)), (35, .bool (decide ((wantOf re w - rm) < (w / 2 + 1))))]) (A2 := A) rfl (by kernel_rfl) ?_
      refine EO.done rfl ?_
      have d3 : (decide ((wantOf re w - rm) < (w / 2 + 1))) = false := decide_eq_false hlt
      rw [d3]
      refine J.cond false (by kernel_rfl) (fun h => Bool.noConfusion h) (fun _ => ?_)
      refine J.skip ?_
      refine thenJ_n ?_
      refine J.sr ?_
      refine EO.run 3 [0, 1, 2, 3, 8, 9, 10, 35, 37, 38] (S2 := [(0, .pointer (some ⟨b, 2, none⟩)), (1, .int .u64 re), (2, .int .u64 w), (3, .int .u64 4611686018427387903), (8, .int .u64 0), (9, .bool false), (10, .int .u64 (wantOf re w)), (35, .bool false), (37, .int .u64 (wantOf re w)), (38, .pointer (some ⟨b, 2, none⟩))]) (A2 := A) rfl (by kernel_rfl) ?_
      refine EO.store (ad := ⟨b, 2, none⟩) (u := .int .u64 (wantOf re w)) (A1 := A1) rfl rfl rfl (by kernel_rfl) (by kernel_rfl) (by kernel_rfl) hst ?_
      refine EO.done rfl ?_
      refine J.sr ?_
      refine EO.run 3 [0, 1, 2, 3, 8, 9, 10, 35, 37, 38] (S2 := [(0, .pointer (some ⟨b, 2, none⟩)), (1, .int .u64 re), (2, .int .u64 w), (3, .int .u64 4611686018427387903), (8, .int .u64 (wantOf re w)), (9, .bool true), (10, .int .u64 (wantOf re w)), (35, .bool false), (37, .int .u64 (wantOf re w)), (38, .pointer (some ⟨b, 2, none⟩))]) (A2 := A1) rfl (by kernel_rfl) ?_
      refine EO.done rfl ?_
      refine J.ret ?_
      refine Ends_r (vs := [.int .u64 (wantOf re w), .bool true]) (by kernel_rfl) ?_
      exact ⟨rfl, rfl⟩

theorem f7_spec (hp : pre 7 = none) (hp18 : pre 18 = none) (hdr : ∀ {call ops t A r}, adraw Try.prog call ops t A = some r → dr call ops t A = some r) {b : Nat} {sm se rm ca re : Int} (h : Flow A b sm se rm ca re) (hnx : A.nx = none) (w : Int) (h0 : 0 ≤ re ∧ re < 9223372036854775808) (h1 : 0 ≤ rm ∧ rm < 9223372036854775808) (hw : 0 ≤ w ∧ w ≤ 1048576) :
    (¬ worth rm re w → acall Try.prog pre dr 100000 (m + 2) 7 [.pointer (some ⟨b, 0, none⟩), .int .u64 w] A = some (.tuple #[.int .u64 0, .bool false], A)) ∧
    (worth rm re w → ∃ A', acall Try.prog pre dr 100000 (m + 2) 7 [.pointer (some ⟨b, 0, none⟩), .int .u64 w] A = some (.tuple #[.int .u64 (wantOf re w), .bool true], A') ∧ Flow A' b sm se (wantOf re w) ca re ∧ AMod A b A') := by
  have e18 := f18_spec (pre := pre) (dr := dr) (m := m) hp18 h hnx w h0 h1 hw
  constructor
  · intro hwo
    have e8 := e18.1 hwo
    suffices hs : ∃ v' A', acall Try.prog pre dr 100000 (m + 1 + 1) 7 [.pointer (some ⟨b, 0, none⟩), .int .u64 w] A = some (v', A') ∧ (v' = .tuple #[.int .u64 0, .bool false] ∧ A' = A) by
      obtain ⟨v', A', e, rfl, rfl⟩ := hs
      exact e
    refine J.fn (fn := Try.f7) hp Try.func7 rfl (Nat.le_of_ble_eq_true rfl) ?_
    refine J.sr ?_
    refine EO.run 2 [0, 1, 4, 5] (S2 := [(0, .pointer (some ⟨b, 0, none⟩)), (1, .int .u64 w), (4, .int .u64 0), (5, .bool false)]) (A2 := A) rfl (by kernel_rfl) ?_
    refine EO.done rfl ?_
    refine J.seq ?_
    refine J.sr ?_
    refine EO.run 2 [0, 1, 4, 5, 7] (S2 := [(0, .pointer (some ⟨b, 0, none⟩)), (1, .int .u64 w), (4, .int .u64 0), (5, .bool false), (7, .bool false)]) (A2 := A) rfl (by kernel_rfl) ?_
    refine EO.done rfl ?_
    refine J.cond false (by kernel_rfl) (fun h => Bool.noConfusion h) (fun _ => ?_)
    refine J.skip ?_
    refine thenJ_n ?_
    refine J.seq ?_
    refine J.draw [A, A] (A1 := A) (S' := [(0, .pointer (some ⟨b, 0, none⟩)), (1, .int .u64 w), (4, .int .u64 0), (5, .bool false), (7, .bool false)]) (fun t r => hdr) (by kernel_rfl) rfl (by kernel_rfl) ?_ ?_
    ·
      refine DR.run 8 [0, 1, 4, 5, 7, 11, 15] (S2 := [(0, .pointer (some ⟨b, 0, none⟩)), (1, .int .u64 w), (4, .int .u64 0), (5, .bool false), (7, .bool false), (11, .pointer (some ⟨b, 2, none⟩)), (15, .pointer (some ⟨b, 4, none⟩))]) (A := A) rfl rfl (by kernel_rfl) ?_
      refine DR.load (ad := ⟨b, 4, none⟩) (v := .int .u64 re) (A := A) rfl rfl rfl rfl (by kernel_rfl) (by kernel_rfl) (beqV_int _ _) ?_ (Nat.le_of_ble_eq_true (by kernel_rfl)) ?_
      · intro k' A' h1 h2 h3
        rcases k' with _ | _ | k'
        · obtain rfl := Option.some.inj h3; exact (h).ld 4 _ rfl
        · rcases h2 with h2 | h2
          · cases h2
          · exact Bool.noConfusion (h2.symm.trans (show _ = false by kernel_rfl))
        · simp at h3
      refine DR.run 10 [0, 1, 4, 5, 7, 11, 16, 17] (S2 := [(0, .pointer (some ⟨b, 0, none⟩)), (1, .int .u64 w), (4, .int .u64 0), (5, .bool false), (7, .bool false), (11, .pointer (some ⟨b, 2, none⟩)), (16, .int .u64 re), (17, .int .u64 w)]) (A := A) rfl rfl (by kernel_rfl) ?_
      refine DR.eff (v := .tuple #[.int .u64 0, .bool false]) (A := A) (A1 := A) rfl rfl rfl rfl rfl (eop_call (f := 18) rfl rfl (by kernel_rfl) (by kernel_rfl) (e8)) ?_
      refine DR.run 15 [0, 1, 4, 5, 7] (S2 := [(0, .pointer (some ⟨b, 0, none⟩)), (1, .int .u64 w), (4, .int .u64 0), (5, .bool false), (7, .bool false)]) (A := A) rfl rfl (by kernel_rfl) ?_
      refine DR.weak [0, 1, 4, 5, 7] (S2 := [(0, .pointer (some ⟨b, 0, none⟩)), (1, .int .u64 w), (4, .int .u64 0), (5, .bool false), (7, .bool false)]) (by kernel_rfl) ?_
      exact DR.done rfl
    refine thenJ_n ?_
    refine J.ret ?_
    refine Ends_r (vs := [.int .u64 0, .bool false]) (by kernel_rfl) ?_
    exact ⟨rfl, rfl⟩
  · intro hwo
    obtain ⟨A1, e8, hF, hM⟩ := e18.2 hwo
    suffices hs : ∃ v' A', acall Try.prog pre dr 100000 (m + 1 + 1) 7 [.pointer (some ⟨b, 0, none⟩), .int .u64 w] A = some (v', A') ∧ (v' = .tuple #[.int .u64 (wantOf re w), .bool true] ∧ A' = A1) by
      obtain ⟨v', A', e, rfl, rfl⟩ := hs
      exact ⟨_, e, hF, hM⟩
    refine J.fn (fn := Try.f7) hp Try.func7 rfl (Nat.le_of_ble_eq_true rfl) ?_
    refine J.sr ?_
    refine EO.run 2 [0, 1, 4, 5] (S2 := [(0, .pointer (some ⟨b, 0, none⟩)), (1, .int .u64 w), (4, .int .u64 0), (5, .bool false)]) (A2 := A) rfl (by kernel_rfl) ?_
    refine EO.done rfl ?_
    refine J.seq ?_
    refine J.sr ?_
    refine EO.run 2 [0, 1, 4, 5, 7] (S2 := [(0, .pointer (some ⟨b, 0, none⟩)), (1, .int .u64 w), (4, .int .u64 0), (5, .bool false), (7, .bool false)]) (A2 := A) rfl (by kernel_rfl) ?_
    refine EO.done rfl ?_
    refine J.cond false (by kernel_rfl) (fun h => Bool.noConfusion h) (fun _ => ?_)
    refine J.skip ?_
    refine thenJ_n ?_
    refine J.seq ?_
    refine J.draw [A, A1] (A1 := A1) (S' := [(0, .pointer (some ⟨b, 0, none⟩)), (1, .int .u64 w), (4, .int .u64 (wantOf re w)), (5, .bool true), (7, .bool false)]) (fun t r => hdr) (by kernel_rfl) rfl (by kernel_rfl) ?_ ?_
    ·
      refine DR.run 8 [0, 1, 4, 5, 7, 11, 15] (S2 := [(0, .pointer (some ⟨b, 0, none⟩)), (1, .int .u64 w), (4, .int .u64 0), (5, .bool false), (7, .bool false), (11, .pointer (some ⟨b, 2, none⟩)), (15, .pointer (some ⟨b, 4, none⟩))]) (A := A) rfl rfl (by kernel_rfl) ?_
      refine DR.load (ad := ⟨b, 4, none⟩) (v := .int .u64 re) (A := A) rfl rfl rfl rfl (by kernel_rfl) (by kernel_rfl) (beqV_int _ _) ?_ (Nat.le_of_ble_eq_true (by kernel_rfl)) ?_
      · intro k' A' h1 h2 h3
        rcases k' with _ | _ | k'
        · obtain rfl := Option.some.inj h3; exact (h).ld 4 _ rfl
        · rcases h2 with h2 | h2
          · cases h2
          · exact Bool.noConfusion (h2.symm.trans (show _ = false by kernel_rfl))
        · simp at h3
      refine DR.run 10 [0, 1, 4, 5, 7, 11, 16, 17] (S2 := [(0, .pointer (some ⟨b, 0, none⟩)), (1, .int .u64 w), (4, .int .u64 0), (5, .bool false), (7, .bool false), (11, .pointer (some ⟨b, 2, none⟩)), (16, .int .u64 re), (17, .int .u64 w)]) (A := A) rfl rfl (by kernel_rfl) ?_
      refine DR.eff (v := .tuple #[.int .u64 (wantOf re w), .bool true]) (A := A) (A1 := A1) rfl rfl rfl rfl rfl (eop_call (f := 18) rfl rfl (by kernel_rfl) (by kernel_rfl) (e8)) ?_
      refine DR.run 15 [0, 1, 4, 5, 7] (S2 := [(0, .pointer (some ⟨b, 0, none⟩)), (1, .int .u64 w), (4, .int .u64 (wantOf re w)), (5, .bool true), (7, .bool false)]) (A := A1) rfl rfl (by kernel_rfl) ?_
      refine DR.weak [0, 1, 4, 5, 7] (S2 := [(0, .pointer (some ⟨b, 0, none⟩)), (1, .int .u64 w), (4, .int .u64 (wantOf re w)), (5, .bool true), (7, .bool false)]) (by kernel_rfl) ?_
      exact DR.done rfl
    refine thenJ_n ?_
    refine J.ret ?_
    refine Ends_r (vs := [.int .u64 (wantOf re w), .bool true]) (by kernel_rfl) ?_
    exact ⟨rfl, rfl⟩

def allowOf (sm n : Int) : Int := if mnV n > sm then mnV n else sm
theorem f8_spec (hp : pre 8 = none) {b : Nat} {sm se rm ca re : Int} (h : Flow A b sm se rm ca re) (hnx : A.nx = none) (n : Int) :
    ∃ A', acall Try.prog pre dr 100000 (m + 1) 8 [.pointer (some ⟨b, 0, none⟩), .int .u64 n] A = some (.tuple #[], A') ∧ Flow A' b (allowOf sm n) se rm ca re ∧ AMod A b A' := by
  obtain ⟨A1, hst, hF, hM⟩ := h.st0 hnx (allowOf sm n)
  suffices hs : ∃ v' A', acall Try.prog pre dr 100000 (m + 1) 8 [.pointer (some ⟨b, 0, none⟩), .int .u64 n] A = some (v', A') ∧ (v' = .tuple #[] ∧ A' = A1) by
    obtain ⟨v', A', e, rfl, rfl⟩ := hs
    exact ⟨_, e, hF, hM⟩
  refine J.fn (fn := Try.f8) hp Try.func8 rfl (Nat.le_of_ble_eq_true rfl) ?_
  refine J.sr ?_
  refine EO.run 2 [0, 1, 5] (S2 := [(0, .pointer (some ⟨b, 0, none⟩)), (1, .int .u64 n), (5, .bool true)]) (A2 := A) rfl (by kernel_rfl) ?_
  refine EO.done rfl ?_
  refine J.cond true (by kernel_rfl) (fun _ => ?_) (fun h => Bool.noConfusion h)
  refine J.region ?_
  refine EO.run 5 [0, 1, 5, 6, 10] (S2 := [(0, .pointer (some ⟨b, 0, none⟩)), (1, .int .u64 n), (5, .bool true), (6, .pointer (some ⟨b, 0, none⟩)), (10, .pointer (some ⟨b, 0, none⟩))]) (A2 := A) rfl (by kernel_rfl) ?_
  refine EO.load (ad := ⟨b, 0, none⟩) (w := .int .u64 sm) rfl rfl rfl (by kernel_rfl) (by kernel_rfl) (h.ld 0 _ rfl) ?_
  refine EO.run 8 [0, 1, 5, 6, 11, 13] (S2 := [(0, .pointer (some ⟨b, 0, none⟩)), (1, .int .u64 n), (5, .bool true), (6, .pointer (some ⟨b, 0, none⟩)), (11, .int .u64 sm), (13, .int .u64 (if (4611686018427387903 : Int) < n then 4611686018427387903 else n))]) (A2 := A) rfl (by kernel_rfl) ?_
  refine EO.cast (S2 := [(0, .pointer (some ⟨b, 0, none⟩)), (1, .int .u64 n), (5, .bool true), (6, .pointer (some ⟨b, 0, none⟩)), (11, .int .u64 sm), (13, .int .u64 (mnV n))]) (by rfl) ?_
  refine EO.run 9 [0, 1, 5, 6, 14] (S2 := [(0, .pointer (some ⟨b, 0, none⟩)), (1, .int .u64 n), (5, .bool true), (6, .pointer (some ⟨b, 0, none⟩)), (14, .int .u64 (if (mnV n : Int) > sm then mnV n else sm))]) (A2 := A) rfl (by kernel_rfl) ?_
  refine EO.cast (S2 := [(0, .pointer (some ⟨b, 0, none⟩)), (1, .int .u64 n), (5, .bool true), (6, .pointer (some ⟨b, 0, none⟩)), (14, .int .u64 (allowOf sm n))]) (by rfl) ?_
  refine EO.run 12 [0, 1, 5, 14, 17] (S2 := [(0, .pointer (some ⟨b, 0, none⟩)), (1, .int .u64 n), (5, .bool true), (14, .int .u64 (allowOf sm n)), (17, .pointer (some ⟨b, 0, none⟩))]) (A2 := A) rfl (by kernel_rfl) ?_
  refine EO.store (ad := ⟨b, 0, none⟩) (u := .int .u64 (allowOf sm n)) (A1 := A1) rfl rfl rfl (by kernel_rfl) (by kernel_rfl) (by kernel_rfl) hst ?_
  refine EO.done rfl ?_
  refine Ends_n (vs := []) (by kernel_rfl) ?_
  exact ⟨rfl, rfl⟩
end
end Go.Proofs.Ytmgadeebncpaoaa
