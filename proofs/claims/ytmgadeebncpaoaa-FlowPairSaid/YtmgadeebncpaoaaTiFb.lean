/- flow: Spend, Come, Use. -/
import Derived.Test.YtmgadeebncpaoaaTiFa
set_option autoImplicit false
set_option linter.unusedVariables false
set_option linter.unusedSimpArgs false
namespace Go.Proofs.Ytmgadeebncpaoaa
open Go.Abs Go.RowKit

section
variable {pre : FuncId → Option (List Value → AW → Option (Value × AW))} {dr : CallF → Array Oper → Array Value → AW → Option (Array Value × AW)} {A : AW} {m : Nat}

/-- The heap grew; of the blocks that were there b alone may be another one. -/
structure AUp (A : AW) (b : Nat) (A' : AW) : Prop where
  size : A.size ≤ A'.size
  nx : A'.nx = none
  get : ∀ c, c < A.size → c ≠ b → A'.get c = A.get c
theorem AUp.refl {b : Nat} (h : A.nx = none) : AUp A b A := ⟨Nat.le_refl _, h, fun _ _ _ => rfl⟩
theorem AUp.trans {B C : AW} {b : Nat} (h : AUp A b B) (k : AUp B b C) : AUp A b C :=
  ⟨Nat.le_trans h.size k.size, k.nx, fun c hc hb => by rw [k.get c (Nat.lt_of_lt_of_le hc h.size) hb, h.get c hc hb]⟩
theorem AUp.ofExt {B : AW} {b : Nat} (h : AExt A B) (hn : B.nx = none) : AUp A b B := ⟨h.size, hn, fun c hc _ => h.get c hc⟩
theorem AUp.ofMod {B : AW} {b : Nat} (h : AMod A b B) : AUp A b B := ⟨by rw [h.size]; exact Nat.le_refl _, h.nx, fun c _ hb => h.get c hb⟩
theorem Flow.up {B : AW} {b c : Nat} {sm se rm ca re : Int} (h : Flow A c sm se rm ca re) (k : AUp A b B) (hne : c ≠ b) : Flow B c sm se rm ca re := by
  obtain ⟨h1, rest, h2, h3⟩ := h
  exact ⟨Nat.lt_of_lt_of_le h1 k.size, rest, h2, by rw [k.get c h1 hne]; exact h3⟩
theorem Flow.ext {B : AW} {c : Nat} {sm se rm ca re : Int} (h : Flow A c sm se rm ca re) (k : AExt A B) : Flow B c sm se rm ca re := by
  obtain ⟨h1, rest, h2, h3⟩ := h
  exact ⟨Nat.lt_of_lt_of_le h1 k.size, rest, h2, by rw [k.get c h1]; exact h3⟩

theorem Flow.st0 {b : Nat} {sm se rm ca re : Int} (h : Flow A b sm se rm ca re) (hnx : A.nx = none) (y : Int) : ∃ A', astore Try.prog A 25 ⟨b, 0, none⟩ (.int .u64 y) = some A' ∧ Flow A' b y se rm ca re ∧ AMod A b A' := by
  obtain ⟨h1, rest, h2, h3⟩ := h
  refine ⟨A.set b (.cells (.int .u64 y :: .int .u64 se :: .int .u64 rm :: .int .u64 ca :: .int .u64 re :: rest) false false 1), ?_, ⟨h1, rest, h2, by rw [AW.get_set, if_pos rfl]⟩, AMod.set hnx _⟩
  have hs : prun Try.prog (sizeOf 25) = some 1 := by kernel_rfl
  have hc : (Value.int IntKind.u64 y).cells = #[.int .u64 y] := rfl
  unfold astore
  simp only [hs, hc, List.size_toArray, List.length_cons, List.length_nil]
  unfold AW.storeN
  simp only [h3]
  rfl

theorem Flow.st1 {b : Nat} {sm se rm ca re : Int} (h : Flow A b sm se rm ca re) (hnx : A.nx = none) (y : Int) : ∃ A', astore Try.prog A 25 ⟨b, 1, none⟩ (.int .u64 y) = some A' ∧ Flow A' b sm y rm ca re ∧ AMod A b A' := by
  obtain ⟨h1, rest, h2, h3⟩ := h
  refine ⟨A.set b (.cells (.int .u64 sm :: .int .u64 y :: .int .u64 rm :: .int .u64 ca :: .int .u64 re :: rest) false false 1), ?_, ⟨h1, rest, h2, by rw [AW.get_set, if_pos rfl]⟩, AMod.set hnx _⟩
  have hs : prun Try.prog (sizeOf 25) = some 1 := by kernel_rfl
  have hc : (Value.int IntKind.u64 y).cells = #[.int .u64 y] := rfl
  unfold astore
  simp only [hs, hc, List.size_toArray, List.length_cons, List.length_nil]
  unfold AW.storeN
  simp only [h3]
  rfl

theorem Flow.st2 {b : Nat} {sm se rm ca re : Int} (h : Flow A b sm se rm ca re) (hnx : A.nx = none) (y : Int) : ∃ A', astore Try.prog A 25 ⟨b, 2, none⟩ (.int .u64 y) = some A' ∧ Flow A' b sm se y ca re ∧ AMod A b A' := by
  obtain ⟨h1, rest, h2, h3⟩ := h
  refine ⟨A.set b (.cells (.int .u64 sm :: .int .u64 se :: .int .u64 y :: .int .u64 ca :: .int .u64 re :: rest) false false 1), ?_, ⟨h1, rest, h2, by rw [AW.get_set, if_pos rfl]⟩, AMod.set hnx _⟩
  have hs : prun Try.prog (sizeOf 25) = some 1 := by kernel_rfl
  have hc : (Value.int IntKind.u64 y).cells = #[.int .u64 y] := rfl
  unfold astore
  simp only [hs, hc, List.size_toArray, List.length_cons, List.length_nil]
  unfold AW.storeN
  simp only [h3]
  rfl

theorem Flow.st3 {b : Nat} {sm se rm ca re : Int} (h : Flow A b sm se rm ca re) (hnx : A.nx = none) (y : Int) : ∃ A', astore Try.prog A 25 ⟨b, 3, none⟩ (.int .u64 y) = some A' ∧ Flow A' b sm se rm y re ∧ AMod A b A' := by
  obtain ⟨h1, rest, h2, h3⟩ := h
  refine ⟨A.set b (.cells (.int .u64 sm :: .int .u64 se :: .int .u64 rm :: .int .u64 y :: .int .u64 re :: rest) false false 1), ?_, ⟨h1, rest, h2, by rw [AW.get_set, if_pos rfl]⟩, AMod.set hnx _⟩
  have hs : prun Try.prog (sizeOf 25) = some 1 := by kernel_rfl
  have hc : (Value.int IntKind.u64 y).cells = #[.int .u64 y] := rfl
  unfold astore
  simp only [hs, hc, List.size_toArray, List.length_cons, List.length_nil]
  unfold AW.storeN
  simp only [h3]
  rfl

theorem Flow.st4 {b : Nat} {sm se rm ca re : Int} (h : Flow A b sm se rm ca re) (hnx : A.nx = none) (y : Int) : ∃ A', astore Try.prog A 25 ⟨b, 4, none⟩ (.int .u64 y) = some A' ∧ Flow A' b sm se rm ca y ∧ AMod A b A' := by
  obtain ⟨h1, rest, h2, h3⟩ := h
  refine ⟨A.set b (.cells (.int .u64 sm :: .int .u64 se :: .int .u64 rm :: .int .u64 ca :: .int .u64 y :: rest) false false 1), ?_, ⟨h1, rest, h2, by rw [AW.get_set, if_pos rfl]⟩, AMod.set hnx _⟩
  have hs : prun Try.prog (sizeOf 25) = some 1 := by kernel_rfl
  have hc : (Value.int IntKind.u64 y).cells = #[.int .u64 y] := rfl
  unfold astore
  simp only [hs, hc, List.size_toArray, List.length_cons, List.length_nil]
  unfold AW.storeN
  simp only [h3]
  rfl


/-- Spend. -/
theorem f10_spec (hp : pre 10 = none) (hp9 : pre 9 = none) (hp19 : pre 19 = none) (hdr : ∀ {call ops t A r}, adraw Try.prog call ops t A = some r → dr call ops t A = some r) {b : Nat} {sm se rm ca re : Int} {vl : Value} {ns : List Int} (h : Flow A b sm se rm ca re) (hl : R64 A vl ns) (hlen : ns.length < 99999) (hnx : A.nx = none)
    (h0 : 0 ≤ sm ∧ sm < 9223372036854775808) (h1 : 0 ≤ se ∧ se < 9223372036854775808) :
    (sumOf ns > freshOf sm se → acall Try.prog pre dr 100000 (m + 2) 10 [.pointer (some ⟨b, 0, none⟩), vl] A = some (.int .i64 7, A)) ∧
    (¬ sumOf ns > freshOf sm se → ∃ A', acall Try.prog pre dr 100000 (m + 2) 10 [.pointer (some ⟨b, 0, none⟩), vl] A = some (.int .i64 0, A') ∧ Flow A' b sm (se + sumOf ns) rm ca re ∧ AMod A b A') := by
  have e19 := f19_spec (pre := pre) (dr := dr) (m := m) hp19 hl hlen
  have hsum := sum_le ns 0 (by omega) (by omega) (fun y hy => (hl.1 y hy).1)
  have hsum2 : 0 ≤ sumOf ns ∧ sumOf ns ≤ 4611686018427387903 := hsum
  have e9 := f9_spec (pre := pre) (dr := dr) (m := m) hp9 hdr h (by omega) (by omega)
  constructor
  · intro hbig
    suffices hs : ∃ v' A', acall Try.prog pre dr 100000 (m + 1 + 1) 10 [.pointer (some ⟨b, 0, none⟩), vl] A = some (v', A') ∧ (v' = .int .i64 7 ∧ A' = A) by
      obtain ⟨v', A', e, rfl, rfl⟩ := hs
      exact e
    refine J.fn (fn := Try.f10) hp Try.func10 rfl (Nat.le_of_ble_eq_true rfl) ?_
    refine J.sr ?_
    refine EO.run 1 [0, 1, 4] (S2 := [(0, .pointer (some ⟨b, 0, none⟩)), (1, vl), (4, .int .i64 0)]) (A2 := A) rfl (by kernel_rfl) ?_
    refine EO.done rfl ?_
    refine J.seq ?_
    refine J.block ?_
    refine J.sr ?_
    refine EO.run 3 [0, 1, 4, 5] (S2 := [(0, .pointer (some ⟨b, 0, none⟩)), (1, vl), (4, .int .i64 0), (5, .bool false)]) (A2 := A) rfl (by kernel_rfl) ?_
    refine EO.done rfl ?_
    refine J.cond false (by kernel_rfl) (fun h => Bool.noConfusion h) (fun _ => ?_)
    refine J.sr ?_
    refine EO.run 1 [0, 1, 4, 5, 9] (S2 := [(0, .pointer (some ⟨b, 0, none⟩)), (1, vl), (4, .int .i64 0), (5, .bool false), (9, vl)]) (A2 := A) rfl (by kernel_rfl) ?_
    refine EO.fcall (f := 19) (vs := [vl]) (v := .int .u64 (sumOf ns)) (A1 := A) rfl rfl rfl rfl (by kernel_rfl) (by kernel_rfl) (e19) ?_
    refine EO.run 3 [0, 1, 4, 5, 10, 11] (S2 := [(0, .pointer (some ⟨b, 0, none⟩)), (1, vl), (4, .int .i64 0), (5, .bool false), (10, .int .u64 (sumOf ns)), (11, .pointer (some ⟨b, 0, none⟩))]) (A2 := A) rfl (by kernel_rfl) ?_
    refine EO.fcall (f := 9) (vs := [.pointer (some ⟨b, 0, none⟩)]) (v := .int .u64 (freshOf sm se)) (A1 := A) rfl rfl rfl rfl (by kernel_rfl) (by kernel_rfl) (e9) ?_
    refine EO.run 6 [0, 1, 4, 5, 8] (S2 := [(0, .pointer (some ⟨b, 0, none⟩)), (1, vl), (4, .int .i64 0), (5, .bool false), (8, .bool (decide ((sumOf ns) > (freshOf sm se))))]) (A2 := A) rfl (by kernel_rfl) ?_
    refine EO.done rfl ?_
    have d1 : (decide ((sumOf ns) > (freshOf sm se))) = true := decide_eq_true hbig
    rw [d1]
    refine J.cond true (by kernel_rfl) (fun _ => ?_) (fun h => Bool.noConfusion h)
    refine J.sr ?_
    refine EO.run 1 [0, 1, 4, 5, 8] (S2 := [(0, .pointer (some ⟨b, 0, none⟩)), (1, vl), (4, .int .i64 7), (5, .bool false), (8, .bool true)]) (A2 := A) rfl (by kernel_rfl) ?_
    refine EO.done rfl ?_
    refine J.ret ?_
    refine blockQ_r ?_
    refine thenJ_r ?_
    refine Ends_r (vs := [.int .i64 7]) (by kernel_rfl) ?_
    exact ⟨rfl, rfl⟩
  · intro hbig
    obtain ⟨A1, hst, hF, hM⟩ := h.st1 hnx (se + sumOf ns)
    suffices hs : ∃ v' A', acall Try.prog pre dr 100000 (m + 1 + 1) 10 [.pointer (some ⟨b, 0, none⟩), vl] A = some (v', A') ∧ (v' = .int .i64 0 ∧ A' = A1) by
      obtain ⟨v', A', e, rfl, rfl⟩ := hs
      exact ⟨_, e, hF, hM⟩
    refine J.fn (fn := Try.f10) hp Try.func10 rfl (Nat.le_of_ble_eq_true rfl) ?_
    refine J.sr ?_
    refine EO.run 1 [0, 1, 4] (S2 := [(0, .pointer (some ⟨b, 0, none⟩)), (1, vl), (4, .int .i64 0)]) (A2 := A) rfl (by kernel_rfl) ?_
    refine EO.done rfl ?_
    refine J.seq ?_
    refine J.block ?_
    refine J.sr ?_
    refine EO.run 3 [0, 1, 4, 5] (S2 := [(0, .pointer (some ⟨b, 0, none⟩)), (1, vl), (4, .int .i64 0), (5, .bool false)]) (A2 := A) rfl (by kernel_rfl) ?_
    refine EO.done rfl ?_
    refine J.cond false (by kernel_rfl) (fun h => Bool.noConfusion h) (fun _ => ?_)
    refine J.sr ?_
    refine EO.run 1 [0, 1, 4, 5, 9] (S2 := [(0, .pointer (some ⟨b, 0, none⟩)), (1, vl), (4, .int .i64 0), (5, .bool false), (9, vl)]) (A2 := A) rfl (by kernel_rfl) ?_
    refine EO.fcall (f := 19) (vs := [vl]) (v := .int .u64 (sumOf ns)) (A1 := A) rfl rfl rfl rfl (by kernel_rfl) (by kernel_rfl) (e19) ?_
    refine EO.run 3 [0, 1, 4, 5, 10, 11] (S2 := [(0, .pointer (some ⟨b, 0, none⟩)), (1, vl), (4, .int .i64 0), (5, .bool false), (10, .int .u64 (sumOf ns)), (11, .pointer (some ⟨b, 0, none⟩))]) (A2 := A) rfl (by kernel_rfl) ?_
    refine EO.fcall (f := 9) (vs := [.pointer (some ⟨b, 0, none⟩)]) (v := .int .u64 (freshOf sm se)) (A1 := A) rfl rfl rfl rfl (by kernel_rfl) (by kernel_rfl) (e9) ?_
    refine EO.run 6 [0, 1, 4, 5, 8] (S2 := [(0, .pointer (some ⟨b, 0, none⟩)), (1, vl), (4, .int .i64 0), (5, .bool false), (8, .bool (decide ((sumOf ns) > (freshOf sm se))))]) (A2 := A) rfl (by kernel_rfl) ?_
    refine EO.done rfl ?_
    have d1 : (decide ((sumOf ns) > (freshOf sm se))) = false := decide_eq_false hbig
    rw [d1]
    refine J.cond false (by kernel_rfl) (fun h => Bool.noConfusion h) (fun _ => ?_)
    refine J.skip ?_
    refine blockQ_n ?_
    refine thenJ_n ?_
    refine J.seq ?_
    refine J.draw [A, A, A1] (A1 := A1) (S' := [(0, .pointer (some ⟨b, 0, none⟩)), (1, vl), (4, .int .i64 0), (5, .bool false), (8, .bool false)]) (fun t r => hdr) (by kernel_rfl) rfl (by kernel_rfl) ?_ ?_
    ·
      refine DR.run 4 [0, 1, 4, 5, 8, 14, 17] (S2 := [(0, .pointer (some ⟨b, 0, none⟩)), (1, vl), (4, .int .i64 0), (5, .bool false), (8, .bool false), (14, .pointer (some ⟨b, 0, none⟩)), (17, .pointer (some ⟨b, 1, none⟩))]) (A := A) rfl rfl (by kernel_rfl) ?_
      refine DR.load (ad := ⟨b, 1, none⟩) (v := .int .u64 se) (A := A) rfl rfl rfl rfl (by kernel_rfl) (by kernel_rfl) (beqV_int _ _) ?_ (Nat.le_of_ble_eq_true (by kernel_rfl)) ?_
      · intro k' A' h1 h2 h3
        rcases k' with _ | _ | _ | k'
        · obtain rfl := Option.some.inj h3; exact (h).ld 1 _ rfl
        · obtain rfl := Option.some.inj h3; exact (h).ld 1 _ rfl
        · rcases h2 with h2 | h2
          · cases h2
          · exact Bool.noConfusion (h2.symm.trans (show _ = false by kernel_rfl))
        · simp at h3
      refine DR.run 6 [0, 1, 4, 5, 8, 14, 18, 19] (S2 := [(0, .pointer (some ⟨b, 0, none⟩)), (1, vl), (4, .int .i64 0), (5, .bool false), (8, .bool false), (14, .pointer (some ⟨b, 0, none⟩)), (18, .int .u64 se), (19, vl)]) (A := A) rfl rfl (by kernel_rfl) ?_
      refine DR.eff (v := .int .u64 (sumOf ns)) (A := A) (A1 := A) rfl rfl rfl rfl rfl (eop_call (f := 19) rfl rfl (by kernel_rfl) (by kernel_rfl) (e19)) ?_
      refine DR.run 8 [0, 1, 4, 5, 8, 14, 21] (S2 := [(0, .pointer (some ⟨b, 0, none⟩)), (1, vl), (4, .int .i64 0), (5, .bool false), (8, .bool false), (14, .pointer (some ⟨b, 0, none⟩)), (21, .int .u64 (IntKind.wrap .u64 (se + (sumOf ns))))]) (A := A) rfl rfl (by kernel_rfl) ?_
      refine DR.cast (S2 := [(0, .pointer (some ⟨b, 0, none⟩)), (1, vl), (4, .int .i64 0), (5, .bool false), (8, .bool false), (14, .pointer (some ⟨b, 0, none⟩)), (21, .int .u64 (se + sumOf ns))]) (by rw [wrap_u64 (x := se + sumOf ns) (by omega) (by omega)]) ?_
      refine DR.run 11 [0, 1, 4, 5, 8, 21, 24] (S2 := [(0, .pointer (some ⟨b, 0, none⟩)), (1, vl), (4, .int .i64 0), (5, .bool false), (8, .bool false), (21, .int .u64 (se + sumOf ns)), (24, .pointer (some ⟨b, 1, none⟩))]) (A := A) rfl rfl (by kernel_rfl) ?_
      refine DR.eff (v := undef) (A := A) (A1 := A1) rfl rfl rfl rfl rfl (eop_store (ad := ⟨b, 1, none⟩) (u := .int .u64 (se + sumOf ns)) rfl (by kernel_rfl) (by kernel_rfl) (by kernel_rfl) hst) ?_
      refine DR.weak [0, 1, 4, 5, 8] (S2 := [(0, .pointer (some ⟨b, 0, none⟩)), (1, vl), (4, .int .i64 0), (5, .bool false), (8, .bool false)]) (by kernel_rfl) ?_
      exact DR.done rfl
    refine thenJ_n ?_
    refine J.sr ?_
    refine EO.run 1 [0, 1, 4, 5, 8] (S2 := [(0, .pointer (some ⟨b, 0, none⟩)), (1, vl), (4, .int .i64 0), (5, .bool false), (8, .bool false)]) (A2 := A1) rfl (by kernel_rfl) ?_
    refine EO.done rfl ?_
    refine J.ret ?_
    refine Ends_r (vs := [.int .i64 0]) (by kernel_rfl) ?_
    exact ⟨rfl, rfl⟩

/-- Come. -/
theorem f11_spec (hp : pre 11 = none) (hp9 : pre 9 = none) (hp19 : pre 19 = none) (hdr : ∀ {call ops t A r}, adraw Try.prog call ops t A = some r → dr call ops t A = some r) {b : Nat} {sm se rm ca re : Int} {vl : Value} {ns : List Int} (h : Flow A b sm se rm ca re) (hl : R64 A vl ns) (hlen : ns.length < 99999) (hnx : A.nx = none)
    (h0 : 0 ≤ rm ∧ rm < 9223372036854775808) (h1 : 0 ≤ ca ∧ ca < 9223372036854775808) :
    (sumOf ns > freshOf rm ca → acall Try.prog pre dr 100000 (m + 2) 11 [.pointer (some ⟨b, 0, none⟩), vl] A = some (.int .i64 7, A)) ∧
    (¬ sumOf ns > freshOf rm ca → ∃ A', acall Try.prog pre dr 100000 (m + 2) 11 [.pointer (some ⟨b, 0, none⟩), vl] A = some (.int .i64 0, A') ∧ Flow A' b sm se rm (ca + sumOf ns) re ∧ AMod A b A') := by
  have e19 := f19_spec (pre := pre) (dr := dr) (m := m) hp19 hl hlen
  have hsum := sum_le ns 0 (by omega) (by omega) (fun y hy => (hl.1 y hy).1)
  have hsum2 : 0 ≤ sumOf ns ∧ sumOf ns ≤ 4611686018427387903 := hsum
  constructor
  · intro hbig
    suffices hs : ∃ v' A', acall Try.prog pre dr 100000 (m + 1 + 1) 11 [.pointer (some ⟨b, 0, none⟩), vl] A = some (v', A') ∧ (v' = .int .i64 7 ∧ A' = A) by
      obtain ⟨v', A', e, rfl, rfl⟩ := hs
      exact e
    refine J.fn (fn := Try.f11) hp Try.func11 rfl (Nat.le_of_ble_eq_true rfl) ?_
    refine J.sr ?_
    refine EO.run 1 [0, 1, 4] (S2 := [(0, .pointer (some ⟨b, 0, none⟩)), (1, vl), (4, .int .i64 0)]) (A2 := A) rfl (by kernel_rfl) ?_
    refine EO.done rfl ?_
    refine J.seq ?_
    refine J.block ?_
    refine J.sr ?_
    refine EO.run 3 [0, 1, 4, 5] (S2 := [(0, .pointer (some ⟨b, 0, none⟩)), (1, vl), (4, .int .i64 0), (5, .bool false)]) (A2 := A) rfl (by kernel_rfl) ?_
    refine EO.done rfl ?_
    refine J.cond false (by kernel_rfl) (fun h => Bool.noConfusion h) (fun _ => ?_)
    refine J.seq ?_
    refine J.draw [A, A] (A1 := A) (S' := [(0, .pointer (some ⟨b, 0, none⟩)), (1, vl), (4, .int .i64 0), (5, .bool false), (8, .bool (decide ((sumOf ns) > (freshOf rm ca))))]) (fun t r => hdr) (by kernel_rfl) rfl (by kernel_rfl) ?_ ?_
    ·
      refine DR.run 1 [0, 1, 4, 5, 9] (S2 := [(0, .pointer (some ⟨b, 0, none⟩)), (1, vl), (4, .int .i64 0), (5, .bool false), (9, vl)]) (A := A) rfl rfl (by kernel_rfl) ?_
      refine DR.eff (v := .int .u64 (sumOf ns)) (A := A) (A1 := A) rfl rfl rfl rfl rfl (eop_call (f := 19) rfl rfl (by kernel_rfl) (by kernel_rfl) (e19)) ?_
      refine DR.run 6 [0, 1, 4, 5, 10, 14] (S2 := [(0, .pointer (some ⟨b, 0, none⟩)), (1, vl), (4, .int .i64 0), (5, .bool false), (10, .int .u64 (sumOf ns)), (14, .pointer (some ⟨b, 2, none⟩))]) (A := A) rfl rfl (by kernel_rfl) ?_
      refine DR.load (ad := ⟨b, 2, none⟩) (v := .int .u64 rm) (A := A) rfl rfl rfl rfl (by kernel_rfl) (by kernel_rfl) (beqV_int _ _) ?_ (Nat.le_of_ble_eq_true (by kernel_rfl)) ?_
      · intro k' A' h1 h2 h3
        rcases k' with _ | _ | k'
        · obtain rfl := Option.some.inj h3; exact (h).ld 2 _ rfl
        · obtain rfl := Option.some.inj h3; exact (h).ld 2 _ rfl
        · simp at h3
      refine DR.run 11 [0, 1, 4, 5, 10, 15, 19] (S2 := [(0, .pointer (some ⟨b, 0, none⟩)), (1, vl), (4, .int .i64 0), (5, .bool false), (10, .int .u64 (sumOf ns)), (15, .int .u64 rm), (19, .pointer (some ⟨b, 3, none⟩))]) (A := A) rfl rfl (by kernel_rfl) ?_
      refine DR.load (ad := ⟨b, 3, none⟩) (v := .int .u64 ca) (A := A) rfl rfl rfl rfl (by kernel_rfl) (by kernel_rfl) (beqV_int _ _) ?_ (Nat.le_of_ble_eq_true (by kernel_rfl)) ?_
      · intro k' A' h1 h2 h3
        rcases k' with _ | _ | k'
        · obtain rfl := Option.some.inj h3; exact (h).ld 3 _ rfl
        · obtain rfl := Option.some.inj h3; exact (h).ld 3 _ rfl
        · simp at h3
      refine DR.run 17 [0, 1, 4, 5, 10, 21, 25] (S2 := [(0, .pointer (some ⟨b, 0, none⟩)), (1, vl), (4, .int .i64 0), (5, .bool false), (10, .int .u64 (sumOf ns)), (21, .int .u64 (if (ca : Int) > rm then ca else rm)), (25, .pointer (some ⟨b, 3, none⟩))]) (A := A) rfl rfl (by kernel_rfl) ?_
      refine DR.load (ad := ⟨b, 3, none⟩) (v := .int .u64 ca) (A := A) rfl rfl rfl rfl (by kernel_rfl) (by kernel_rfl) (beqV_int _ _) ?_ (Nat.le_of_ble_eq_true (by kernel_rfl)) ?_
      · intro k' A' h1 h2 h3
        rcases k' with _ | _ | k'
        · obtain rfl := Option.some.inj h3; exact (h).ld 3 _ rfl
        · obtain rfl := Option.some.inj h3; exact (h).ld 3 _ rfl
        · simp at h3
      refine DR.run 19 [0, 1, 4, 5, 10, 27] (S2 := [(0, .pointer (some ⟨b, 0, none⟩)), (1, vl), (4, .int .i64 0), (5, .bool false), (10, .int .u64 (sumOf ns)), (27, .int .u64 (IntKind.wrap .u64 ((if (ca : Int) > rm then ca else rm) - ca)))]) (A := A) rfl rfl (by kernel_rfl) ?_
      refine DR.cast (S2 := [(0, .pointer (some ⟨b, 0, none⟩)), (1, vl), (4, .int .i64 0), (5, .bool false), (10, .int .u64 (sumOf ns)), (27, .int .u64 (freshOf rm ca))]) (by rw [show (IntKind.wrap .u64 ((if (ca : Int) > rm then ca else rm) - ca) : Int) = freshOf rm ca from by rw [wrap_u64 (by split <;> omega) (by split <;> omega)]; rfl]) ?_
      refine DR.run 21 [0, 1, 4, 5, 8] (S2 := [(0, .pointer (some ⟨b, 0, none⟩)), (1, vl), (4, .int .i64 0), (5, .bool false), (8, .bool (decide ((sumOf ns) > (freshOf rm ca))))]) (A := A) rfl rfl (by kernel_rfl) ?_
      refine DR.weak [0, 1, 4, 5, 8] (S2 := [(0, .pointer (some ⟨b, 0, none⟩)), (1, vl), (4, .int .i64 0), (5, .bool false), (8, .bool (decide ((sumOf ns) > (freshOf rm ca))))]) (by kernel_rfl) ?_
      exact DR.done rfl
    refine thenJ_n ?_
    have d1 : (decide ((sumOf ns) > (freshOf rm ca))) = true := decide_eq_true hbig
    rw [d1]
    refine J.cond true (by kernel_rfl) (fun _ => ?_) (fun h => Bool.noConfusion h)
    refine J.sr ?_
    refine EO.run 1 [0, 1, 4, 5, 8] (S2 := [(0, .pointer (some ⟨b, 0, none⟩)), (1, vl), (4, .int .i64 7), (5, .bool false), (8, .bool true)]) (A2 := A) rfl (by kernel_rfl) ?_
    refine EO.done rfl ?_
    refine J.ret ?_
    refine blockQ_r ?_
    refine thenJ_r ?_
    refine Ends_r (vs := [.int .i64 7]) (by kernel_rfl) ?_
    exact ⟨rfl, rfl⟩
  · intro hbig
    obtain ⟨A1, hst, hF, hM⟩ := h.st3 hnx (ca + sumOf ns)
    suffices hs : ∃ v' A', acall Try.prog pre dr 100000 (m + 1 + 1) 11 [.pointer (some ⟨b, 0, none⟩), vl] A = some (v', A') ∧ (v' = .int .i64 0 ∧ A' = A1) by
      obtain ⟨v', A', e, rfl, rfl⟩ := hs
      exact ⟨_, e, hF, hM⟩
    refine J.fn (fn := Try.f11) hp Try.func11 rfl (Nat.le_of_ble_eq_true rfl) ?_
    refine J.sr ?_
    refine EO.run 1 [0, 1, 4] (S2 := [(0, .pointer (some ⟨b, 0, none⟩)), (1, vl), (4, .int .i64 0)]) (A2 := A) rfl (by kernel_rfl) ?_
    refine EO.done rfl ?_
    refine J.seq ?_
    refine J.block ?_
    refine J.sr ?_
    refine EO.run 3 [0, 1, 4, 5] (S2 := [(0, .pointer (some ⟨b, 0, none⟩)), (1, vl), (4, .int .i64 0), (5, .bool false)]) (A2 := A) rfl (by kernel_rfl) ?_
    refine EO.done rfl ?_
    refine J.cond false (by kernel_rfl) (fun h => Bool.noConfusion h) (fun _ => ?_)
    refine J.seq ?_
    refine J.draw [A, A] (A1 := A) (S' := [(0, .pointer (some ⟨b, 0, none⟩)), (1, vl), (4, .int .i64 0), (5, .bool false), (8, .bool (decide ((sumOf ns) > (freshOf rm ca))))]) (fun t r => hdr) (by kernel_rfl) rfl (by kernel_rfl) ?_ ?_
    ·
      refine DR.run 1 [0, 1, 4, 5, 9] (S2 := [(0, .pointer (some ⟨b, 0, none⟩)), (1, vl), (4, .int .i64 0), (5, .bool false), (9, vl)]) (A := A) rfl rfl (by kernel_rfl) ?_
      refine DR.eff (v := .int .u64 (sumOf ns)) (A := A) (A1 := A) rfl rfl rfl rfl rfl (eop_call (f := 19) rfl rfl (by kernel_rfl) (by kernel_rfl) (e19)) ?_
      refine DR.run 6 [0, 1, 4, 5, 10, 14] (S2 := [(0, .pointer (some ⟨b, 0, none⟩)), (1, vl), (4, .int .i64 0), (5, .bool false), (10, .int .u64 (sumOf ns)), (14, .pointer (some ⟨b, 2, none⟩))]) (A := A) rfl rfl (by kernel_rfl) ?_
      refine DR.load (ad := ⟨b, 2, none⟩) (v := .int .u64 rm) (A := A) rfl rfl rfl rfl (by kernel_rfl) (by kernel_rfl) (beqV_int _ _) ?_ (Nat.le_of_ble_eq_true (by kernel_rfl)) ?_
      · intro k' A' h1 h2 h3
        rcases k' with _ | _ | k'
        · obtain rfl := Option.some.inj h3; exact (h).ld 2 _ rfl
        · obtain rfl := Option.some.inj h3; exact (h).ld 2 _ rfl
        · simp at h3
      refine DR.run 11 [0, 1, 4, 5, 10, 15, 19] (S2 := [(0, .pointer (some ⟨b, 0, none⟩)), (1, vl), (4, .int .i64 0), (5, .bool false), (10, .int .u64 (sumOf ns)), (15, .int .u64 rm), (19, .pointer (some ⟨b, 3, none⟩))]) (A := A) rfl rfl (by kernel_rfl) ?_
      refine DR.load (ad := ⟨b, 3, none⟩) (v := .int .u64 ca) (A := A) rfl rfl rfl rfl (by kernel_rfl) (by kernel_rfl) (beqV_int _ _) ?_ (Nat.le_of_ble_eq_true (by kernel_rfl)) ?_
      · intro k' A' h1 h2 h3
        rcases k' with _ | _ | k'
        · obtain rfl := Option.some.inj h3; exact (h).ld 3 _ rfl
        · obtain rfl := Option.some.inj h3; exact (h).ld 3 _ rfl
        · simp at h3
      refine DR.run 17 [0, 1, 4, 5, 10, 21, 25] (S2 := [(0, .pointer (some ⟨b, 0, none⟩)), (1, vl), (4, .int .i64 0), (5, .bool false), (10, .int .u64 (sumOf ns)), (21, .int .u64 (if (ca : Int) > rm then ca else rm)), (25, .pointer (some ⟨b, 3, none⟩))]) (A := A) rfl rfl (by kernel_rfl) ?_
      refine DR.load (ad := ⟨b, 3, none⟩) (v := .int .u64 ca) (A := A) rfl rfl rfl rfl (by kernel_rfl) (by kernel_rfl) (beqV_int _ _) ?_ (Nat.le_of_ble_eq_true (by kernel_rfl)) ?_
      · intro k' A' h1 h2 h3
        rcases k' with _ | _ | k'
        · obtain rfl := Option.some.inj h3; exact (h).ld 3 _ rfl
        · obtain rfl := Option.some.inj h3; exact (h).ld 3 _ rfl
        · simp at h3
      refine DR.run 19 [0, 1, 4, 5, 10, 27] (S2 := [(0, .pointer (some ⟨b, 0, none⟩)), (1, vl), (4, .int .i64 0), (5, .bool false), (10, .int .u64 (sumOf ns)), (27, .int .u64 (IntKind.wrap .u64 ((if (ca : Int) > rm then ca else rm) - ca)))]) (A := A) rfl rfl (by kernel_rfl) ?_
      refine DR.cast (S2 := [(0, .pointer (some ⟨b, 0, none⟩)), (1, vl), (4, .int .i64 0), (5, .bool false), (10, .int .u64 (sumOf ns)), (27, .int .u64 (freshOf rm ca))]) (by rw [show (IntKind.wrap .u64 ((if (ca : Int) > rm then ca else rm) - ca) : Int) = freshOf rm ca from by rw [wrap_u64 (by split <;> omega) (by split <;> omega)]; rfl]) ?_
      refine DR.run 21 [0, 1, 4, 5, 8] (S2 := [(0, .pointer (some ⟨b, 0, none⟩)), (1, vl), (4, .int .i64 0), (5, .bool false), (8, .bool (decide ((sumOf ns) > (freshOf rm ca))))]) (A := A) rfl rfl (by kernel_rfl) ?_
      refine DR.weak [0, 1, 4, 5, 8] (S2 := [(0, .pointer (some ⟨b, 0, none⟩)), (1, vl), (4, .int .i64 0), (5, .bool false), (8, .bool (decide ((sumOf ns) > (freshOf rm ca))))]) (by kernel_rfl) ?_
      exact DR.done rfl
    refine thenJ_n ?_
    have d1 : (decide ((sumOf ns) > (freshOf rm ca))) = false := decide_eq_false hbig
    rw [d1]
    refine J.cond false (by kernel_rfl) (fun h => Bool.noConfusion h) (fun _ => ?_)
    refine J.skip ?_
    refine blockQ_n ?_
    refine thenJ_n ?_
    refine J.seq ?_
    refine J.draw [A, A, A1] (A1 := A1) (S' := [(0, .pointer (some ⟨b, 0, none⟩)), (1, vl), (4, .int .i64 0), (5, .bool false), (8, .bool false)]) (fun t r => hdr) (by kernel_rfl) rfl (by kernel_rfl) ?_ ?_
    ·
      refine DR.run 4 [0, 1, 4, 5, 8, 29, 32] (S2 := [(0, .pointer (some ⟨b, 0, none⟩)), (1, vl), (4, .int .i64 0), (5, .bool false), (8, .bool false), (29, .pointer (some ⟨b, 0, none⟩)), (32, .pointer (some ⟨b, 3, none⟩))]) (A := A) rfl rfl (by kernel_rfl) ?_
      refine DR.load (ad := ⟨b, 3, none⟩) (v := .int .u64 ca) (A := A) rfl rfl rfl rfl (by kernel_rfl) (by kernel_rfl) (beqV_int _ _) ?_ (Nat.le_of_ble_eq_true (by kernel_rfl)) ?_
      · intro k' A' h1 h2 h3
        rcases k' with _ | _ | _ | k'
        · obtain rfl := Option.some.inj h3; exact (h).ld 3 _ rfl
        · obtain rfl := Option.some.inj h3; exact (h).ld 3 _ rfl
        · rcases h2 with h2 | h2
          · cases h2
          · exact Bool.noConfusion (h2.symm.trans (show _ = false by kernel_rfl))
        · simp at h3
      refine DR.run 6 [0, 1, 4, 5, 8, 29, 33, 34] (S2 := [(0, .pointer (some ⟨b, 0, none⟩)), (1, vl), (4, .int .i64 0), (5, .bool false), (8, .bool false), (29, .pointer (some ⟨b, 0, none⟩)), (33, .int .u64 ca), (34, vl)]) (A := A) rfl rfl (by kernel_rfl) ?_
      refine DR.eff (v := .int .u64 (sumOf ns)) (A := A) (A1 := A) rfl rfl rfl rfl rfl (eop_call (f := 19) rfl rfl (by kernel_rfl) (by kernel_rfl) (e19)) ?_
      refine DR.run 8 [0, 1, 4, 5, 8, 29, 36] (S2 := [(0, .pointer (some ⟨b, 0, none⟩)), (1, vl), (4, .int .i64 0), (5, .bool false), (8, .bool false), (29, .pointer (some ⟨b, 0, none⟩)), (36, .int .u64 (IntKind.wrap .u64 (ca + (sumOf ns))))]) (A := A) rfl rfl (by kernel_rfl) ?_
      refine DR.cast (S2 := [(0, .pointer (some ⟨b, 0, none⟩)), (1, vl), (4, .int .i64 0), (5, .bool false), (8, .bool false), (29, .pointer (some ⟨b, 0, none⟩)), (36, .int .u64 (ca + sumOf ns))]) (by rw [wrap_u64 (x := ca + sumOf ns) (by omega) (by omega)]) ?_
      refine DR.run 11 [0, 1, 4, 5, 8, 36, 39] (S2 := [(0, .pointer (some ⟨b, 0, none⟩)), (1, vl), (4, .int .i64 0), (5, .bool false), (8, .bool false), (36, .int .u64 (ca + sumOf ns)), (39, .pointer (some ⟨b, 3, none⟩))]) (A := A) rfl rfl (by kernel_rfl) ?_
      refine DR.eff (v := undef) (A := A) (A1 := A1) rfl rfl rfl rfl rfl (eop_store (ad := ⟨b, 3, none⟩) (u := .int .u64 (ca + sumOf ns)) rfl (by kernel_rfl) (by kernel_rfl) (by kernel_rfl) hst) ?_
      refine DR.weak [0, 1, 4, 5, 8] (S2 := [(0, .pointer (some ⟨b, 0, none⟩)), (1, vl), (4, .int .i64 0), (5, .bool false), (8, .bool false)]) (by kernel_rfl) ?_
      exact DR.done rfl
    refine thenJ_n ?_
    refine J.sr ?_
    refine EO.run 1 [0, 1, 4, 5, 8] (S2 := [(0, .pointer (some ⟨b, 0, none⟩)), (1, vl), (4, .int .i64 0), (5, .bool false), (8, .bool false)]) (A2 := A1) rfl (by kernel_rfl) ?_
    refine EO.done rfl ?_
    refine J.ret ?_
    refine Ends_r (vs := [.int .i64 0]) (by kernel_rfl) ?_
    exact ⟨rfl, rfl⟩
end
end Go.Proofs.Ytmgadeebncpaoaa
