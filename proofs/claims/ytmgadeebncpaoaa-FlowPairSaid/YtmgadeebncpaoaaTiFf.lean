/- flow: the pair's state; what is granted. -/
import Derived.Test.YtmgadeebncpaoaaTiFe
set_option autoImplicit false
set_option linter.unusedVariables false
set_option linter.unusedSimpArgs false
namespace Go.Proofs.Ytmgadeebncpaoaa
open Go.Abs Go.RowKit

section
variable {pre : FuncId → Option (List Value → AW → Option (Value × AW))} {dr : CallF → Array Oper → Array Value → AW → Option (Array Value × AW)} {A : AW} {m : Nat}

/-- The pair: fa sends, fb receives; b7 holds the window, b8 and b9 where they are. -/
structure Two (A : AW) (b7 fa fb b8 b9 : Nat) (w sm se rm ca re : Int) : Prop where
  nx : A.nx = none
  ne : fa ≠ fb ∧ b7 ≠ fa ∧ b7 ≠ fb ∧ b8 ≠ fa ∧ b8 ≠ fb ∧ b9 ≠ fa ∧ b9 ≠ fb
  lt : b7 < A.size ∧ b8 < A.size ∧ b9 < A.size
  c7 : A.get b7 = .cells [.int .u64 w] false false 1
  c8 : A.get b8 = .cells [.pointer (some ⟨fa, 0, none⟩)] false false 1
  c9 : A.get b9 = .cells [.pointer (some ⟨fb, 0, none⟩)] false false 1
  FA : Flow A fa sm se 0 0 0
  FB : Flow A fb 0 0 rm ca re

variable {b7 fa fb b8 b9 : Nat} {w sm se rm ca re : Int}

theorem Two.upA (h : Two A b7 fa fb b8 b9 w sm se rm ca re) {A' : AW} {sm' se' : Int} (k : AUp A fa A') (hF : Flow A' fa sm' se' 0 0 0) : Two A' b7 fa fb b8 b9 w sm' se' rm ca re := by
  obtain ⟨h1, ⟨n1, n2, n3, n4, n5, n6, n7⟩, ⟨l1, l2, l3⟩, h4, h5, h6, h7, h8⟩ := h
  have hs := k.size
  exact ⟨k.nx, ⟨n1, n2, n3, n4, n5, n6, n7⟩, ⟨by omega, by omega, by omega⟩, by rw [k.get _ l1 n2]; exact h4, by rw [k.get _ l2 n4]; exact h5, by rw [k.get _ l3 n6]; exact h6, hF, h8.up k (Ne.symm n1)⟩
theorem Two.upB (h : Two A b7 fa fb b8 b9 w sm se rm ca re) {A' : AW} {rm' ca' re' : Int} (k : AUp A fb A') (hF : Flow A' fb 0 0 rm' ca' re') : Two A' b7 fa fb b8 b9 w sm se rm' ca' re' := by
  obtain ⟨h1, ⟨n1, n2, n3, n4, n5, n6, n7⟩, ⟨l1, l2, l3⟩, h4, h5, h6, h7, h8⟩ := h
  have hs := k.size
  exact ⟨k.nx, ⟨n1, n2, n3, n4, n5, n6, n7⟩, ⟨by omega, by omega, by omega⟩, by rw [k.get _ l1 n3]; exact h4, by rw [k.get _ l2 n5]; exact h5, by rw [k.get _ l3 n7]; exact h6, h7.up k n1, hF⟩
theorem Two.ext (h : Two A b7 fa fb b8 b9 w sm se rm ca re) {A' : AW} (k : AExt A A') : Two A' b7 fa fb b8 b9 w sm se rm ca re := by
  obtain ⟨h1, h2, ⟨l1, l2, l3⟩, h4, h5, h6, h7, h8⟩ := h
  have hs := k.size
  exact ⟨k.nx h1, h2, ⟨by omega, by omega, by omega⟩, by rw [k.get _ l1]; exact h4, by rw [k.get _ l2]; exact h5, by rw [k.get _ l3]; exact h6, h7.ext k, h8.ext k⟩

/-- Blocks that are neither are as they were. -/
structure AUp2 (A : AW) (fa fb : Nat) (A' : AW) : Prop where
  size : A.size ≤ A'.size
  nx : A'.nx = none
  get : ∀ c, c < A.size → c ≠ fa → c ≠ fb → A'.get c = A.get c
theorem AUp.two1 {B : AW} (h : AUp A fa B) : AUp2 A fa fb B := ⟨h.size, h.nx, fun c hc h1 _ => h.get c hc h1⟩
theorem AUp.two2 {B : AW} (h : AUp A fb B) : AUp2 A fa fb B := ⟨h.size, h.nx, fun c hc _ h2 => h.get c hc h2⟩
theorem AUp2.trans {B C : AW} (h : AUp2 A fa fb B) (k : AUp2 B fa fb C) : AUp2 A fa fb C :=
  ⟨Nat.le_trans h.size k.size, k.nx, fun c hc h1 h2 => by rw [k.get c (Nat.lt_of_lt_of_le hc h.size) h1 h2, h.get c hc h1 h2]⟩

theorem f6_spec (hp : pre 6 = none) (hp7 : pre 7 = none) (hp8 : pre 8 = none) (hp18 : pre 18 = none) (hdr : ∀ {call ops t A r}, adraw Try.prog call ops t A = some r → dr call ops t A = some r) (h : Two A b7 fa fb b8 b9 w sm se rm ca re) (h0 : 0 ≤ re ∧ re < 9223372036854775808) (h1 : 0 ≤ rm ∧ rm < 9223372036854775808) (hw : 0 ≤ w ∧ w ≤ 1048576) :
    (¬ worth rm re w → acall Try.prog pre dr 100000 (m + 3) 6 [.pointer (some ⟨b9, 0, none⟩), .pointer (some ⟨b7, 0, none⟩), .pointer (some ⟨b8, 0, none⟩)] A = some (.tuple #[], A)) ∧
    (worth rm re w → ∃ A', acall Try.prog pre dr 100000 (m + 3) 6 [.pointer (some ⟨b9, 0, none⟩), .pointer (some ⟨b7, 0, none⟩), .pointer (some ⟨b8, 0, none⟩)] A = some (.tuple #[], A') ∧ Two A' b7 fa fb b8 b9 w (allowOf sm (wantOf re w)) se (wantOf re w) ca re ∧ AUp2 A fa fb A') := by
  have e7 := f7_spec (pre := pre) (dr := dr) (m := m) hp7 hp18 hdr h.FB h.nx w h0 h1 hw
  have l9 : ∀ {B : AW}, B.get b9 = A.get b9 → aload Try.prog B 26 ⟨b9, 0, none⟩ = some (.pointer (some ⟨fb, 0, none⟩)) := fun hq => aload_one (by kernel_rfl) (hq.trans h.c9) rfl
  have l7 : aload Try.prog A 25 ⟨b7, 0, none⟩ = some (.int .u64 w) := aload_one (by kernel_rfl) h.c7 rfl
  constructor
  · intro hwo
    have e8 := e7.1 hwo
    suffices hs : ∃ v' A', acall Try.prog pre dr 100000 (m + 2 + 1) 6 [.pointer (some ⟨b9, 0, none⟩), .pointer (some ⟨b7, 0, none⟩), .pointer (some ⟨b8, 0, none⟩)] A = some (v', A') ∧ (v' = .tuple #[] ∧ A' = A) by
      obtain ⟨v', A', e, rfl, rfl⟩ := hs
      exact e
    refine J.fn (fn := Try.f6) hp Try.func6 rfl (Nat.le_of_ble_eq_true rfl) ?_
    refine J.sr ?_
    refine EO.load (ad := ⟨b9, 0, none⟩) (w := .pointer (some ⟨fb, 0, none⟩)) rfl rfl rfl (by kernel_rfl) (by kernel_rfl) (l9 rfl) ?_
    refine EO.load (ad := ⟨b7, 0, none⟩) (w := .int .u64 w) rfl rfl rfl (by kernel_rfl) (by kernel_rfl) (l7) ?_
    refine EO.fcall (f := 7) (vs := [.pointer (some ⟨fb, 0, none⟩), .int .u64 w]) (v := .tuple #[.int .u64 0, .bool false]) (A1 := A) rfl rfl rfl rfl (by kernel_rfl) (by kernel_rfl) (e8) ?_
    refine EO.run 8 [0, 1, 2, 3, 4] (S2 := [(0, .pointer (some ⟨b9, 0, none⟩)), (1, .pointer (some ⟨b7, 0, none⟩)), (2, .pointer (some ⟨b8, 0, none⟩)), (3, .int .u64 0), (4, .bool false)]) (A2 := A) rfl (by kernel_rfl) ?_
    refine EO.done rfl ?_
    refine J.sr ?_
    refine EO.run 1 [0, 1, 2, 3, 4, 11] (S2 := [(0, .pointer (some ⟨b9, 0, none⟩)), (1, .pointer (some ⟨b7, 0, none⟩)), (2, .pointer (some ⟨b8, 0, none⟩)), (3, .int .u64 0), (4, .bool false), (11, .bool false)]) (A2 := A) rfl (by kernel_rfl) ?_
    refine EO.done rfl ?_
    refine J.cond false (by kernel_rfl) (fun h => Bool.noConfusion h) (fun _ => ?_)
    refine J.skip ?_
    refine Ends_n (vs := []) (by kernel_rfl) ?_
    exact ⟨rfl, rfl⟩
  · intro hwo
    obtain ⟨A1, e8, hF, hM⟩ := e7.2 hwo
    have hT := h.upB (AUp.ofMod hM) hF
    obtain ⟨A2, e9, hF2, hM2⟩ := f8_spec (pre := pre) (dr := dr) (m := m + 1) hp8 hT.FA hT.nx (wantOf re w)
    have l8 : aload Try.prog A1 26 ⟨b8, 0, none⟩ = some (.pointer (some ⟨fa, 0, none⟩)) := aload_one (by kernel_rfl) hT.c8 rfl
    suffices hs : ∃ v' A', acall Try.prog pre dr 100000 (m + 2 + 1) 6 [.pointer (some ⟨b9, 0, none⟩), .pointer (some ⟨b7, 0, none⟩), .pointer (some ⟨b8, 0, none⟩)] A = some (v', A') ∧ (v' = .tuple #[] ∧ A' = A2) by
      obtain ⟨v', A', e, rfl, rfl⟩ := hs
      exact ⟨_, e, hT.upA (AUp.ofMod hM2) hF2, ((AUp.ofMod hM).two2).trans ((AUp.ofMod hM2).two1)⟩
    refine J.fn (fn := Try.f6) hp Try.func6 rfl (Nat.le_of_ble_eq_true rfl) ?_
    refine J.sr ?_
    refine EO.load (ad := ⟨b9, 0, none⟩) (w := .pointer (some ⟨fb, 0, none⟩)) rfl rfl rfl (by kernel_rfl) (by kernel_rfl) (l9 rfl) ?_
    refine EO.load (ad := ⟨b7, 0, none⟩) (w := .int .u64 w) rfl rfl rfl (by kernel_rfl) (by kernel_rfl) (l7) ?_
    refine EO.fcall (f := 7) (vs := [.pointer (some ⟨fb, 0, none⟩), .int .u64 w]) (v := .tuple #[.int .u64 (wantOf re w), .bool true]) (A1 := A1) rfl rfl rfl rfl (by kernel_rfl) (by kernel_rfl) (e8) ?_
    refine EO.run 8 [0, 1, 2, 3, 4] (S2 := [(0, .pointer (some ⟨b9, 0, none⟩)), (1, .pointer (some ⟨b7, 0, none⟩)), (2, .pointer (some ⟨b8, 0, none⟩)), (3, .int .u64 (wantOf re w)), (4, .bool true)]) (A2 := A1) rfl (by kernel_rfl) ?_
    refine EO.done rfl ?_
    refine J.sr ?_
    refine EO.run 1 [0, 1, 2, 3, 4, 11] (S2 := [(0, .pointer (some ⟨b9, 0, none⟩)), (1, .pointer (some ⟨b7, 0, none⟩)), (2, .pointer (some ⟨b8, 0, none⟩)), (3, .int .u64 (wantOf re w)), (4, .bool true), (11, .bool true)]) (A2 := A1) rfl (by kernel_rfl) ?_
    refine EO.done rfl ?_
    refine J.cond true (by kernel_rfl) (fun _ => ?_) (fun h => Bool.noConfusion h)
    refine J.region ?_
    refine EO.load (ad := ⟨b8, 0, none⟩) (w := .pointer (some ⟨fa, 0, none⟩)) rfl rfl rfl (by kernel_rfl) (by kernel_rfl) (l8) ?_
    refine EO.run 2 [0, 1, 2, 3, 4, 11, 12, 13] (S2 := [(0, .pointer (some ⟨b9, 0, none⟩)), (1, .pointer (some ⟨b7, 0, none⟩)), (2, .pointer (some ⟨b8, 0, none⟩)), (3, .int .u64 (wantOf re w)), (4, .bool true), (11, .bool true), (12, .pointer (some ⟨fa, 0, none⟩)), (13, .int .u64 (wantOf re w))]) (A2 := A1) rfl (by kernel_rfl) ?_
    refine EO.fcall (f := 8) (vs := [.pointer (some ⟨fa, 0, none⟩), .int .u64 (wantOf re w)]) (v := .tuple #[]) (A1 := A2) rfl rfl rfl rfl (by kernel_rfl) (by kernel_rfl) (e9) ?_
    refine EO.done rfl ?_
    refine Ends_n (vs := []) (by kernel_rfl) ?_
    exact ⟨rfl, rfl⟩
end
end Go.Proofs.Ytmgadeebncpaoaa
