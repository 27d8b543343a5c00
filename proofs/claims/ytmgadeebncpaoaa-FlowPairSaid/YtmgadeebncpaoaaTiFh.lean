/- flow: the pair's steps. -/
import Derived.Test.YtmgadeebncpaoaaTiFg
set_option autoImplicit false
set_option linter.unusedVariables false
set_option linter.unusedSimpArgs false
namespace Go.Proofs.Ytmgadeebncpaoaa
open Go.Abs Go.RowKit

theorem beqV_ptr (b o : Nat) : beqV (.pointer (some ⟨b, o, none⟩)) (.pointer (some ⟨b, o, none⟩)) = true := by simp [beqV, beqAd]

section
variable {P : Program} {call : CallF} {n : Nat} {S : Slots} {A : AW}
theorem eop_index {o : Oper} {t : TypeId} {x ix : Operand} {v u w : Value} (hop : o.op = .indexAddr t x ix) (hin : opndsIn S [x, ix] = true) (hv : aeval (arrOf n S) x = some v) (hu : aeval (arrOf n S) ix = some u) (e : aindexAddr P t v u = some w) : eop P call n S o A = some (w, A) := by
  unfold eop
  have : opndsIn S o.op.operands.toList = true := by rw [hop]; exact hin
  rw [this]
  simp only [cond_true]
  unfold aop
  rw [hop]
  simp only [aev1, hv, hu, e, onV]
end
section
variable {pre : FuncId → Option (List Value → AW → Option (Value × AW))} {dr : CallF → Array Oper → Array Value → AW → Option (Array Value × AW)} {A : AW} {m : Nat}
variable {b7 fa fb b8 b9 : Nat} {w sm se rm ca re : Int}

theorem AUp2.ofExt {B : AW} (h : AExt A B) (hn : B.nx = none) : AUp2 A fa fb B := ⟨h.size, hn, fun c hc _ _ => h.get c hc⟩
theorem ext_up2 {A0 B : AW} (h : AExt A0 A) (k : AUp2 A fa fb B) (ha : A0.size ≤ fa) (hb : A0.size ≤ fb) : AExt A0 B :=
  ⟨Nat.le_trans h.size k.size, fun c hc => by rw [k.get c (Nat.lt_of_lt_of_le hc h.size) (by omega) (by omega), h.get c hc], fun _ => k.nx⟩

theorem Two.l7 (h : Two A b7 fa fb b8 b9 w sm se rm ca re) : aload Try.prog A 25 ⟨b7, 0, none⟩ = some (.int .u64 w) := aload_one (by kernel_rfl) h.c7 rfl
theorem Two.l8 (h : Two A b7 fa fb b8 b9 w sm se rm ca re) : aload Try.prog A 26 ⟨b8, 0, none⟩ = some (.pointer (some ⟨fa, 0, none⟩)) := aload_one (by kernel_rfl) h.c8 rfl
theorem Two.l9 (h : Two A b7 fa fb b8 b9 w sm se rm ca re) : aload Try.prog A 26 ⟨b9, 0, none⟩ = some (.pointer (some ⟨fb, 0, none⟩)) := aload_one (by kernel_rfl) h.c9 rfl

theorem two_push (h : Two A b7 fa fb b8 b9 w sm se rm ca re) (n : Int) (hn : 0 ≤ n ∧ n ≤ 4611686018427387903) :
    Two (A.push (.cells [.int .u64 n] false false 1)) b7 fa fb b8 b9 w sm se rm ca re ∧ AUp2 A fa fb (A.push (.cells [.int .u64 n] false false 1)) ∧ R64 (A.push (.cells [.int .u64 n] false false 1)) (.slice (some ⟨A.nid, 0, none⟩) 1 1) [n] := by
  obtain ⟨A1, rfl, hx, hn1, hR⟩ := new_num h.nx n ⟨hn.1, by omega⟩
  exact ⟨h.ext hx, AUp2.ofExt hx hn1, hR⟩

theorem two_fresh (hp9 : pre 9 = none) (hdr : ∀ {call ops t A r}, adraw Try.prog call ops t A = some r → dr call ops t A = some r) (h : Two A b7 fa fb b8 b9 w sm se rm ca re) (hs : 0 ≤ se ∧ se ≤ sm ∧ sm < 9223372036854775808) :
    acall Try.prog pre dr 100000 (m + 3) 9 [.pointer (some ⟨fa, 0, none⟩)] A = some (.int .u64 (sm - se), A) := by
  have := f9_spec (pre := pre) (dr := dr) (m := m + 2) hp9 hdr h.FA (by omega) (by omega)
  rwa [freshOf_le hs.2.1] at this

theorem two_spend (hp10 : pre 10 = none) (hp9 : pre 9 = none) (hp19 : pre 19 = none) (hdr : ∀ {call ops t A r}, adraw Try.prog call ops t A = some r → dr call ops t A = some r) (h : Two A b7 fa fb b8 b9 w sm se rm ca re) (n : Int) (hn : 0 ≤ n ∧ n ≤ 4611686018427387903) (hs : 0 ≤ se ∧ se ≤ sm ∧ sm < 9223372036854775808) :
    (n > sm - se → acall Try.prog pre dr 100000 (m + 3) 10 [.pointer (some ⟨fa, 0, none⟩), .slice (some ⟨A.nid, 0, none⟩) 1 1] (A.push (.cells [.int .u64 n] false false 1)) = some (.int .i64 7, A.push (.cells [.int .u64 n] false false 1))) ∧
    (¬ n > sm - se → ∃ A2, acall Try.prog pre dr 100000 (m + 3) 10 [.pointer (some ⟨fa, 0, none⟩), .slice (some ⟨A.nid, 0, none⟩) 1 1] (A.push (.cells [.int .u64 n] false false 1)) = some (.int .i64 0, A2) ∧ Two A2 b7 fa fb b8 b9 w sm (se + n) rm ca re ∧ AUp2 A fa fb A2) := by
  obtain ⟨hT, hU, hR⟩ := two_push h n hn
  have k := f10_spec (pre := pre) (dr := dr) (m := m + 1) hp10 hp9 hp19 hdr hT.FA hR (by simp) hT.nx (by omega) (by omega)
  rw [freshOf_le hs.2.1, sumOf_one hn.1 hn.2] at k
  refine ⟨k.1, fun hb => ?_⟩
  obtain ⟨A2, e, hF, hM⟩ := k.2 hb
  exact ⟨A2, e, hT.upA (AUp.ofMod hM) hF, hU.trans (AUp.ofMod hM).two1⟩

theorem two_come (hp11 : pre 11 = none) (hp9 : pre 9 = none) (hp19 : pre 19 = none) (hdr : ∀ {call ops t A r}, adraw Try.prog call ops t A = some r → dr call ops t A = some r) (h : Two A b7 fa fb b8 b9 w sm se rm ca re) (n : Int) (hn : 0 ≤ n ∧ n ≤ 4611686018427387903) (hs : 0 ≤ ca ∧ ca + n ≤ rm ∧ rm < 9223372036854775808) :
    ∃ A2, acall Try.prog pre dr 100000 (m + 3) 11 [.pointer (some ⟨fb, 0, none⟩), .slice (some ⟨A.nid, 0, none⟩) 1 1] (A.push (.cells [.int .u64 n] false false 1)) = some (.int .i64 0, A2) ∧ Two A2 b7 fa fb b8 b9 w sm se rm (ca + n) re ∧ AUp2 A fa fb A2 := by
  obtain ⟨hT, hU, hR⟩ := two_push h n hn
  have k := f11_spec (pre := pre) (dr := dr) (m := m + 1) hp11 hp9 hp19 hdr hT.FB hR (by simp) hT.nx (by omega) (by omega)
  rw [freshOf_le (by omega), sumOf_one hn.1 hn.2] at k
  obtain ⟨A2, e, hF, hM⟩ := k.2 (by omega)
  exact ⟨A2, e, hT.upB (AUp.ofMod hM) hF, hU.trans (AUp.ofMod hM).two2⟩

theorem two_use (hp12 : pre 12 = none) (hp19 : pre 19 = none) (hdr : ∀ {call ops t A r}, adraw Try.prog call ops t A = some r → dr call ops t A = some r) (h : Two A b7 fa fb b8 b9 w sm se rm ca re) (n : Int) (hn : 0 ≤ n ∧ n ≤ 4611686018427387903) (hs : 0 ≤ re ∧ re ≤ ca ∧ re + n ≤ 4611686018427387903) :
    ∃ A2 re', acall Try.prog pre dr 100000 (m + 3) 12 [.pointer (some ⟨fb, 0, none⟩), .slice (some ⟨A.nid, 0, none⟩) 1 1] (A.push (.cells [.int .u64 n] false false 1)) = some (.tuple #[], A2) ∧ Two A2 b7 fa fb b8 b9 w sm se rm ca re' ∧ AUp2 A fa fb A2 ∧ 0 ≤ re' ∧ re' ≤ ca ∧ (ca ≤ re + n → re' = ca) := by
  obtain ⟨hT, hU, hR⟩ := two_push h n hn
  obtain ⟨A2, e, hF, hM⟩ := f12_spec (pre := pre) (dr := dr) (m := m + 1) hp12 hp19 hdr hT.FB hR (by simp) hT.nx (by omega)
  rw [sumOf_one hn.1 hn.2, useOf_small hs.1 hn.1 hs.2.2] at hF
  refine ⟨A2, _, e, hT.upB hM hF, hU.trans hM.two2, ?_, ?_, ?_⟩ <;> split <;> omega

theorem two_grant (hp : pre 6 = none) (hp7 : pre 7 = none) (hp8 : pre 8 = none) (hp18 : pre 18 = none) (hdr : ∀ {call ops t A r}, adraw Try.prog call ops t A = some r → dr call ops t A = some r) (h : Two A b7 fa fb b8 b9 w sm se sm ca re) (h0 : 0 ≤ re ∧ re ≤ 1152921504606846976) (h1 : 0 ≤ sm ∧ sm < 9223372036854775808) (hw : 0 ≤ w ∧ w ≤ 1048576) :
    ∃ A2 sm', acall Try.prog pre dr 100000 (m + 3) 6 [.pointer (some ⟨b9, 0, none⟩), .pointer (some ⟨b7, 0, none⟩), .pointer (some ⟨b8, 0, none⟩)] A = some (.tuple #[], A2) ∧ Two A2 b7 fa fb b8 b9 w sm' se sm' ca re ∧ AUp2 A fa fb A2 ∧
      ((sm' = sm ∧ (re + w ≤ sm ∨ re + w - sm < w / 2 + 1)) ∨ (sm' = re + w ∧ sm < re + w)) := by
  have k := f6_spec (pre := pre) (dr := dr) (m := m) hp hp7 hp8 hp18 hdr h (by omega) (by omega) hw
  have ew : wantOf re w = re + w := wantOf_small (by omega) (by omega)
  unfold worth at k
  rw [ew] at k
  by_cases hb : ¬ (re + w ≤ sm) ∧ ¬ (re + w - sm < w / 2 + 1)
  · obtain ⟨A2, e, hT, hU⟩ := k.2 hb
    rw [allowOf_small (by omega) (by omega) (by omega)] at hT
    exact ⟨A2, _, e, hT, hU, .inr ⟨rfl, by omega⟩⟩
  · exact ⟨A, sm, k.1 hb, h, ⟨Nat.le_refl _, h.nx, fun _ _ _ _ => rfl⟩, .inl ⟨rfl, by omega⟩⟩
end
end Go.Proofs.Ytmgadeebncpaoaa
