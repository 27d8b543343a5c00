/- flow: sums, what may be sent. -/
import Derived.Test.YtmgadeebncpaoaaAbsJD
import Derived.Test.YtmgadeebncpaoaaProg
set_option autoImplicit false
set_option linter.unusedVariables false
set_option linter.unusedSimpArgs false
namespace Go.Proofs.Ytmgadeebncpaoaa
open Go.Abs Go.RowKit

section
variable {pre : FuncId → Option (List Value → AW → Option (Value × AW))} {dr : CallF → Array Oper → Array Value → AW → Option (Array Value × AW)} {A : AW} {m : Nat}

def mnV (x : Int) : Int := if (4611686018427387903 : Int) < x then 4611686018427387903 else x
def satAdd (s x : Int) : Int := mnV (s + mnV x)
def sumOf (ns : List Int) : Int := ns.foldl satAdd 0
theorem mnV_le {x : Int} (h : 0 ≤ x) : 0 ≤ mnV x ∧ mnV x ≤ 4611686018427387903 := by unfold mnV; split <;> omega
theorem sum_le : ∀ (ns : List Int) (s : Int), 0 ≤ s → s ≤ 4611686018427387903 → (∀ n ∈ ns, 0 ≤ n) → 0 ≤ ns.foldl satAdd s ∧ ns.foldl satAdd s ≤ 4611686018427387903
  | [], s, h0, h1, _ => ⟨h0, h1⟩
  | n :: ns, s, h0, h1, h => by
    have hn := h n (by simp)
    have h2 := mnV_le hn
    have h3 := mnV_le (x := s + mnV n) (by omega)
    exact sum_le ns (satAdd s n) h3.1 h3.2 fun y hy => h y (by simp [hy])

theorem f19_spec (hp : pre 19 = none) {vl : Value} {ns : List Int} (hl : R64 A vl ns) (hlen : ns.length < 99999) : acall Try.prog pre dr 100000 (m + 1) 19 [vl] A = some (.int .u64 (sumOf ns), A) := by
  suffices hs : ∃ v' A', acall Try.prog pre dr 100000 (m + 1) 19 [vl] A = some (v', A') ∧ (v' = .int .u64 (sumOf ns) ∧ A' = A) by
    obtain ⟨v', A', e, rfl, rfl⟩ := hs
    exact e
  obtain ⟨al, capl, hvl⟩ := hl.form
  subst hvl
  refine J.fn (fn := Try.f19) hp Try.func19 rfl (Nat.le_of_ble_eq_true rfl) ?_
  refine J.sr ?_
  refine EO.run 1 [0, 2] (S2 := [(0, .slice al ns.length capl), (2, .int .u64 0)]) (A2 := A) rfl (by kernel_rfl) ?_
  refine EO.done rfl ?_
  refine J.sr ?_
  refine EO.run 1 [0, 2, 3] (S2 := [(0, .slice al ns.length capl), (2, .int .u64 0), (3, .int .u64 0)]) (A2 := A) rfl (by kernel_rfl) ?_
  refine EO.done rfl ?_
  refine J.seq ?_
  refine J.sr ?_
  refine EO.run 3 [0, 2, 3, 6, 7, 8] (S2 := [(0, .slice al ns.length capl), (2, .int .u64 0), (3, .int .u64 0), (6, .slice al ns.length capl), (7, .int .i64 ((ns.length : Nat) : Int)), (8, .int .i64 0)]) (A2 := A) rfl (by kernel_rfl) ?_
  refine EO.done rfl ?_
  refine J.block ?_
  refine J.loopI (fun k S A' => ∃ (i : Nat) (sm : Int), i + k = ns.length + 1 ∧ i ≤ ns.length ∧ sm = sumOf (ns.take i) ∧ A' = A ∧ S = [(0, .slice al ns.length capl), (2, .int .u64 0), (3, .int .u64 sm), (6, .slice al ns.length capl), (7, .int .i64 ((ns.length : Nat) : Int)), (8, .int .i64 ((i : Nat) : Int))]) (ns.length + 1) (by omega) ⟨0, 0, by omega, Nat.zero_le _, rfl, rfl, rfl⟩ ?_ ?_
  rotate_left
  · rintro S A ⟨i, _, q1, q2, _⟩; omega
  rintro k S A2 ⟨i, sm, q1, q2, q3, rfl, rfl⟩
  refine J.sr ?_
  refine EO.run 1 [0, 2, 3, 6, 7, 8, 9] (S2 := [(0, .slice al ns.length capl), (2, .int .u64 0), (3, .int .u64 sm), (6, .slice al ns.length capl), (7, .int .i64 ((ns.length : Nat) : Int)), (8, .int .i64 ((i : Nat) : Int)), (9, .bool (decide (((i : Nat) : Int) < ((ns.length : Nat) : Int))))]) (A2 := A2) rfl (by kernel_rfl) ?_
  refine EO.done rfl ?_
  refine J.seq ?_
  refine J.cond (decide (((i : Nat) : Int) < ((ns.length : Nat) : Int))) (by kernel_rfl) (fun h1 => ?_) (fun h1 => ?_)
  ·
    refine J.skip ?_
    refine thenJ_n ?_
    refine J.seq ?_
    refine J.block ?_
    refine J.sr ?_
    have q6 : i < ns.length := by have := of_decide_eq_true h1; omega
    obtain ⟨n, hnn⟩ : ∃ n, ns[i]? = some n := ⟨_, List.getElem?_eq_getElem q6⟩
    obtain ⟨ad, hi1, hi2⟩ := hl.load (P := Try.prog) (t := 25) (st := 49) (e := 25) (by kernel_rfl) (by kernel_rfl) (by kernel_rfl) hnn
    have hn0 := hl.1 n (List.mem_of_getElem? hnn)
    have hsl := sum_le (ns.take i) 0 (by omega) (by omega) (fun y hy => (hl.1 y (List.mem_of_mem_take hy)).1)
    have hsm : 0 ≤ sm ∧ sm ≤ 4611686018427387903 := by rw [q3]; exact hsl
    have hmn := mnV_le hn0.1
    refine EO.index (v := .slice al ns.length capl) (u := .int .i64 (Int.ofNat i)) (w := .pointer (some ad)) rfl rfl rfl (by kernel_rfl) (by kernel_rfl) (by kernel_rfl) hi1 ?_
    refine EO.load (ad := ad) (w := .int .u64 n) rfl rfl rfl (by kernel_rfl) (by kernel_rfl) hi2 ?_
    refine EO.run 3 [0, 2, 3, 5, 6, 7, 8, 9] (S2 := [(0, .slice al ns.length capl), (2, .int .u64 0), (3, .int .u64 sm), (5, .int .u64 n), (6, .slice al ns.length capl), (7, .int .i64 ((ns.length : Nat) : Int)), (8, .int .i64 ((i : Nat) : Int)), (9, .bool (decide (((i : Nat) : Int) < ((ns.length : Nat) : Int))))]) (A2 := A2) rfl (by kernel_rfl) ?_
    refine EO.done rfl ?_
    refine J.region ?_
    refine EO.run 3 [0, 2, 3, 5, 6, 7, 8, 9, 12, 14] (S2 := [(0, .slice al ns.length capl), (2, .int .u64 0), (3, .int .u64 sm), (5, .int .u64 n), (6, .slice al ns.length capl), (7, .int .i64 ((ns.length : Nat) : Int)), (8, .int .i64 ((i : Nat) : Int)), (9, .bool (decide (((i : Nat) : Int) < ((ns.length : Nat) : Int)))), (12, .int .u64 sm), (14, .int .u64 (if (4611686018427387903 : Int) < n then 4611686018427387903 else n))]) (A2 := A2) rfl (by kernel_rfl) ?_
    refine EO.cast (S2 := [(0, .slice al ns.length capl), (2, .int .u64 0), (3, .int .u64 sm), (5, .int .u64 n), (6, .slice al ns.length capl), (7, .int .i64 ((ns.length : Nat) : Int)), (8, .int .i64 ((i : Nat) : Int)), (9, .bool (decide (((i : Nat) : Int) < ((ns.length : Nat) : Int)))), (12, .int .u64 sm), (14, .int .u64 (mnV n))]) (by rfl) ?_
    refine EO.run 4 [0, 2, 3, 5, 6, 7, 8, 9, 15] (S2 := [(0, .slice al ns.length capl), (2, .int .u64 0), (3, .int .u64 sm), (5, .int .u64 n), (6, .slice al ns.length capl), (7, .int .i64 ((ns.length : Nat) : Int)), (8, .int .i64 ((i : Nat) : Int)), (9, .bool (decide (((i : Nat) : Int) < ((ns.length : Nat) : Int)))), (15, .int .u64 (IntKind.wrap .u64 (sm + (mnV n))))]) (A2 := A2) rfl (by kernel_rfl) ?_
    refine EO.cast (S2 := [(0, .slice al ns.length capl), (2, .int .u64 0), (3, .int .u64 sm), (5, .int .u64 n), (6, .slice al ns.length capl), (7, .int .i64 ((ns.length : Nat) : Int)), (8, .int .i64 ((i : Nat) : Int)), (9, .bool (decide (((i : Nat) : Int) < ((ns.length : Nat) : Int)))), (15, .int .u64 (sm + mnV n))]) (by rw [wrap_u64 (x := sm + mnV n) (by omega) (by omega)]) ?_
    refine EO.run 5 [0, 2, 3, 5, 6, 7, 8, 9, 16] (S2 := [(0, .slice al ns.length capl), (2, .int .u64 0), (3, .int .u64 sm), (5, .int .u64 n), (6, .slice al ns.length capl), (7, .int .i64 ((ns.length : Nat) : Int)), (8, .int .i64 ((i : Nat) : Int)), (9, .bool (decide (((i : Nat) : Int) < ((ns.length : Nat) : Int)))), (16, .int .u64 (if (4611686018427387903 : Int) < (sm + mnV n) then 4611686018427387903 else sm + mnV n))]) (A2 := A2) rfl (by kernel_rfl) ?_
    refine EO.cast (S2 := [(0, .slice al ns.length capl), (2, .int .u64 0), (3, .int .u64 sm), (5, .int .u64 n), (6, .slice al ns.length capl), (7, .int .i64 ((ns.length : Nat) : Int)), (8, .int .i64 ((i : Nat) : Int)), (9, .bool (decide (((i : Nat) : Int) < ((ns.length : Nat) : Int)))), (16, .int .u64 (mnV (sm + mnV n)))]) (by rfl) ?_
    refine EO.run 6 [0, 2, 3, 5, 6, 7, 8, 9] (S2 := [(0, .slice al ns.length capl), (2, .int .u64 0), (3, .int .u64 (mnV (sm + mnV n))), (5, .int .u64 n), (6, .slice al ns.length capl), (7, .int .i64 ((ns.length : Nat) : Int)), (8, .int .i64 ((i : Nat) : Int)), (9, .bool (decide (((i : Nat) : Int) < ((ns.length : Nat) : Int))))]) (A2 := A2) rfl (by kernel_rfl) ?_
    refine EO.done rfl ?_
    refine blockQ_n ?_
    refine thenJ_n ?_
    refine J.region ?_
    refine EO.run 1 [0, 2, 3, 5, 6, 7, 8, 9, 17] (S2 := [(0, .slice al ns.length capl), (2, .int .u64 0), (3, .int .u64 (mnV (sm + mnV n))), (5, .int .u64 n), (6, .slice al ns.length capl), (7, .int .i64 ((ns.length : Nat) : Int)), (8, .int .i64 ((i : Nat) : Int)), (9, .bool (decide (((i : Nat) : Int) < ((ns.length : Nat) : Int)))), (17, .int .i64 (IntKind.wrap .i64 (((i : Nat) : Int) + 1)))]) (A2 := A2) rfl (by kernel_rfl) ?_
    refine EO.cast (S2 := [(0, .slice al ns.length capl), (2, .int .u64 0), (3, .int .u64 (mnV (sm + mnV n))), (5, .int .u64 n), (6, .slice al ns.length capl), (7, .int .i64 ((ns.length : Nat) : Int)), (8, .int .i64 ((i : Nat) : Int)), (9, .bool (decide (((i : Nat) : Int) < ((ns.length : Nat) : Int)))), (17, .int .i64 ((i + 1 : Nat) : Int))]) (by rw [show (IntKind.wrap .i64 (((i : Nat) : Int) + 1) : Int) = ((i + 1 : Nat) : Int) from by rw [wrap_i64 (by omega) (by omega)]; omega]) ?_
    refine EO.run 2 [0, 2, 3, 6, 7, 8] (S2 := [(0, .slice al ns.length capl), (2, .int .u64 0), (3, .int .u64 (mnV (sm + mnV n))), (6, .slice al ns.length capl), (7, .int .i64 ((ns.length : Nat) : Int)), (8, .int .i64 ((i + 1 : Nat) : Int))]) (A2 := A2) rfl (by kernel_rfl) ?_
    refine EO.done rfl ?_
    refine loopI_n ?_
    exact ⟨i + 1, _, by omega, by omega, by rw [q3]; unfold sumOf; rw [List.take_add_one, hnn]; simp [satAdd], rfl, rfl⟩
  ·
    refine J.exit ?_
    refine thenJ_e ?_
    refine loopI_e ?_
    refine blockQ_hit ?_
    refine thenJ_n ?_
    refine J.sr ?_
    refine EO.run 2 [0, 2, 3, 6, 7, 8, 9] (S2 := [(0, .slice al ns.length capl), (2, .int .u64 sm), (3, .int .u64 sm), (6, .slice al ns.length capl), (7, .int .i64 ((ns.length : Nat) : Int)), (8, .int .i64 ((i : Nat) : Int)), (9, .bool (decide (((i : Nat) : Int) < ((ns.length : Nat) : Int))))]) (A2 := A2) rfl (by kernel_rfl) ?_
    refine EO.done rfl ?_
    refine J.ret ?_
    refine Ends_r (vs := [.int .u64 sm]) (by kernel_rfl) ?_
    have q7 : ns.take i = ns := List.take_of_length_le (by simp only [decide_eq_false_iff_not] at *; omega)
    rw [q7] at q3
    exact ⟨by rw [q3]; rfl, rfl⟩

/-- A flow's cells. -/
structure Flow (A : AW) (b : Nat) (sm se rm ca re : Int) : Prop where
  lt : b < A.size
  cells : ∃ rest, oneCells rest = true ∧ A.get b = .cells (.int .u64 sm :: .int .u64 se :: .int .u64 rm :: .int .u64 ca :: .int .u64 re :: rest) false false 1

theorem Flow.ld {b : Nat} {sm se rm ca re : Int} (h : Flow A b sm se rm ca re) (k : Nat) (v : Value) (hk : [Value.int .u64 sm, .int .u64 se, .int .u64 rm, .int .u64 ca, .int .u64 re][k]? = some v) : aload Try.prog A 25 ⟨b, k, none⟩ = some v := by
  obtain ⟨rest, _, hg⟩ := h.cells
  refine aload_one (by kernel_rfl) hg ?_
  have hl := (List.getElem?_eq_some_iff.1 hk).1
  rw [← hk]
  match k, hl with
  | 0, _ => rfl
  | 1, _ => rfl
  | 2, _ => rfl
  | 3, _ => rfl
  | 4, _ => rfl

def freshOf (sm se : Int) : Int := (if se > sm then se else sm) - se

theorem f9_spec (hp : pre 9 = none) (hdr : ∀ {call ops t r}, adraw Try.prog call ops t A = some r → dr call ops t A = some r) {b : Nat} {sm se rm ca re : Int} (h : Flow A b sm se rm ca re) (h0 : 0 ≤ sm ∧ sm < 18446744073709551616) (h1 : 0 ≤ se ∧ se < 18446744073709551616) :
    acall Try.prog pre dr 100000 (m + 1) 9 [.pointer (some ⟨b, 0, none⟩)] A = some (.int .u64 (freshOf sm se), A) := by
  suffices hs : ∃ v' A', acall Try.prog pre dr 100000 (m + 1) 9 [.pointer (some ⟨b, 0, none⟩)] A = some (v', A') ∧ (v' = .int .u64 (freshOf sm se) ∧ A' = A) by
    obtain ⟨v', A', e, rfl, rfl⟩ := hs
    exact e
  refine J.fn (fn := Try.f9) hp Try.func9 rfl (Nat.le_of_ble_eq_true rfl) ?_
  refine J.sr ?_
  refine EO.run 1 [0, 2] (S2 := [(0, .pointer (some ⟨b, 0, none⟩)), (2, .int .u64 0)]) (A2 := A) rfl (by kernel_rfl) ?_
  refine EO.done rfl ?_
  refine J.seq ?_
  refine J.sr ?_
  refine EO.run 2 [0, 2, 4] (S2 := [(0, .pointer (some ⟨b, 0, none⟩)), (2, .int .u64 0), (4, .bool false)]) (A2 := A) rfl (by kernel_rfl) ?_
  refine EO.done rfl ?_
  refine J.cond false (by kernel_rfl) (fun h => Bool.noConfusion h) (fun _ => ?_)
  refine J.skip ?_
  refine thenJ_n ?_
  refine J.seq ?_
  refine J.draw [A] (A1 := A) (S' := [(0, .pointer (some ⟨b, 0, none⟩)), (2, .int .u64 (freshOf sm se)), (4, .bool false)]) (fun t r => hdr) (by kernel_rfl) rfl (by kernel_rfl) ?_ ?_
  ·
    refine DR.run 4 [0, 2, 4, 8] (S2 := [(0, .pointer (some ⟨b, 0, none⟩)), (2, .int .u64 0), (4, .bool false), (8, .pointer (some ⟨b, 0, none⟩))]) (A := A) rfl rfl (by kernel_rfl) ?_
    refine DR.load (ad := ⟨b, 0, none⟩) (v := .int .u64 sm) (A := A) rfl rfl rfl rfl (by kernel_rfl) (by kernel_rfl) (beqV_int _ _) ?_ (by simp) ?_
    · intro k' A' h1 h2 h3
      rcases k' with _ | k'
      · obtain rfl := Option.some.inj h3; exact h.ld 0 _ rfl
      · simp at h3
    refine DR.run 9 [0, 2, 4, 9, 13] (S2 := [(0, .pointer (some ⟨b, 0, none⟩)), (2, .int .u64 0), (4, .bool false), (9, .int .u64 sm), (13, .pointer (some ⟨b, 1, none⟩))]) (A := A) rfl rfl (by kernel_rfl) ?_
    refine DR.load (ad := ⟨b, 1, none⟩) (v := .int .u64 se) (A := A) rfl rfl rfl rfl (by kernel_rfl) (by kernel_rfl) (beqV_int _ _) ?_ (by simp) ?_
    · intro k' A' h1 h2 h3
      rcases k' with _ | k'
      · obtain rfl := Option.some.inj h3; exact h.ld 1 _ rfl
      · simp at h3
    refine DR.run 15 [0, 2, 4, 15, 19] (S2 := [(0, .pointer (some ⟨b, 0, none⟩)), (2, .int .u64 0), (4, .bool false), (15, .int .u64 (if (se : Int) > sm then se else sm)), (19, .pointer (some ⟨b, 1, none⟩))]) (A := A) rfl rfl (by kernel_rfl) ?_
    refine DR.load (ad := ⟨b, 1, none⟩) (v := .int .u64 se) (A := A) rfl rfl rfl rfl (by kernel_rfl) (by kernel_rfl) (beqV_int _ _) ?_ (by simp) ?_
    · intro k' A' h1 h2 h3
      rcases k' with _ | k'
      · obtain rfl := Option.some.inj h3; exact h.ld 1 _ rfl
      · simp at h3
    refine DR.run 17 [0, 2, 4, 21] (S2 := [(0, .pointer (some ⟨b, 0, none⟩)), (2, .int .u64 0), (4, .bool false), (21, .int .u64 (IntKind.wrap .u64 ((if (se : Int) > sm then se else sm) - se)))]) (A := A) rfl rfl (by kernel_rfl) ?_
    refine DR.cast (S2 := [(0, .pointer (some ⟨b, 0, none⟩)), (2, .int .u64 0), (4, .bool false), (21, .int .u64 (freshOf sm se))]) (by rw [show (IntKind.wrap .u64 ((if (se : Int) > sm then se else sm) - se) : Int) = freshOf sm se from by rw [wrap_u64 (by split <;> omega) (by split <;> omega)]; rfl]) ?_
    refine DR.run 18 [0, 2, 4] (S2 := [(0, .pointer (some ⟨b, 0, none⟩)), (2, .int .u64 (freshOf sm se)), (4, .bool false)]) (A := A) rfl rfl (by kernel_rfl) ?_
    refine DR.weak [0, 2, 4] (S2 := [(0, .pointer (some ⟨b, 0, none⟩)), (2, .int .u64 (freshOf sm se)), (4, .bool false)]) (by kernel_rfl) ?_
    exact DR.done rfl
  refine thenJ_n ?_
  refine J.ret ?_
  refine Ends_r (vs := [.int .u64 (freshOf sm se)]) (by kernel_rfl) ?_
  exact ⟨rfl, rfl⟩
end
end Go.Proofs.Ytmgadeebncpaoaa
