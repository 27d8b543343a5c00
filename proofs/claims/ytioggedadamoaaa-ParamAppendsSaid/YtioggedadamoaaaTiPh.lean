/- param: the bytes of parameters. -/
import Derived.Test.YtioggedadamoaaaTiPg
import Derived.Test.YtioggedadamoaaaTiPc
import Derived.Test.YtioggedadamoaaaTiPd
set_option autoImplicit false
set_option linter.unusedVariables false
set_option linter.unusedSimpArgs false
namespace Go.Proofs.Ytioggedadamoaaa
open Go.Abs Go.RowKit
def putB (id : Nat) (v : List Int) : List Int := encL [(id : Int), (v.length : Int)] ++ v
def itemB (zo zc : List Int) (p : PN) : Nat → List Int
  | 0 => if zo = [] then [] else putB 0 zo
  | 2 => if p.ht then putB 2 p.tok else []
  | 15 => if zc = [] then [] else putB 15 zc
  | j => if p.num j = 0 then [] else putB j (shortOf (p.num j))
def upB (zo zc : List Int) (p : PN) : Nat → List Int
  | 0 => []
  | j + 1 => upB zo zc p j ++ itemB zo zc p j
theorem f17n_fh (x : Int) (h0 : 0 ≤ x ∧ x ≤ 4611686018427387903) : FH Try.prog 17 [.cells [.int .u64 x] true false 1] [.slice none 0 0, .slice (some ⟨0, 0, none⟩) 1 1] fun v s1 => v = .tuple #[outV 1 (shortOf x), .int .i64 0] ∧ s1 = [.cells [.int .u64 x] true false 1, outO (shortOf x)] := by
  have hcl : clsN x < 4 := clsN_small h0.2
  have hne : shortOf x ≠ [] := shortOf_ne hcl
  have hl : R64 (plain [.cells [.int .u64 x] true false 1]) (.slice (some ⟨0, 0, none⟩) 1 1) [x] := by
    refine ⟨by intro n hn; simp at hn; subst hn; omega, .inr ⟨0, 0, 1, rfl, Nat.lt_succ_self 0, [.int .u64 x], true, false, 1, rfl, ?_⟩⟩
    intro j n hj
    cases j with
    | zero => simp at hj; subst hj; rfl
    | succ j => simp at hj
  have hb : RowV (plain [.cells [.int .u64 x] true false 1]) (.slice none 0 0) [] := .inl ⟨rfl, rfl⟩
  obtain ⟨v', A', e, hx, hn, hc⟩ := f17_spec (pre := pre0) (dr := adraw2 Try.prog) (A := plain [.cells [.int .u64 x] true false 1]) (m := 48) rfl rfl rfl hb hl rfl (by simp) (by simp)
  have hen : [] ++ encL [x] = shortOf x := by simp [encL]
  rw [hen] at hc
  rcases hc with ⟨_, w, rfl, hby, hw⟩ | ⟨⟨n, hn1, hn2⟩, _⟩
  · rcases hw with ⟨_, hz⟩ | ⟨b, rfl, h1, h2, h3⟩
    · exact absurd hz hne
    · rw [outO_some hne, outV_some hne]
      refine FH.ofJ1 (call := call0 Try.prog) hcS (by kernel_rfl) e hx hn (fnOk 17 _ Try.func17 (by kernel_rfl) rfl) h1 h2 h3 (groundL_u8s _) ?_ ?_ ?_
      · intro τ _ h
        show Value.tuple #[.slice (some ⟨τ b, 0, none⟩) _ _, .int .i64 0] = _
        rw [h]; rfl
      · intro τ h
        show Value.tuple #[.slice (some ⟨τ 1, 0, none⟩) _ _, .int .i64 0] = _
        rw [h 1 (Nat.lt_succ_self 1)]
      · intro τ h
        exact ⟨.inr rfl, trivial⟩
  · simp at hn1; subst hn1; exact absurd hcl hn2
theorem itemB_len (zo zc : List Int) (p : PN) (ho : zo.length ≤ 20) (hc : zc.length ≤ 20) (j : Nat) : (itemB zo zc p j).length ≤ 36 := by
  have h1 : ∀ id (v : List Int), v.length ≤ 20 → (putB id v).length ≤ 36 := by
    intro id v h
    unfold putB
    have := encL2_len (id : Int) (v.length : Int)
    rw [List.length_append]; omega
  unfold itemB
  split
  · split
    · simp
    · exact h1 _ _ ho
  · split
    · exact h1 _ _ (by simp [PN.tok])
    · simp
  · split
    · simp
    · exact h1 _ _ hc
  · split
    · simp
    · exact h1 _ _ (by have := shortOf_le (p.num j); omega)
  all_goals (first | (split <;> first | simp | exact h1 _ _ (by have := shortOf_le (p.num ‹_›); omega)))
theorem upB_len (zo zc : List Int) (p : PN) (ho : zo.length ≤ 20) (hc : zc.length ≤ 20) : ∀ j, (upB zo zc p j).length ≤ 36 * j
  | 0 => by simp [upB]
  | j + 1 => by
    have := upB_len zo zc p ho hc j
    have := itemB_len zo zc p ho hc j
    simp only [upB, List.length_append]; omega
theorem mayN_le {id n : Int} (h : mayN id n = true) : n ≤ 4611686018427387903 := by
  unfold mayN at h
  split at h
  · simp at h; omega
  · split at h
    · simp at h; omega
    · split at h
      · simp at h; omega
      · simpa using h
theorem lenpos {l : List Int} (h : ¬ l = []) : decide (((l.length : Nat) : Int) > 0) = true := by
  have : 0 < l.length := List.length_pos_iff.2 h
  simp; omega
theorem putB_len (id : Nat) (v : List Int) (h : v.length ≤ 20) : (putB id v).length ≤ 36 := by
  unfold putB
  have := encL2_len (id : Int) (v.length : Int)
  rw [List.length_append]; omega
theorem putB_byte {id : Nat} {v : List Int} (h : isByte v) : isByte (putB id v) := byte_app (enc2_byte (by omega) (by omega)) h
theorem itemB_byte {zo zc : List Int} {p : PN} (hpo : p.Ok) (ho : isByte zo) (hc : isByte zc) (j : Nat) : isByte (itemB zo zc p j) := by
  have hn : isByte [] := by intro z hz; simp at hz
  unfold itemB
  split
  · split
    · exact hn
    · exact putB_byte ho
  · split
    · exact putB_byte hpo.tok
    · exact hn
  · split
    · exact hn
    · exact putB_byte hc
  · split
    · exact hn
    · exact putB_byte (shortOf_byte _ (hpo.num _).1)
theorem upB_byte {zo zc : List Int} {p : PN} (hpo : p.Ok) (ho : isByte zo) (hc : isByte zc) (hokn : okN p 16 = true) : ∀ j, j ≤ 16 → isByte (upB zo zc p j)
  | 0, _ => by intro z hz; simp [upB] at hz
  | j + 1, h => byte_app (upB_byte hpo ho hc hokn j (by omega)) (itemB_byte hpo ho hc j)
end Go.Proofs.Ytioggedadamoaaa
