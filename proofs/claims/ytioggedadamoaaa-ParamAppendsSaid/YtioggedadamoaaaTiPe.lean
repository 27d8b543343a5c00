/- param: Short, Append, as contracts. -/
import Derived.Test.YtioggedadamoaaaAbsVg
import Derived.Test.YtioggedadamoaaaTiPb
import Derived.Test.YtioggedadamoaaaTiVi
set_option autoImplicit false
set_option linter.unusedVariables false
set_option linter.unusedSimpArgs false
namespace Go.Proofs.Ytioggedadamoaaa
open Go.Abs Go.RowKit
section
variable {pre : FuncId → Option (List Value → AW → Option (Value × AW))} {dr : CallF → Array Oper → Array Value → AW → Option (Array Value × AW)} {A : AW} {m : Nat}
theorem f16_spec2 (hp : pre 16 = none) (hp15 : pre 15 = none) (hp28 : pre 28 = none) (x : Int) (h0 : 0 ≤ x) (hnx : A.nx = none) :
    ∃ w A', acall Try.prog pre dr 100000 (m + 2) 16 [.int .u64 x] A = some (w, A') ∧ ((w = .slice none 0 0 ∧ shortOf x = []) ∨ ∃ b, shortOf x ≠ [] ∧ w = .slice (some ⟨b, 0, none⟩) (shortOf x).length (shortOf x).length ∧ A.size ≤ b ∧ Own A' b (shortOf x)) ∧ AExt A A' ∧ A'.nx = none := by
  have e15 := f15_spec (pre := pre) (dr := dr) (A := A) (m := m) hp15 x
  rcases clsN_le x with hc | hc | hc | hc | hc
  · have hs : szOf x = 1 := by unfold szOf; rw [hc]; rfl
    rw [hs] at e15
    have hsh : shortOf x = encC 0 x := by unfold shortOf; rw [hc]; rfl
    obtain ⟨A2, e28, hO, hx2, hn2⟩ := f28_spec0 (pre := pre) (dr := dr) (A := A) (m := m) hp28 x (clsN_in h0 hc (by decide)) hnx
    have hlen : (encC 0 x).length = 1 := rfl
    rw [hsh]
    refine J.fn (fn := Try.f16) hp Try.func16 rfl (Nat.le_of_ble_eq_true rfl) ?_
    refine J.sr ?_
    refine EO.run 1 [0, 2] (S2 := [(0, .int .u64 x), (2, .slice none 0 0)]) (A2 := A) rfl (by kernel_rfl) ?_
    refine EO.done rfl ?_
    refine J.sr ?_
    refine EO.run 1 [0, 2, 4] (S2 := [(0, .int .u64 x), (2, .slice none 0 0), (4, .int .u64 x)]) (A2 := A) rfl (by kernel_rfl) ?_
    refine EO.fcall (f := 15) (vs := [.int .u64 x]) (v := .int .i64 1) (A1 := A) rfl rfl rfl rfl (by kernel_rfl) (by kernel_rfl) (e15) ?_
    refine EO.run 3 [0, 2, 3] (S2 := [(0, .int .u64 x), (2, .slice none 0 0), (3, .int .i64 1)]) (A2 := A) rfl (by kernel_rfl) ?_
    refine EO.done rfl ?_
    refine J.seq ?_
    refine J.sr ?_
    refine EO.run 2 [0, 2, 3, 7] (S2 := [(0, .int .u64 x), (2, .slice none 0 0), (3, .int .i64 1), (7, .bool false)]) (A2 := A) rfl (by kernel_rfl) ?_
    refine EO.done rfl ?_
    refine J.cond false (by kernel_rfl) (fun h => Bool.noConfusion h) (fun _ => ?_)
    refine J.skip ?_
    refine thenJ_n ?_
    refine J.sr ?_
    refine EO.run 2 [0, 2, 3, 7, 8, 9] (S2 := [(0, .int .u64 x), (2, .slice none 0 0), (3, .int .i64 1), (7, .bool false), (8, .int .u64 x), (9, .int .i64 1)]) (A2 := A) rfl (by kernel_rfl) ?_
    refine EO.fcall (f := 28) (vs := [.int .u64 x, .int .i64 1]) (v := .slice (some ⟨A.nid, 0, none⟩) 1 1) (A1 := A2) rfl rfl rfl rfl (by kernel_rfl) (by kernel_rfl) (e28) ?_
    refine EO.run 4 [0, 2, 3, 7] (S2 := [(0, .int .u64 x), (2, .slice (some ⟨A.nid, 0, none⟩) 1 1), (3, .int .i64 1), (7, .bool false)]) (A2 := A2) rfl (by kernel_rfl) ?_
    refine EO.done rfl ?_
    refine J.ret ?_
    refine Ends_r (vs := [.slice (some ⟨A.nid, 0, none⟩) 1 1]) (by kernel_rfl) ?_
    exact ⟨.inr ⟨A.nid, List.cons_ne_nil _ _, rfl, by rw [nid_none hnx]; exact Nat.le_refl _, hO⟩, hx2, hn2⟩
  · have hs : szOf x = 2 := by unfold szOf; rw [hc]; rfl
    rw [hs] at e15
    have hsh : shortOf x = encC 1 x := by unfold shortOf; rw [hc]; rfl
    obtain ⟨A2, e28, hO, hx2, hn2⟩ := f28_spec1 (pre := pre) (dr := dr) (A := A) (m := m) hp28 x (clsN_in h0 hc (by decide)) hnx
    have hlen : (encC 1 x).length = 2 := rfl
    rw [hsh]
    refine J.fn (fn := Try.f16) hp Try.func16 rfl (Nat.le_of_ble_eq_true rfl) ?_
    refine J.sr ?_
    refine EO.run 1 [0, 2] (S2 := [(0, .int .u64 x), (2, .slice none 0 0)]) (A2 := A) rfl (by kernel_rfl) ?_
    refine EO.done rfl ?_
    refine J.sr ?_
    refine EO.run 1 [0, 2, 4] (S2 := [(0, .int .u64 x), (2, .slice none 0 0), (4, .int .u64 x)]) (A2 := A) rfl (by kernel_rfl) ?_
    refine EO.fcall (f := 15) (vs := [.int .u64 x]) (v := .int .i64 2) (A1 := A) rfl rfl rfl rfl (by kernel_rfl) (by kernel_rfl) (e15) ?_
    refine EO.run 3 [0, 2, 3] (S2 := [(0, .int .u64 x), (2, .slice none 0 0), (3, .int .i64 2)]) (A2 := A) rfl (by kernel_rfl) ?_
    refine EO.done rfl ?_
    refine J.seq ?_
    refine J.sr ?_
    refine EO.run 2 [0, 2, 3, 7] (S2 := [(0, .int .u64 x), (2, .slice none 0 0), (3, .int .i64 2), (7, .bool false)]) (A2 := A) rfl (by kernel_rfl) ?_
    refine EO.done rfl ?_
    refine J.cond false (by kernel_rfl) (fun h => Bool.noConfusion h) (fun _ => ?_)
    refine J.skip ?_
    refine thenJ_n ?_
    refine J.sr ?_
    refine EO.run 2 [0, 2, 3, 7, 8, 9] (S2 := [(0, .int .u64 x), (2, .slice none 0 0), (3, .int .i64 2), (7, .bool false), (8, .int .u64 x), (9, .int .i64 2)]) (A2 := A) rfl (by kernel_rfl) ?_
    refine EO.fcall (f := 28) (vs := [.int .u64 x, .int .i64 2]) (v := .slice (some ⟨A.nid, 0, none⟩) 2 2) (A1 := A2) rfl rfl rfl rfl (by kernel_rfl) (by kernel_rfl) (e28) ?_
    refine EO.run 4 [0, 2, 3, 7] (S2 := [(0, .int .u64 x), (2, .slice (some ⟨A.nid, 0, none⟩) 2 2), (3, .int .i64 2), (7, .bool false)]) (A2 := A2) rfl (by kernel_rfl) ?_
    refine EO.done rfl ?_
    refine J.ret ?_
    refine Ends_r (vs := [.slice (some ⟨A.nid, 0, none⟩) 2 2]) (by kernel_rfl) ?_
    exact ⟨.inr ⟨A.nid, List.cons_ne_nil _ _, rfl, by rw [nid_none hnx]; exact Nat.le_refl _, hO⟩, hx2, hn2⟩
  · have hs : szOf x = 4 := by unfold szOf; rw [hc]; rfl
    rw [hs] at e15
    have hsh : shortOf x = encC 2 x := by unfold shortOf; rw [hc]; rfl
    obtain ⟨A2, e28, hO, hx2, hn2⟩ := f28_spec2 (pre := pre) (dr := dr) (A := A) (m := m) hp28 x (clsN_in h0 hc (by decide)) hnx
    have hlen : (encC 2 x).length = 4 := rfl
    rw [hsh]
    refine J.fn (fn := Try.f16) hp Try.func16 rfl (Nat.le_of_ble_eq_true rfl) ?_
    refine J.sr ?_
    refine EO.run 1 [0, 2] (S2 := [(0, .int .u64 x), (2, .slice none 0 0)]) (A2 := A) rfl (by kernel_rfl) ?_
    refine EO.done rfl ?_
    refine J.sr ?_
    refine EO.run 1 [0, 2, 4] (S2 := [(0, .int .u64 x), (2, .slice none 0 0), (4, .int .u64 x)]) (A2 := A) rfl (by kernel_rfl) ?_
    refine EO.fcall (f := 15) (vs := [.int .u64 x]) (v := .int .i64 4) (A1 := A) rfl rfl rfl rfl (by kernel_rfl) (by kernel_rfl) (e15) ?_
    refine EO.run 3 [0, 2, 3] (S2 := [(0, .int .u64 x), (2, .slice none 0 0), (3, .int .i64 4)]) (A2 := A) rfl (by kernel_rfl) ?_
    refine EO.done rfl ?_
    refine J.seq ?_
    refine J.sr ?_
    refine EO.run 2 [0, 2, 3, 7] (S2 := [(0, .int .u64 x), (2, .slice none 0 0), (3, .int .i64 4), (7, .bool false)]) (A2 := A) rfl (by kernel_rfl) ?_
    refine EO.done rfl ?_
    refine J.cond false (by kernel_rfl) (fun h => Bool.noConfusion h) (fun _ => ?_)
    refine J.skip ?_
    refine thenJ_n ?_
    refine J.sr ?_
    refine EO.run 2 [0, 2, 3, 7, 8, 9] (S2 := [(0, .int .u64 x), (2, .slice none 0 0), (3, .int .i64 4), (7, .bool false), (8, .int .u64 x), (9, .int .i64 4)]) (A2 := A) rfl (by kernel_rfl) ?_
    refine EO.fcall (f := 28) (vs := [.int .u64 x, .int .i64 4]) (v := .slice (some ⟨A.nid, 0, none⟩) 4 4) (A1 := A2) rfl rfl rfl rfl (by kernel_rfl) (by kernel_rfl) (e28) ?_
    refine EO.run 4 [0, 2, 3, 7] (S2 := [(0, .int .u64 x), (2, .slice (some ⟨A.nid, 0, none⟩) 4 4), (3, .int .i64 4), (7, .bool false)]) (A2 := A2) rfl (by kernel_rfl) ?_
    refine EO.done rfl ?_
    refine J.ret ?_
    refine Ends_r (vs := [.slice (some ⟨A.nid, 0, none⟩) 4 4]) (by kernel_rfl) ?_
    exact ⟨.inr ⟨A.nid, List.cons_ne_nil _ _, rfl, by rw [nid_none hnx]; exact Nat.le_refl _, hO⟩, hx2, hn2⟩
  · have hs : szOf x = 8 := by unfold szOf; rw [hc]; rfl
    rw [hs] at e15
    have hsh : shortOf x = encC 3 x := by unfold shortOf; rw [hc]; rfl
    obtain ⟨A2, e28, hO, hx2, hn2⟩ := f28_spec3 (pre := pre) (dr := dr) (A := A) (m := m) hp28 x (clsN_in h0 hc (by decide)) hnx
    have hlen : (encC 3 x).length = 8 := rfl
    rw [hsh]
    refine J.fn (fn := Try.f16) hp Try.func16 rfl (Nat.le_of_ble_eq_true rfl) ?_
    refine J.sr ?_
    refine EO.run 1 [0, 2] (S2 := [(0, .int .u64 x), (2, .slice none 0 0)]) (A2 := A) rfl (by kernel_rfl) ?_
    refine EO.done rfl ?_
    refine J.sr ?_
    refine EO.run 1 [0, 2, 4] (S2 := [(0, .int .u64 x), (2, .slice none 0 0), (4, .int .u64 x)]) (A2 := A) rfl (by kernel_rfl) ?_
    refine EO.fcall (f := 15) (vs := [.int .u64 x]) (v := .int .i64 8) (A1 := A) rfl rfl rfl rfl (by kernel_rfl) (by kernel_rfl) (e15) ?_
    refine EO.run 3 [0, 2, 3] (S2 := [(0, .int .u64 x), (2, .slice none 0 0), (3, .int .i64 8)]) (A2 := A) rfl (by kernel_rfl) ?_
    refine EO.done rfl ?_
    refine J.seq ?_
    refine J.sr ?_
    refine EO.run 2 [0, 2, 3, 7] (S2 := [(0, .int .u64 x), (2, .slice none 0 0), (3, .int .i64 8), (7, .bool false)]) (A2 := A) rfl (by kernel_rfl) ?_
    refine EO.done rfl ?_
    refine J.cond false (by kernel_rfl) (fun h => Bool.noConfusion h) (fun _ => ?_)
    refine J.skip ?_
    refine thenJ_n ?_
    refine J.sr ?_
    refine EO.run 2 [0, 2, 3, 7, 8, 9] (S2 := [(0, .int .u64 x), (2, .slice none 0 0), (3, .int .i64 8), (7, .bool false), (8, .int .u64 x), (9, .int .i64 8)]) (A2 := A) rfl (by kernel_rfl) ?_
    refine EO.fcall (f := 28) (vs := [.int .u64 x, .int .i64 8]) (v := .slice (some ⟨A.nid, 0, none⟩) 8 8) (A1 := A2) rfl rfl rfl rfl (by kernel_rfl) (by kernel_rfl) (e28) ?_
    refine EO.run 4 [0, 2, 3, 7] (S2 := [(0, .int .u64 x), (2, .slice (some ⟨A.nid, 0, none⟩) 8 8), (3, .int .i64 8), (7, .bool false)]) (A2 := A2) rfl (by kernel_rfl) ?_
    refine EO.done rfl ?_
    refine J.ret ?_
    refine Ends_r (vs := [.slice (some ⟨A.nid, 0, none⟩) 8 8]) (by kernel_rfl) ?_
    exact ⟨.inr ⟨A.nid, List.cons_ne_nil _ _, rfl, by rw [nid_none hnx]; exact Nat.le_refl _, hO⟩, hx2, hn2⟩
  · have hs : szOf x = 0 := by unfold szOf; rw [hc]; rfl
    rw [hs] at e15
    have hsh : shortOf x = [] := by unfold shortOf; rw [hc]; rfl
    rw [hsh]
    refine J.fn (fn := Try.f16) hp Try.func16 rfl (Nat.le_of_ble_eq_true rfl) ?_
    refine J.sr ?_
    refine EO.run 1 [0, 2] (S2 := [(0, .int .u64 x), (2, .slice none 0 0)]) (A2 := A) rfl (by kernel_rfl) ?_
    refine EO.done rfl ?_
    refine J.sr ?_
    refine EO.run 1 [0, 2, 4] (S2 := [(0, .int .u64 x), (2, .slice none 0 0), (4, .int .u64 x)]) (A2 := A) rfl (by kernel_rfl) ?_
    refine EO.fcall (f := 15) (vs := [.int .u64 x]) (v := .int .i64 0) (A1 := A) rfl rfl rfl rfl (by kernel_rfl) (by kernel_rfl) (e15) ?_
    refine EO.run 3 [0, 2, 3] (S2 := [(0, .int .u64 x), (2, .slice none 0 0), (3, .int .i64 0)]) (A2 := A) rfl (by kernel_rfl) ?_
    refine EO.done rfl ?_
    refine J.seq ?_
    refine J.sr ?_
    refine EO.run 2 [0, 2, 3, 7] (S2 := [(0, .int .u64 x), (2, .slice none 0 0), (3, .int .i64 0), (7, .bool true)]) (A2 := A) rfl (by kernel_rfl) ?_
    refine EO.done rfl ?_
    refine J.cond true (by kernel_rfl) (fun _ => ?_) (fun h => Bool.noConfusion h)
    refine J.sr ?_
    refine EO.run 1 [0, 2, 3, 7] (S2 := [(0, .int .u64 x), (2, .slice none 0 0), (3, .int .i64 0), (7, .bool true)]) (A2 := A) rfl (by kernel_rfl) ?_
    refine EO.done rfl ?_
    refine J.ret ?_
    refine thenJ_r ?_
    refine Ends_r (vs := [.slice none 0 0]) (by kernel_rfl) ?_
    exact ⟨.inl ⟨rfl, rfl⟩, AExt.refl _, hnx⟩
end
theorem fnOk (f : Nat) (fn : Func) (h : Try.prog.funcs[f]? = some fn) (h1 : (fn.name == "runtime.NumGoroutine") = false) (h2 : fn.body.isNone = false) : ∃ fn, Try.prog.funcs[f]? = some fn ∧ (fn.name == "runtime.NumGoroutine") = false ∧ fn.body.isNone = false := ⟨fn, h, h1, h2⟩
theorem shortOf_byte (n : Int) (h0 : 0 ≤ n) : isByte (shortOf n) := by
  unfold shortOf
  split
  · rename_i h
    exact encC_byte h (clsN_in h0 rfl h)
  · intro z hz; simp at hz
theorem outO_some {zs : List Int} (h : zs ≠ []) : outO zs = .cells (u8s zs) false true 1 := by
  cases zs with
  | nil => exact absurd rfl h
  | cons z zs => rfl
theorem outV_some {zs : List Int} (h : zs ≠ []) (k : Nat) : outV k zs = .slice (some ⟨k, 0, none⟩) zs.length zs.length := by
  cases zs with
  | nil => exact absurd rfl h
  | cons z zs => rfl
theorem f16_fh (x : Int) (h0 : 0 ≤ x) : FH Try.prog 16 [] [.int .u64 x] fun v s1 => v = outV 0 (shortOf x) ∧ s1 = [outO (shortOf x)] := by
  obtain ⟨w, A', e, hw, hx, hn⟩ := f16_spec2 (pre := pre0) (dr := adraw2 Try.prog) (A := plain []) (m := 48) rfl rfl rfl x h0 rfl
  rcases hw with ⟨rfl, hz⟩ | ⟨b, hne, rfl, hb, h1, ⟨opn, h2⟩, h3⟩
  · rw [hz]
    refine FH.pad (FH.ofJ0 (call := call0 Try.prog) hcS (by kernel_rfl) e hx hn (fnOk 16 _ Try.func16 (by kernel_rfl) rfl) (fun _ _ => rfl) fun _ _ => trivial) ?_
    rintro v s1 ⟨rfl, rfl⟩
    exact ⟨by decide, rfl, rfl⟩
  · rw [outO_some hne, outV_some hne]
    refine FH.ofJ1 (call := call0 Try.prog) hcS (by kernel_rfl) e hx hn (fnOk 16 _ Try.func16 (by kernel_rfl) rfl) hb h1 h2 (groundL_u8s _) ?_ ?_ fun _ _ => trivial
    · intro τ _ h
      show Value.slice (some ⟨τ b, 0, none⟩) _ _ = _
      rw [h]; rfl
    · intro τ h
      show Value.slice (some ⟨τ 0, 0, none⟩) _ _ = _
      rw [h 0 (Nat.succ_pos _)]
theorem f17_fh {r0 : AObj} {f0 : Nat → Option Addr} {zs : List Int} {c0 : Nat} (hr : RowF r0 f0 zs c0) (ns : List Int) (hns : ∀ n ∈ ns, 0 ≤ n ∧ n < 18446744073709551616) (hok : ∀ n ∈ ns, clsN n < 4) (hne : zs ++ encL ns ≠ []) (hsz : zs.length + 8 * ns.length ≤ 1073741824) (hsn : ns.length < 99999) :
    FH Try.prog 17 [r0, .cells (cellsK .u64 ns) true false 1] [.slice (f0 0) zs.length c0, .slice (some ⟨1, 0, none⟩) ns.length ns.length] fun v s1 => v = .tuple #[outV 2 (zs ++ encL ns), .int .i64 0] ∧ s1 = [r0, .cells (cellsK .u64 ns) true false 1, outO (zs ++ encL ns)] := by
  have hl : R64 (plain [r0, .cells (cellsK .u64 ns) true false 1]) (.slice (some ⟨1, 0, none⟩) ns.length ns.length) ns := by
    refine ⟨hns, .inr ⟨1, 0, ns.length, rfl, Nat.lt_succ_self 1, cellsK .u64 ns, true, false, 1, rfl, ?_⟩⟩
    intro j n hj
    rw [Nat.zero_add]
    unfold cellsK
    rw [List.getElem?_map, hj]; rfl
  have hb : RowV (plain [r0, .cells (cellsK .u64 ns) true false 1]) (.slice (f0 0) zs.length c0) zs := hr.row _ 0 rfl (by show 0 < 2; decide)
  obtain ⟨v', A', e, hx, hn, hc⟩ := f17_spec (pre := pre0) (dr := adraw2 Try.prog) (A := plain [r0, .cells (cellsK .u64 ns) true false 1]) (m := 48) rfl rfl rfl hb hl rfl hsz hsn
  rcases hc with ⟨_, w, rfl, hby, hw⟩ | ⟨⟨n, hn1, hn2⟩, _⟩
  · rcases hw with ⟨_, hz⟩ | ⟨b, rfl, h1, h2, h3⟩
    · exact absurd hz hne
    · rw [outO_some hne, outV_some hne]
      refine FH.ofJ1 (call := call0 Try.prog) hcS (by kernel_rfl) e hx hn (fnOk 17 _ Try.func17 (by kernel_rfl) rfl) h1 h2 h3 (groundL_u8s _) ?_ ?_ ?_
      · intro τ _ h
        show Value.tuple #[.slice (some ⟨τ b, 0, none⟩) _ _, .int .i64 0] = _
        rw [h]; rfl
      · intro τ h
        show Value.tuple #[.slice (some ⟨τ 2, 0, none⟩) _ _, .int .i64 0] = _
        rw [h 2 (Nat.lt_succ_self 2)]
      · intro τ h
        exact ⟨.inr (hr.obj τ), .inr (by show AObj.cells (renL τ (cellsK .u64 ns)) true false 1 = _; rw [renL_ground _ (groundL_k _ _)]), trivial⟩
  · exact absurd (hok n hn1) hn2
end Go.Proofs.Ytioggedadamoaaa
