/- param: the document's May. -/
import Derived.Test.YtioggedadamoaaaTiPb
set_option autoImplicit false
set_option linter.unusedVariables false
set_option linter.unusedSimpArgs false
namespace Go.Proofs.Ytioggedadamoaaa
open Go.Abs Go.RowKit
def zUp (p : PN) : Nat → Bool
  | 0 => true
  | j + 1 => zUp p j && ((p.tok.getD j 1) == 0)
theorem zUp_eq (p : PN) : zUp p 16 = zeroTok p := by
  simp [zUp, zeroTok, PN.tok, List.replicate, Bool.and_assoc]
theorem pos_ne {x : Int} (h : 0 ≤ x) : decide (x > 0) = (x != 0) := by
  by_cases h0 : x = 0
  · subst h0; rfl
  · have : x > 0 := by omega
    simp [h0, this]
structure PN.Ok (p : PN) : Prop where
  num : ∀ j, 0 ≤ p.num j ∧ p.num j < 18446744073709551616
  tok : isByte p.tok
set_option maxHeartbeats 4000000 in
theorem f20_fh {r0 r1 : AObj} {fo fc : Nat → Option Addr} {zo zc : List Int} {co cc : Nat} (hro : RowF r0 fo zo co) (hrc : RowF r1 fc zc cc) (p : PN) (hpo : p.Ok) : FH Try.prog 20 [r0, r1] [.agg (pcl (.slice (fo 0) zo.length co) (.slice (fc 1) zc.length cc) p).toArray] (fun v s1 => v = .bool (mayP zo zc p) ∧ s1 = [r0, r1]) := by
  have n1 := pos_ne (hpo.num 1).1
  have n4 := pos_ne (hpo.num 4).1
  have n5 := pos_ne (hpo.num 5).1
  have n6 := pos_ne (hpo.num 6).1
  have n7 := pos_ne (hpo.num 7).1
  have n8 := pos_ne (hpo.num 8).1
  have n9 := pos_ne (hpo.num 9).1
  have n11 := pos_ne (hpo.num 11).1
  have n14 := pos_ne (hpo.num 14).1
  simp only [PN.num] at n1 n4 n5 n6 n7 n8 n9 n11 n14
  refine V.fnh (fn := Try.f20) Try.func20 (by kernel_rfl) rfl rfl fun K w0 g N hB => ?_
  refine V.sr ?_
  refine EV.run (hcS K w0) 2 [1] (S2 := [(1, pT 2)]) (A2 := hp [r0, r1, pO fo fc zo zc co cc p 0 1] g N) rfl (by kernel_rfl) ?_
  refine EV.done rfl ?_
  refine V.sr ?_
  refine EV.run (hcS K w0) 3 [1, 3] (S2 := [(1, pT 2), (3, .slice (some ⟨4, 0, none⟩) 16 16)]) (A2 := hp [r0, r1, pO fo fc zo zc co cc p 0 1, pO fo fc zo zc co cc p 0 1, tblO p] g N) rfl (by kernel_rfl) ?_
  refine EV.done rfl ?_
  refine V.seq ?_
  refine V.sr ?_
  refine EV.runS (hcS K w0) 1 [1, 3, 4] (S2 := [(1, pT 2), (3, .slice (some ⟨4, 0, none⟩) 16 16), (4, .int .i64 0)]) rfl (by kernel_rfl) ?_
  refine EV.done rfl ?_
  refine V.block ?_
  refine V.loop (fun k S A => ∃ (j : Nat) (g : Nat → AObj) (N : Nat), j + k = 17 ∧ j ≤ 16 ∧ okN p j = true ∧ Bulk g N ∧ S = [(1, pT 2), (3, .slice (some ⟨4, 0, none⟩) 16 16), (4, nI j)] ∧ A = hp [r0, r1, pO fo fc zo zc co cc p 0 1, pO fo fc zo zc co cc p 0 1, tblO p] g N) 17 ⟨0, g, N, by decide, by decide, rfl, hB, rfl, rfl⟩ ?_
  rintro k S A ⟨j, g, N, hk, hj, hinv, hB, rfl, rfl⟩
  have hcase : j = 0 ∨ j = 1 ∨ j = 2 ∨ j = 3 ∨ j = 4 ∨ j = 5 ∨ j = 6 ∨ j = 7 ∨ j = 8 ∨ j = 9 ∨ j = 10 ∨ j = 11 ∨ j = 12 ∨ j = 13 ∨ j = 14 ∨ j = 15 ∨ j = 16 ∨ j < 0 := by omega
  rcases hcase with rfl | rfl | rfl | rfl | rfl | rfl | rfl | rfl | rfl | rfl | rfl | rfl | rfl | rfl | rfl | rfl | rfl | hlow
  ·
    obtain rfl : k = 17 := by omega
    refine V.seq ?_
    refine V.sr ?_
    refine EV.run (hcS K w0) 2 [1, 3, 4, 10] (S2 := [(1, pT 2), (3, .slice (some ⟨4, 0, none⟩) 16 16), (4, .int .i64 0), (10, .bool true)]) (A2 := hp [r0, r1, pO fo fc zo zc co cc p 0 1, pO fo fc zo zc co cc p 0 1, tblO p] g N) rfl (by kernel_rfl) ?_
    refine EV.done rfl ?_
    refine V.cond true (by kernel_rfl) (fun _ => ?_) (fun h => Bool.noConfusion h)
    refine V.skip ?_
    refine thenV_n ?_
    refine V.seq ?_
    refine V.block ?_
    refine V.sr ?_
    refine EV.runS (hcS K w0) 14 [1, 3, 4, 26] (S2 := [(1, pT 2), (3, .slice (some ⟨4, 0, none⟩) 16 16), (4, .int .i64 0), (26, .bool false)]) rfl (by kernel_rfl) ?_
    refine EV.done rfl ?_
    refine V.cond false (by kernel_rfl) (fun h => Bool.noConfusion h) (fun _ => ?_)
    refine V.skip ?_
    refine blockQ_n ?_
    refine thenV_n ?_
    refine V.region ?_
    refine EV.runS (hcS K w0) 3 [1, 3, 4] (S2 := [(1, pT 2), (3, .slice (some ⟨4, 0, none⟩) 16 16), (4, .int .i64 1)]) rfl (by kernel_rfl) ?_
    refine EV.done rfl ?_
    exact loopV_n 16 (by decide) ⟨1, g, N, rfl, by decide, by simp_all [okN, PN.num, fitsN_eq], hB, rfl, rfl⟩
  ·
    obtain rfl : k = 16 := by omega
    refine V.seq ?_
    refine V.sr ?_
    refine EV.run (hcS K w0) 2 [1, 3, 4, 10] (S2 := [(1, pT 2), (3, .slice (some ⟨4, 0, none⟩) 16 16), (4, .int .i64 1), (10, .bool true)]) (A2 := hp [r0, r1, pO fo fc zo zc co cc p 0 1, pO fo fc zo zc co cc p 0 1, tblO p] g N) rfl (by kernel_rfl) ?_
    refine EV.done rfl ?_
    refine V.cond true (by kernel_rfl) (fun _ => ?_) (fun h => Bool.noConfusion h)
    refine V.skip ?_
    refine thenV_n ?_
    refine V.seq ?_
    refine V.block ?_
    refine V.sr ?_
    refine EV.runS (hcS K w0) 6 [1, 3, 4, 18] (S2 := [(1, pT 2), (3, .slice (some ⟨4, 0, none⟩) 16 16), (4, .int .i64 1), (18, .bool (decide (p.i1 > 0)))]) rfl (by kernel_rfl) ?_
    rcases (Bool.eq_false_or_eq_true (decide (p.i1 > 0))).symm with hb1 | hb1
    ·
      refine EV.cast (S2 := [(1, pT 2), (3, .slice (some ⟨4, 0, none⟩) 16 16), (4, .int .i64 1), (18, .bool false)]) (by rw [hb1]) rfl ?_
      refine EV.run (hcS K w0) 14 [1, 3, 4, 26] (S2 := [(1, pT 2), (3, .slice (some ⟨4, 0, none⟩) 16 16), (4, .int .i64 1), (26, .bool false)]) (A2 := hp [r0, r1, pO fo fc zo zc co cc p 0 1, pO fo fc zo zc co cc p 0 1, tblO p] g N) rfl (by kernel_rfl) ?_
      refine EV.done rfl ?_
      refine V.cond false (by kernel_rfl) (fun h => Bool.noConfusion h) (fun _ => ?_)
      refine V.skip ?_
      refine blockQ_n ?_
      refine thenV_n ?_
      refine V.region ?_
      refine EV.runS (hcS K w0) 3 [1, 3, 4] (S2 := [(1, pT 2), (3, .slice (some ⟨4, 0, none⟩) 16 16), (4, .int .i64 2)]) rfl (by kernel_rfl) ?_
      refine EV.done rfl ?_
      exact loopV_n 15 (by decide) ⟨2, g, N, rfl, by decide, by simp_all [okN, PN.num, fitsN_eq], hB, rfl, rfl⟩
    ·
      refine EV.cast (S2 := [(1, pT 2), (3, .slice (some ⟨4, 0, none⟩) 16 16), (4, .int .i64 1), (18, .bool true)]) (by rw [hb1]) rfl ?_
      refine EV.run (hcS K w0) 11 [1, 3, 4, 18, 19, 23] (S2 := [(1, pT 2), (3, .slice (some ⟨4, 0, none⟩) 16 16), (4, .int .i64 1), (18, .bool true), (19, .int .i64 1), (23, .int .u64 p.i1)]) (A2 := hp [r0, r1, pO fo fc zo zc co cc p 0 1, pO fo fc zo zc co cc p 0 1, tblO p] g N) rfl (by kernel_rfl) ?_
      refine EV.step (hcS K w0) (v := .bool (fitsN 1 p.i1)) (A1 := hp [r0, r1, pO fo fc zo zc co cc p 0 1, pO fo fc zo zc co cc p 0 1, tblO p] g N) rfl (by kernel_rfl) (eop_call (f := 33) (vs := [.int .i64 1, .int .u64 p.i1]) rfl rfl (by kernel_rfl) (by kernel_rfl) (f33_spec rfl _ _)) ?_
      refine EV.run (hcS K w0) 14 [1, 3, 4, 26] (S2 := [(1, pT 2), (3, .slice (some ⟨4, 0, none⟩) 16 16), (4, .int .i64 1), (26, .bool (!(fitsN 1 p.i1)))]) (A2 := hp [r0, r1, pO fo fc zo zc co cc p 0 1, pO fo fc zo zc co cc p 0 1, tblO p] g N) rfl (by kernel_rfl) ?_
      refine EV.done rfl ?_
      refine V.cond (!(fitsN 1 p.i1)) (by kernel_rfl) (fun h2 => ?_) (fun h2 => ?_)
      ·
        refine V.sr ?_
        refine EV.runS (hcS K w0) 1 [2] (S2 := [(2, .bool false)]) rfl (by kernel_rfl) ?_
        refine EV.done rfl ?_
        refine V.ret ?_
        refine blockQ_r ?_
        refine thenV_r ?_
        refine loopV_r ?_
        refine blockQ_r ?_
        refine thenV_r ?_
        exact EndsH_r hB [.bool false] [0, 1, 64, 64, 64] [0, 1] [r0, r1] (.bool false) (by kernel_rfl) (by kernel_rfl) (by kernel_rfl) ⟨.inr ⟨bl rfl, .inl ((hro.obj _).symm)⟩, .inr ⟨bl rfl, .inl ((hrc.obj _).symm)⟩, .inl (by decide), .inl (by decide), .inl (by decide), trivial⟩ rfl (shut_intro rfl fun τ hτ => ⟨rfl, .inr ((hro.obj _)), .inr ((hrc.obj _)), trivial⟩) ⟨by rw [show mayP zo zc p = false from by have := okN_false p (j := 2) (k := 16) (by simp_all [okN, PN.num, fitsN_eq]) (by decide); simp [mayP, this]], rfl⟩
      ·
        refine V.skip ?_
        refine blockQ_n ?_
        refine thenV_n ?_
        refine V.region ?_
        refine EV.runS (hcS K w0) 3 [1, 3, 4] (S2 := [(1, pT 2), (3, .slice (some ⟨4, 0, none⟩) 16 16), (4, .int .i64 2)]) rfl (by kernel_rfl) ?_
        refine EV.done rfl ?_
        exact loopV_n 15 (by decide) ⟨2, g, N, rfl, by decide, by simp_all [okN, PN.num, fitsN_eq], hB, rfl, rfl⟩
  ·
    obtain rfl : k = 15 := by omega
    refine V.seq ?_
    refine V.sr ?_
    refine EV.run (hcS K w0) 2 [1, 3, 4, 10] (S2 := [(1, pT 2), (3, .slice (some ⟨4, 0, none⟩) 16 16), (4, .int .i64 2), (10, .bool true)]) (A2 := hp [r0, r1, pO fo fc zo zc co cc p 0 1, pO fo fc zo zc co cc p 0 1, tblO p] g N) rfl (by kernel_rfl) ?_
    refine EV.done rfl ?_
    refine V.cond true (by kernel_rfl) (fun _ => ?_) (fun h => Bool.noConfusion h)
    refine V.skip ?_
    refine thenV_n ?_
    refine V.seq ?_
    refine V.block ?_
    refine V.sr ?_
    refine EV.runS (hcS K w0) 14 [1, 3, 4, 26] (S2 := [(1, pT 2), (3, .slice (some ⟨4, 0, none⟩) 16 16), (4, .int .i64 2), (26, .bool false)]) rfl (by kernel_rfl) ?_
    refine EV.done rfl ?_
    refine V.cond false (by kernel_rfl) (fun h => Bool.noConfusion h) (fun _ => ?_)
    refine V.skip ?_
    refine blockQ_n ?_
    refine thenV_n ?_
    refine V.region ?_
    refine EV.runS (hcS K w0) 3 [1, 3, 4] (S2 := [(1, pT 2), (3, .slice (some ⟨4, 0, none⟩) 16 16), (4, .int .i64 3)]) rfl (by kernel_rfl) ?_
    refine EV.done rfl ?_
    exact loopV_n 14 (by decide) ⟨3, g, N, rfl, by decide, by simp_all [okN, PN.num, fitsN_eq], hB, rfl, rfl⟩
  ·
    obtain rfl : k = 14 := by omega
    refine V.seq ?_
    refine V.sr ?_
    refine EV.run (hcS K w0) 2 [1, 3, 4, 10] (S2 := [(1, pT 2), (3, .slice (some ⟨4, 0, none⟩) 16 16), (4, .int .i64 3), (10, .bool true)]) (A2 := hp [r0, r1, pO fo fc zo zc co cc p 0 1, pO fo fc zo zc co cc p 0 1, tblO p] g N) rfl (by kernel_rfl) ?_
    refine EV.done rfl ?_
    refine V.cond true (by kernel_rfl) (fun _ => ?_) (fun h => Bool.noConfusion h)
    refine V.skip ?_
    refine thenV_n ?_
    refine V.seq ?_
    refine V.block ?_
    refine V.sr ?_
    refine EV.runS (hcS K w0) 14 [1, 3, 4, 26] (S2 := [(1, pT 2), (3, .slice (some ⟨4, 0, none⟩) 16 16), (4, .int .i64 3), (26, .bool false)]) rfl (by kernel_rfl) ?_
    refine EV.done rfl ?_
    refine V.cond false (by kernel_rfl) (fun h => Bool.noConfusion h) (fun _ => ?_)
    refine V.skip ?_
    refine blockQ_n ?_
    refine thenV_n ?_
    refine V.region ?_
    refine EV.runS (hcS K w0) 3 [1, 3, 4] (S2 := [(1, pT 2), (3, .slice (some ⟨4, 0, none⟩) 16 16), (4, .int .i64 4)]) rfl (by kernel_rfl) ?_
    refine EV.done rfl ?_
    exact loopV_n 13 (by decide) ⟨4, g, N, rfl, by decide, by simp_all [okN, PN.num, fitsN_eq], hB, rfl, rfl⟩
  ·
    obtain rfl : k = 13 := by omega
    refine V.seq ?_
    refine V.sr ?_
    refine EV.run (hcS K w0) 2 [1, 3, 4, 10] (S2 := [(1, pT 2), (3, .slice (some ⟨4, 0, none⟩) 16 16), (4, .int .i64 4), (10, .bool true)]) (A2 := hp [r0, r1, pO fo fc zo zc co cc p 0 1, pO fo fc zo zc co cc p 0 1, tblO p] g N) rfl (by kernel_rfl) ?_
    refine EV.done rfl ?_
    refine V.cond true (by kernel_rfl) (fun _ => ?_) (fun h => Bool.noConfusion h)
    refine V.skip ?_
    refine thenV_n ?_
    refine V.seq ?_
    refine V.block ?_
    refine V.sr ?_
    refine EV.runS (hcS K w0) 6 [1, 3, 4, 18] (S2 := [(1, pT 2), (3, .slice (some ⟨4, 0, none⟩) 16 16), (4, .int .i64 4), (18, .bool (decide (p.i4 > 0)))]) rfl (by kernel_rfl) ?_
    rcases (Bool.eq_false_or_eq_true (decide (p.i4 > 0))).symm with hb3 | hb3
    ·
      refine EV.cast (S2 := [(1, pT 2), (3, .slice (some ⟨4, 0, none⟩) 16 16), (4, .int .i64 4), (18, .bool false)]) (by rw [hb3]) rfl ?_
      refine EV.run (hcS K w0) 14 [1, 3, 4, 26] (S2 := [(1, pT 2), (3, .slice (some ⟨4, 0, none⟩) 16 16), (4, .int .i64 4), (26, .bool false)]) (A2 := hp [r0, r1, pO fo fc zo zc co cc p 0 1, pO fo fc zo zc co cc p 0 1, tblO p] g N) rfl (by kernel_rfl) ?_
      refine EV.done rfl ?_
      refine V.cond false (by kernel_rfl) (fun h => Bool.noConfusion h) (fun _ => ?_)
      refine V.skip ?_
      refine blockQ_n ?_
      refine thenV_n ?_
      refine V.region ?_
      refine EV.runS (hcS K w0) 3 [1, 3, 4] (S2 := [(1, pT 2), (3, .slice (some ⟨4, 0, none⟩) 16 16), (4, .int .i64 5)]) rfl (by kernel_rfl) ?_
      refine EV.done rfl ?_
      exact loopV_n 12 (by decide) ⟨5, g, N, rfl, by decide, by simp_all [okN, PN.num, fitsN_eq], hB, rfl, rfl⟩
    ·
      refine EV.cast (S2 := [(1, pT 2), (3, .slice (some ⟨4, 0, none⟩) 16 16), (4, .int .i64 4), (18, .bool true)]) (by rw [hb3]) rfl ?_
      refine EV.run (hcS K w0) 11 [1, 3, 4, 18, 19, 23] (S2 := [(1, pT 2), (3, .slice (some ⟨4, 0, none⟩) 16 16), (4, .int .i64 4), (18, .bool true), (19, .int .i64 4), (23, .int .u64 p.i4)]) (A2 := hp [r0, r1, pO fo fc zo zc co cc p 0 1, pO fo fc zo zc co cc p 0 1, tblO p] g N) rfl (by kernel_rfl) ?_
      refine EV.step (hcS K w0) (v := .bool (fitsN 4 p.i4)) (A1 := hp [r0, r1, pO fo fc zo zc co cc p 0 1, pO fo fc zo zc co cc p 0 1, tblO p] g N) rfl (by kernel_rfl) (eop_call (f := 33) (vs := [.int .i64 4, .int .u64 p.i4]) rfl rfl (by kernel_rfl) (by kernel_rfl) (f33_spec rfl _ _)) ?_
      refine EV.run (hcS K w0) 14 [1, 3, 4, 26] (S2 := [(1, pT 2), (3, .slice (some ⟨4, 0, none⟩) 16 16), (4, .int .i64 4), (26, .bool (!(fitsN 4 p.i4)))]) (A2 := hp [r0, r1, pO fo fc zo zc co cc p 0 1, pO fo fc zo zc co cc p 0 1, tblO p] g N) rfl (by kernel_rfl) ?_
      refine EV.done rfl ?_
      refine V.cond (!(fitsN 4 p.i4)) (by kernel_rfl) (fun h4 => ?_) (fun h4 => ?_)
      ·
        refine V.sr ?_
        refine EV.runS (hcS K w0) 1 [2] (S2 := [(2, .bool false)]) rfl (by kernel_rfl) ?_
        refine EV.done rfl ?_
        refine V.ret ?_
        refine blockQ_r ?_
        refine thenV_r ?_
        refine loopV_r ?_
        refine blockQ_r ?_
        refine thenV_r ?_
        exact EndsH_r hB [.bool false] [0, 1, 64, 64, 64] [0, 1] [r0, r1] (.bool false) (by kernel_rfl) (by kernel_rfl) (by kernel_rfl) ⟨.inr ⟨bl rfl, .inl ((hro.obj _).symm)⟩, .inr ⟨bl rfl, .inl ((hrc.obj _).symm)⟩, .inl (by decide), .inl (by decide), .inl (by decide), trivial⟩ rfl (shut_intro rfl fun τ hτ => ⟨rfl, .inr ((hro.obj _)), .inr ((hrc.obj _)), trivial⟩) ⟨by rw [show mayP zo zc p = false from by have := okN_false p (j := 5) (k := 16) (by simp_all [okN, PN.num, fitsN_eq]) (by decide); simp [mayP, this]], rfl⟩
      ·
        refine V.skip ?_
        refine blockQ_n ?_
        refine thenV_n ?_
        refine V.region ?_
        refine EV.runS (hcS K w0) 3 [1, 3, 4] (S2 := [(1, pT 2), (3, .slice (some ⟨4, 0, none⟩) 16 16), (4, .int .i64 5)]) rfl (by kernel_rfl) ?_
        refine EV.done rfl ?_
        exact loopV_n 12 (by decide) ⟨5, g, N, rfl, by decide, by simp_all [okN, PN.num, fitsN_eq], hB, rfl, rfl⟩
  ·
    obtain rfl : k = 12 := by omega
    refine V.seq ?_
    refine V.sr ?_
    refine EV.run (hcS K w0) 2 [1, 3, 4, 10] (S2 := [(1, pT 2), (3, .slice (some ⟨4, 0, none⟩) 16 16), (4, .int .i64 5), (10, .bool true)]) (A2 := hp [r0, r1, pO fo fc zo zc co cc p 0 1, pO fo fc zo zc co cc p 0 1, tblO p] g N) rfl (by kernel_rfl) ?_
    refine EV.done rfl ?_
    refine V.cond true (by kernel_rfl) (fun _ => ?_) (fun h => Bool.noConfusion h)
    refine V.skip ?_
    refine thenV_n ?_
    refine V.seq ?_
    refine V.block ?_
    refine V.sr ?_
    refine EV.runS (hcS K w0) 6 [1, 3, 4, 18] (S2 := [(1, pT 2), (3, .slice (some ⟨4, 0, none⟩) 16 16), (4, .int .i64 5), (18, .bool (decide (p.i5 > 0)))]) rfl (by kernel_rfl) ?_
    rcases (Bool.eq_false_or_eq_true (decide (p.i5 > 0))).symm with hb5 | hb5
    ·
      refine EV.cast (S2 := [(1, pT 2), (3, .slice (some ⟨4, 0, none⟩) 16 16), (4, .int .i64 5), (18, .bool false)]) (by rw [hb5]) rfl ?_
      refine EV.run (hcS K w0) 14 [1, 3, 4, 26] (S2 := [(1, pT 2), (3, .slice (some ⟨4, 0, none⟩) 16 16), (4, .int .i64 5), (26, .bool false)]) (A2 := hp [r0, r1, pO fo fc zo zc co cc p 0 1, pO fo fc zo zc co cc p 0 1, tblO p] g N) rfl (by kernel_rfl) ?_
      refine EV.done rfl ?_
      refine V.cond false (by kernel_rfl) (fun h => Bool.noConfusion h) (fun _ => ?_)
      refine V.skip ?_
      refine blockQ_n ?_
      refine thenV_n ?_
      refine V.region ?_
      refine EV.runS (hcS K w0) 3 [1, 3, 4] (S2 := [(1, pT 2), (3, .slice (some ⟨4, 0, none⟩) 16 16), (4, .int .i64 6)]) rfl (by kernel_rfl) ?_
      refine EV.done rfl ?_
      exact loopV_n 11 (by decide) ⟨6, g, N, rfl, by decide, by simp_all [okN, PN.num, fitsN_eq], hB, rfl, rfl⟩
    ·
      refine EV.cast (S2 := [(1, pT 2), (3, .slice (some ⟨4, 0, none⟩) 16 16), (4, .int .i64 5), (18, .bool true)]) (by rw [hb5]) rfl ?_
      refine EV.run (hcS K w0) 11 [1, 3, 4, 18, 19, 23] (S2 := [(1, pT 2), (3, .slice (some ⟨4, 0, none⟩) 16 16), (4, .int .i64 5), (18, .bool true), (19, .int .i64 5), (23, .int .u64 p.i5)]) (A2 := hp [r0, r1, pO fo fc zo zc co cc p 0 1, pO fo fc zo zc co cc p 0 1, tblO p] g N) rfl (by kernel_rfl) ?_
      refine EV.step (hcS K w0) (v := .bool (fitsN 5 p.i5)) (A1 := hp [r0, r1, pO fo fc zo zc co cc p 0 1, pO fo fc zo zc co cc p 0 1, tblO p] g N) rfl (by kernel_rfl) (eop_call (f := 33) (vs := [.int .i64 5, .int .u64 p.i5]) rfl rfl (by kernel_rfl) (by kernel_rfl) (f33_spec rfl _ _)) ?_
      refine EV.run (hcS K w0) 14 [1, 3, 4, 26] (S2 := [(1, pT 2), (3, .slice (some ⟨4, 0, none⟩) 16 16), (4, .int .i64 5), (26, .bool (!(fitsN 5 p.i5)))]) (A2 := hp [r0, r1, pO fo fc zo zc co cc p 0 1, pO fo fc zo zc co cc p 0 1, tblO p] g N) rfl (by kernel_rfl) ?_
      refine EV.done rfl ?_
      refine V.cond (!(fitsN 5 p.i5)) (by kernel_rfl) (fun h6 => ?_) (fun h6 => ?_)
      ·
        refine V.sr ?_
        refine EV.runS (hcS K w0) 1 [2] (S2 := [(2, .bool false)]) rfl (by kernel_rfl) ?_
        refine EV.done rfl ?_
        refine V.ret ?_
        refine blockQ_r ?_
        refine thenV_r ?_
        refine loopV_r ?_
        refine blockQ_r ?_
        refine thenV_r ?_
        exact EndsH_r hB [.bool false] [0, 1, 64, 64, 64] [0, 1] [r0, r1] (.bool false) (by kernel_rfl) (by kernel_rfl) (by kernel_rfl) ⟨.inr ⟨bl rfl, .inl ((hro.obj _).symm)⟩, .inr ⟨bl rfl, .inl ((hrc.obj _).symm)⟩, .inl (by decide), .inl (by decide), .inl (by decide), trivial⟩ rfl (shut_intro rfl fun τ hτ => ⟨rfl, .inr ((hro.obj _)), .inr ((hrc.obj _)), trivial⟩) ⟨by rw [show mayP zo zc p = false from by have := okN_false p (j := 6) (k := 16) (by simp_all [okN, PN.num, fitsN_eq]) (by decide); simp [mayP, this]], rfl⟩
      ·
        refine V.skip ?_
        refine blockQ_n ?_
        refine thenV_n ?_
        refine V.region ?_
        refine EV.runS (hcS K w0) 3 [1, 3, 4] (S2 := [(1, pT 2), (3, .slice (some ⟨4, 0, none⟩) 16 16), (4, .int .i64 6)]) rfl (by kernel_rfl) ?_
        refine EV.done rfl ?_
        exact loopV_n 11 (by decide) ⟨6, g, N, rfl, by decide, by simp_all [okN, PN.num, fitsN_eq], hB, rfl, rfl⟩
  ·
    obtain rfl : k = 11 := by omega
    refine V.seq ?_
    refine V.sr ?_
    refine EV.run (hcS K w0) 2 [1, 3, 4, 10] (S2 := [(1, pT 2), (3, .slice (some ⟨4, 0, none⟩) 16 16), (4, .int .i64 6), (10, .bool true)]) (A2 := hp [r0, r1, pO fo fc zo zc co cc p 0 1, pO fo fc zo zc co cc p 0 1, tblO p] g N) rfl (by kernel_rfl) ?_
    refine EV.done rfl ?_
    refine V.cond true (by kernel_rfl) (fun _ => ?_) (fun h => Bool.noConfusion h)
    refine V.skip ?_
    refine thenV_n ?_
    refine V.seq ?_
    refine V.block ?_
    refine V.sr ?_
    refine EV.runS (hcS K w0) 6 [1, 3, 4, 18] (S2 := [(1, pT 2), (3, .slice (some ⟨4, 0, none⟩) 16 16), (4, .int .i64 6), (18, .bool (decide (p.i6 > 0)))]) rfl (by kernel_rfl) ?_
    rcases (Bool.eq_false_or_eq_true (decide (p.i6 > 0))).symm with hb7 | hb7
    ·
      refine EV.cast (S2 := [(1, pT 2), (3, .slice (some ⟨4, 0, none⟩) 16 16), (4, .int .i64 6), (18, .bool false)]) (by rw [hb7]) rfl ?_
      refine EV.run (hcS K w0) 14 [1, 3, 4, 26] (S2 := [(1, pT 2), (3, .slice (some ⟨4, 0, none⟩) 16 16), (4, .int .i64 6), (26, .bool false)]) (A2 := hp [r0, r1, pO fo fc zo zc co cc p 0 1, pO fo fc zo zc co cc p 0 1, tblO p] g N) rfl (by kernel_rfl) ?_
      refine EV.done rfl ?_
      refine V.cond false (by kernel_rfl) (fun h => Bool.noConfusion h) (fun _ => ?_)
      refine V.skip ?_
      refine blockQ_n ?_
      refine thenV_n ?_
      refine V.region ?_
      refine EV.runS (hcS K w0) 3 [1, 3, 4] (S2 := [(1, pT 2), (3, .slice (some ⟨4, 0, none⟩) 16 16), (4, .int .i64 7)]) rfl (by kernel_rfl) ?_
      refine EV.done rfl ?_
      exact loopV_n 10 (by decide) ⟨7, g, N, rfl, by decide, by simp_all [okN, PN.num, fitsN_eq], hB, rfl, rfl⟩
    ·
      refine EV.cast (S2 := [(1, pT 2), (3, .slice (some ⟨4, 0, none⟩) 16 16), (4, .int .i64 6), (18, .bool true)]) (by rw [hb7]) rfl ?_
      refine EV.run (hcS K w0) 11 [1, 3, 4, 18, 19, 23] (S2 := [(1, pT 2), (3, .slice (some ⟨4, 0, none⟩) 16 16), (4, .int .i64 6), (18, .bool true), (19, .int .i64 6), (23, .int .u64 p.i6)]) (A2 := hp [r0, r1, pO fo fc zo zc co cc p 0 1, pO fo fc zo zc co cc p 0 1, tblO p] g N) rfl (by kernel_rfl) ?_
      refine EV.step (hcS K w0) (v := .bool (fitsN 6 p.i6)) (A1 := hp [r0, r1, pO fo fc zo zc co cc p 0 1, pO fo fc zo zc co cc p 0 1, tblO p] g N) rfl (by kernel_rfl) (eop_call (f := 33) (vs := [.int .i64 6, .int .u64 p.i6]) rfl rfl (by kernel_rfl) (by kernel_rfl) (f33_spec rfl _ _)) ?_
      refine EV.run (hcS K w0) 14 [1, 3, 4, 26] (S2 := [(1, pT 2), (3, .slice (some ⟨4, 0, none⟩) 16 16), (4, .int .i64 6), (26, .bool (!(fitsN 6 p.i6)))]) (A2 := hp [r0, r1, pO fo fc zo zc co cc p 0 1, pO fo fc zo zc co cc p 0 1, tblO p] g N) rfl (by kernel_rfl) ?_
      refine EV.done rfl ?_
      refine V.cond (!(fitsN 6 p.i6)) (by kernel_rfl) (fun h8 => ?_) (fun h8 => ?_)
      ·
        refine V.sr ?_
        refine EV.runS (hcS K w0) 1 [2] (S2 := [(2, .bool false)]) rfl (by kernel_rfl) ?_
        refine EV.done rfl ?_
        refine V.ret ?_
        refine blockQ_r ?_
        refine thenV_r ?_
        refine loopV_r ?_
        refine blockQ_r ?_
        refine thenV_r ?_
        exact EndsH_r hB [.bool false] [0, 1, 64, 64, 64] [0, 1] [r0, r1] (.bool false) (by kernel_rfl) (by kernel_rfl) (by kernel_rfl) ⟨.inr ⟨bl rfl, .inl ((hro.obj _).symm)⟩, .inr ⟨bl rfl, .inl ((hrc.obj _).symm)⟩, .inl (by decide), .inl (by decide), .inl (by decide), trivial⟩ rfl (shut_intro rfl fun τ hτ => ⟨rfl, .inr ((hro.obj _)), .inr ((hrc.obj _)), trivial⟩) ⟨by rw [show mayP zo zc p = false from by have := okN_false p (j := 7) (k := 16) (by simp_all [okN, PN.num, fitsN_eq]) (by decide); simp [mayP, this]], rfl⟩
      ·
        refine V.skip ?_
        refine blockQ_n ?_
        refine thenV_n ?_
        refine V.region ?_
        refine EV.runS (hcS K w0) 3 [1, 3, 4] (S2 := [(1, pT 2), (3, .slice (some ⟨4, 0, none⟩) 16 16), (4, .int .i64 7)]) rfl (by kernel_rfl) ?_
        refine EV.done rfl ?_
        exact loopV_n 10 (by decide) ⟨7, g, N, rfl, by decide, by simp_all [okN, PN.num, fitsN_eq], hB, rfl, rfl⟩
  ·
    obtain rfl : k = 10 := by omega
    refine V.seq ?_
    refine V.sr ?_
    refine EV.run (hcS K w0) 2 [1, 3, 4, 10] (S2 := [(1, pT 2), (3, .slice (some ⟨4, 0, none⟩) 16 16), (4, .int .i64 7), (10, .bool true)]) (A2 := hp [r0, r1, pO fo fc zo zc co cc p 0 1, pO fo fc zo zc co cc p 0 1, tblO p] g N) rfl (by kernel_rfl) ?_
    refine EV.done rfl ?_
    refine V.cond true (by kernel_rfl) (fun _ => ?_) (fun h => Bool.noConfusion h)
    refine V.skip ?_
    refine thenV_n ?_
    refine V.seq ?_
    refine V.block ?_
    refine V.sr ?_
    refine EV.runS (hcS K w0) 6 [1, 3, 4, 18] (S2 := [(1, pT 2), (3, .slice (some ⟨4, 0, none⟩) 16 16), (4, .int .i64 7), (18, .bool (decide (p.i7 > 0)))]) rfl (by kernel_rfl) ?_
    rcases (Bool.eq_false_or_eq_true (decide (p.i7 > 0))).symm with hb9 | hb9
    ·
      refine EV.cast (S2 := [(1, pT 2), (3, .slice (some ⟨4, 0, none⟩) 16 16), (4, .int .i64 7), (18, .bool false)]) (by rw [hb9]) rfl ?_
      refine EV.run (hcS K w0) 14 [1, 3, 4, 26] (S2 := [(1, pT 2), (3, .slice (some ⟨4, 0, none⟩) 16 16), (4, .int .i64 7), (26, .bool false)]) (A2 := hp [r0, r1, pO fo fc zo zc co cc p 0 1, pO fo fc zo zc co cc p 0 1, tblO p] g N) rfl (by kernel_rfl) ?_
      refine EV.done rfl ?_
      refine V.cond false (by kernel_rfl) (fun h => Bool.noConfusion h) (fun _ => ?_)
      refine V.skip ?_
      refine blockQ_n ?_
      refine thenV_n ?_
      refine V.region ?_
      refine EV.runS (hcS K w0) 3 [1, 3, 4] (S2 := [(1, pT 2), (3, .slice (some ⟨4, 0, none⟩) 16 16), (4, .int .i64 8)]) rfl (by kernel_rfl) ?_
      refine EV.done rfl ?_
      exact loopV_n 9 (by decide) ⟨8, g, N, rfl, by decide, by simp_all [okN, PN.num, fitsN_eq], hB, rfl, rfl⟩
    ·
      refine EV.cast (S2 := [(1, pT 2), (3, .slice (some ⟨4, 0, none⟩) 16 16), (4, .int .i64 7), (18, .bool true)]) (by rw [hb9]) rfl ?_
      refine EV.run (hcS K w0) 11 [1, 3, 4, 18, 19, 23] (S2 := [(1, pT 2), (3, .slice (some ⟨4, 0, none⟩) 16 16), (4, .int .i64 7), (18, .bool true), (19, .int .i64 7), (23, .int .u64 p.i7)]) (A2 := hp [r0, r1, pO fo fc zo zc co cc p 0 1, pO fo fc zo zc co cc p 0 1, tblO p] g N) rfl (by kernel_rfl) ?_
      refine EV.step (hcS K w0) (v := .bool (fitsN 7 p.i7)) (A1 := hp [r0, r1, pO fo fc zo zc co cc p 0 1, pO fo fc zo zc co cc p 0 1, tblO p] g N) rfl (by kernel_rfl) (eop_call (f := 33) (vs := [.int .i64 7, .int .u64 p.i7]) rfl rfl (by kernel_rfl) (by kernel_rfl) (f33_spec rfl _ _)) ?_
      refine EV.run (hcS K w0) 14 [1, 3, 4, 26] (S2 := [(1, pT 2), (3, .slice (some ⟨4, 0, none⟩) 16 16), (4, .int .i64 7), (26, .bool (!(fitsN 7 p.i7)))]) (A2 := hp [r0, r1, pO fo fc zo zc co cc p 0 1, pO fo fc zo zc co cc p 0 1, tblO p] g N) rfl (by kernel_rfl) ?_
      refine EV.done rfl ?_
      refine V.cond (!(fitsN 7 p.i7)) (by kernel_rfl) (fun h10 => ?_) (fun h10 => ?_)
      ·
        refine V.sr ?_
        refine EV.runS (hcS K w0) 1 [2] (S2 := [(2, .bool false)]) rfl (by kernel_rfl) ?_
        refine EV.done rfl ?_
        refine V.ret ?_
        refine blockQ_r ?_
        refine thenV_r ?_
        refine loopV_r ?_
        refine blockQ_r ?_
        refine thenV_r ?_
        exact EndsH_r hB [.bool false] [0, 1, 64, 64, 64] [0, 1] [r0, r1] (.bool false) (by kernel_rfl) (by kernel_rfl) (by kernel_rfl) ⟨.inr ⟨bl rfl, .inl ((hro.obj _).symm)⟩, .inr ⟨bl rfl, .inl ((hrc.obj _).symm)⟩, .inl (by decide), .inl (by decide), .inl (by decide), trivial⟩ rfl (shut_intro rfl fun τ hτ => ⟨rfl, .inr ((hro.obj _)), .inr ((hrc.obj _)), trivial⟩) ⟨by rw [show mayP zo zc p = false from by have := okN_false p (j := 8) (k := 16) (by simp_all [okN, PN.num, fitsN_eq]) (by decide); simp [mayP, this]], rfl⟩
      ·
        refine V.skip ?_
        refine blockQ_n ?_
        refine thenV_n ?_
        refine V.region ?_
        refine EV.runS (hcS K w0) 3 [1, 3, 4] (S2 := [(1, pT 2), (3, .slice (some ⟨4, 0, none⟩) 16 16), (4, .int .i64 8)]) rfl (by kernel_rfl) ?_
        refine EV.done rfl ?_
        exact loopV_n 9 (by decide) ⟨8, g, N, rfl, by decide, by simp_all [okN, PN.num, fitsN_eq], hB, rfl, rfl⟩
  ·
    obtain rfl : k = 9 := by omega
    refine V.seq ?_
    refine V.sr ?_
    refine EV.run (hcS K w0) 2 [1, 3, 4, 10] (S2 := [(1, pT 2), (3, .slice (some ⟨4, 0, none⟩) 16 16), (4, .int .i64 8), (10, .bool true)]) (A2 := hp [r0, r1, pO fo fc zo zc co cc p 0 1, pO fo fc zo zc co cc p 0 1, tblO p] g N) rfl (by kernel_rfl) ?_
    refine EV.done rfl ?_
    refine V.cond true (by kernel_rfl) (fun _ => ?_) (fun h => Bool.noConfusion h)
    refine V.skip ?_
    refine thenV_n ?_
    refine V.seq ?_
    refine V.block ?_
    refine V.sr ?_
    refine EV.runS (hcS K w0) 6 [1, 3, 4, 18] (S2 := [(1, pT 2), (3, .slice (some ⟨4, 0, none⟩) 16 16), (4, .int .i64 8), (18, .bool (decide (p.i8 > 0)))]) rfl (by kernel_rfl) ?_
    rcases (Bool.eq_false_or_eq_true (decide (p.i8 > 0))).symm with hb11 | hb11
    ·
      refine EV.cast (S2 := [(1, pT 2), (3, .slice (some ⟨4, 0, none⟩) 16 16), (4, .int .i64 8), (18, .bool false)]) (by rw [hb11]) rfl ?_
      refine EV.run (hcS K w0) 14 [1, 3, 4, 26] (S2 := [(1, pT 2), (3, .slice (some ⟨4, 0, none⟩) 16 16), (4, .int .i64 8), (26, .bool false)]) (A2 := hp [r0, r1, pO fo fc zo zc co cc p 0 1, pO fo fc zo zc co cc p 0 1, tblO p] g N) rfl (by kernel_rfl) ?_
      refine EV.done rfl ?_
      refine V.cond false (by kernel_rfl) (fun h => Bool.noConfusion h) (fun _ => ?_)
      refine V.skip ?_
      refine blockQ_n ?_
      refine thenV_n ?_
      refine V.region ?_
      refine EV.runS (hcS K w0) 3 [1, 3, 4] (S2 := [(1, pT 2), (3, .slice (some ⟨4, 0, none⟩) 16 16), (4, .int .i64 9)]) rfl (by kernel_rfl) ?_
      refine EV.done rfl ?_
      exact loopV_n 8 (by decide) ⟨9, g, N, rfl, by decide, by simp_all [okN, PN.num, fitsN_eq], hB, rfl, rfl⟩
    ·
      refine EV.cast (S2 := [(1, pT 2), (3, .slice (some ⟨4, 0, none⟩) 16 16), (4, .int .i64 8), (18, .bool true)]) (by rw [hb11]) rfl ?_
      refine EV.run (hcS K w0) 11 [1, 3, 4, 18, 19, 23] (S2 := [(1, pT 2), (3, .slice (some ⟨4, 0, none⟩) 16 16), (4, .int .i64 8), (18, .bool true), (19, .int .i64 8), (23, .int .u64 p.i8)]) (A2 := hp [r0, r1, pO fo fc zo zc co cc p 0 1, pO fo fc zo zc co cc p 0 1, tblO p] g N) rfl (by kernel_rfl) ?_
      refine EV.step (hcS K w0) (v := .bool (fitsN 8 p.i8)) (A1 := hp [r0, r1, pO fo fc zo zc co cc p 0 1, pO fo fc zo zc co cc p 0 1, tblO p] g N) rfl (by kernel_rfl) (eop_call (f := 33) (vs := [.int .i64 8, .int .u64 p.i8]) rfl rfl (by kernel_rfl) (by kernel_rfl) (f33_spec rfl _ _)) ?_
      refine EV.run (hcS K w0) 14 [1, 3, 4, 26] (S2 := [(1, pT 2), (3, .slice (some ⟨4, 0, none⟩) 16 16), (4, .int .i64 8), (26, .bool (!(fitsN 8 p.i8)))]) (A2 := hp [r0, r1, pO fo fc zo zc co cc p 0 1, pO fo fc zo zc co cc p 0 1, tblO p] g N) rfl (by kernel_rfl) ?_
      refine EV.done rfl ?_
      refine V.cond (!(fitsN 8 p.i8)) (by kernel_rfl) (fun h12 => ?_) (fun h12 => ?_)
      ·
        refine V.sr ?_
        refine EV.runS (hcS K w0) 1 [2] (S2 := [(2, .bool false)]) rfl (by kernel_rfl) ?_
        refine EV.done rfl ?_
        refine V.ret ?_
        refine blockQ_r ?_
        refine thenV_r ?_
        refine loopV_r ?_
        refine blockQ_r ?_
        refine thenV_r ?_
        exact EndsH_r hB [.bool false] [0, 1, 64, 64, 64] [0, 1] [r0, r1] (.bool false) (by kernel_rfl) (by kernel_rfl) (by kernel_rfl) ⟨.inr ⟨bl rfl, .inl ((hro.obj _).symm)⟩, .inr ⟨bl rfl, .inl ((hrc.obj _).symm)⟩, .inl (by decide), .inl (by decide), .inl (by decide), trivial⟩ rfl (shut_intro rfl fun τ hτ => ⟨rfl, .inr ((hro.obj _)), .inr ((hrc.obj _)), trivial⟩) ⟨by rw [show mayP zo zc p = false from by have := okN_false p (j := 9) (k := 16) (by simp_all [okN, PN.num, fitsN_eq]) (by decide); simp [mayP, this]], rfl⟩
      ·
        refine V.skip ?_
        refine blockQ_n ?_
        refine thenV_n ?_
        refine V.region ?_
        refine EV.runS (hcS K w0) 3 [1, 3, 4] (S2 := [(1, pT 2), (3, .slice (some ⟨4, 0, none⟩) 16 16), (4, .int .i64 9)]) rfl (by kernel_rfl) ?_
        refine EV.done rfl ?_
        exact loopV_n 8 (by decide) ⟨9, g, N, rfl, by decide, by simp_all [okN, PN.num, fitsN_eq], hB, rfl, rfl⟩
  ·
    obtain rfl : k = 8 := by omega
    refine V.seq ?_
    refine V.sr ?_
    refine EV.run (hcS K w0) 2 [1, 3, 4, 10] (S2 := [(1, pT 2), (3, .slice (some ⟨4, 0, none⟩) 16 16), (4, .int .i64 9), (10, .bool true)]) (A2 := hp [r0, r1, pO fo fc zo zc co cc p 0 1, pO fo fc zo zc co cc p 0 1, tblO p] g N) rfl (by kernel_rfl) ?_
    refine EV.done rfl ?_
    refine V.cond true (by kernel_rfl) (fun _ => ?_) (fun h => Bool.noConfusion h)
    refine V.skip ?_
    refine thenV_n ?_
    refine V.seq ?_
    refine V.block ?_
    refine V.sr ?_
    refine EV.runS (hcS K w0) 6 [1, 3, 4, 18] (S2 := [(1, pT 2), (3, .slice (some ⟨4, 0, none⟩) 16 16), (4, .int .i64 9), (18, .bool (decide (p.i9 > 0)))]) rfl (by kernel_rfl) ?_
    rcases (Bool.eq_false_or_eq_true (decide (p.i9 > 0))).symm with hb13 | hb13
    ·
      refine EV.cast (S2 := [(1, pT 2), (3, .slice (some ⟨4, 0, none⟩) 16 16), (4, .int .i64 9), (18, .bool false)]) (by rw [hb13]) rfl ?_
      refine EV.run (hcS K w0) 14 [1, 3, 4, 26] (S2 := [(1, pT 2), (3, .slice (some ⟨4, 0, none⟩) 16 16), (4, .int .i64 9), (26, .bool false)]) (A2 := hp [r0, r1, pO fo fc zo zc co cc p 0 1, pO fo fc zo zc co cc p 0 1, tblO p] g N) rfl (by kernel_rfl) ?_
      refine EV.done rfl ?_
      refine V.cond false (by kernel_rfl) (fun h => Bool.noConfusion h) (fun _ => ?_)
      refine V.skip ?_
      refine blockQ_n ?_
      refine thenV_n ?_
      refine V.region ?_
      refine EV.runS (hcS K w0) 3 [1, 3, 4] (S2 := [(1, pT 2), (3, .slice (some ⟨4, 0, none⟩) 16 16), (4, .int .i64 10)]) rfl (by kernel_rfl) ?_
      refine EV.done rfl ?_
      exact loopV_n 7 (by decide) ⟨10, g, N, rfl, by decide, by simp_all [okN, PN.num, fitsN_eq], hB, rfl, rfl⟩
    ·
      refine EV.cast (S2 := [(1, pT 2), (3, .slice (some ⟨4, 0, none⟩) 16 16), (4, .int .i64 9), (18, .bool true)]) (by rw [hb13]) rfl ?_
      refine EV.run (hcS K w0) 11 [1, 3, 4, 18, 19, 23] (S2 := [(1, pT 2), (3, .slice (some ⟨4, 0, none⟩) 16 16), (4, .int .i64 9), (18, .bool true), (19, .int .i64 9), (23, .int .u64 p.i9)]) (A2 := hp [r0, r1, pO fo fc zo zc co cc p 0 1, pO fo fc zo zc co cc p 0 1, tblO p] g N) rfl (by kernel_rfl) ?_
      refine EV.step (hcS K w0) (v := .bool (fitsN 9 p.i9)) (A1 := hp [r0, r1, pO fo fc zo zc co cc p 0 1, pO fo fc zo zc co cc p 0 1, tblO p] g N) rfl (by kernel_rfl) (eop_call (f := 33) (vs := [.int .i64 9, .int .u64 p.i9]) rfl rfl (by kernel_rfl) (by kernel_rfl) (f33_spec rfl _ _)) ?_
      refine EV.run (hcS K w0) 14 [1, 3, 4, 26] (S2 := [(1, pT 2), (3, .slice (some ⟨4, 0, none⟩) 16 16), (4, .int .i64 9), (26, .bool (!(fitsN 9 p.i9)))]) (A2 := hp [r0, r1, pO fo fc zo zc co cc p 0 1, pO fo fc zo zc co cc p 0 1, tblO p] g N) rfl (by kernel_rfl) ?_
      refine EV.done rfl ?_
      refine V.cond (!(fitsN 9 p.i9)) (by kernel_rfl) (fun h14 => ?_) (fun h14 => ?_)
      ·
        refine V.sr ?_
        refine EV.runS (hcS K w0) 1 [2] (S2 := [(2, .bool false)]) rfl (by kernel_rfl) ?_
        refine EV.done rfl ?_
        refine V.ret ?_
        refine blockQ_r ?_
        refine thenV_r ?_
        refine loopV_r ?_
        refine blockQ_r ?_
        refine thenV_r ?_
        exact EndsH_r hB [.bool false] [0, 1, 64, 64, 64] [0, 1] [r0, r1] (.bool false) (by kernel_rfl) (by kernel_rfl) (by kernel_rfl) ⟨.inr ⟨bl rfl, .inl ((hro.obj _).symm)⟩, .inr ⟨bl rfl, .inl ((hrc.obj _).symm)⟩, .inl (by decide), .inl (by decide), .inl (by decide), trivial⟩ rfl (shut_intro rfl fun τ hτ => ⟨rfl, .inr ((hro.obj _)), .inr ((hrc.obj _)), trivial⟩) ⟨by rw [show mayP zo zc p = false from by have := okN_false p (j := 10) (k := 16) (by simp_all [okN, PN.num, fitsN_eq]) (by decide); simp [mayP, this]], rfl⟩
      ·
        refine V.skip ?_
        refine blockQ_n ?_
        refine thenV_n ?_
        refine V.region ?_
        refine EV.runS (hcS K w0) 3 [1, 3, 4] (S2 := [(1, pT 2), (3, .slice (some ⟨4, 0, none⟩) 16 16), (4, .int .i64 10)]) rfl (by kernel_rfl) ?_
        refine EV.done rfl ?_
        exact loopV_n 7 (by decide) ⟨10, g, N, rfl, by decide, by simp_all [okN, PN.num, fitsN_eq], hB, rfl, rfl⟩
  ·
    obtain rfl : k = 7 := by omega
    refine V.seq ?_
    refine V.sr ?_
    refine EV.run (hcS K w0) 2 [1, 3, 4, 10] (S2 := [(1, pT 2), (3, .slice (some ⟨4, 0, none⟩) 16 16), (4, .int .i64 10), (10, .bool true)]) (A2 := hp [r0, r1, pO fo fc zo zc co cc p 0 1, pO fo fc zo zc co cc p 0 1, tblO p] g N) rfl (by kernel_rfl) ?_
    refine EV.done rfl ?_
    refine V.cond true (by kernel_rfl) (fun _ => ?_) (fun h => Bool.noConfusion h)
    refine V.skip ?_
    refine thenV_n ?_
    refine V.seq ?_
    refine V.block ?_
    refine V.sr ?_
    refine EV.runS (hcS K w0) 14 [1, 3, 4, 26] (S2 := [(1, pT 2), (3, .slice (some ⟨4, 0, none⟩) 16 16), (4, .int .i64 10), (26, .bool false)]) rfl (by kernel_rfl) ?_
    refine EV.done rfl ?_
    refine V.cond false (by kernel_rfl) (fun h => Bool.noConfusion h) (fun _ => ?_)
    refine V.skip ?_
    refine blockQ_n ?_
    refine thenV_n ?_
    refine V.region ?_
    refine EV.runS (hcS K w0) 3 [1, 3, 4] (S2 := [(1, pT 2), (3, .slice (some ⟨4, 0, none⟩) 16 16), (4, .int .i64 11)]) rfl (by kernel_rfl) ?_
    refine EV.done rfl ?_
    exact loopV_n 6 (by decide) ⟨11, g, N, rfl, by decide, by simp_all [okN, PN.num, fitsN_eq], hB, rfl, rfl⟩
  ·
    obtain rfl : k = 6 := by omega
    refine V.seq ?_
    refine V.sr ?_
    refine EV.run (hcS K w0) 2 [1, 3, 4, 10] (S2 := [(1, pT 2), (3, .slice (some ⟨4, 0, none⟩) 16 16), (4, .int .i64 11), (10, .bool true)]) (A2 := hp [r0, r1, pO fo fc zo zc co cc p 0 1, pO fo fc zo zc co cc p 0 1, tblO p] g N) rfl (by kernel_rfl) ?_
    refine EV.done rfl ?_
    refine V.cond true (by kernel_rfl) (fun _ => ?_) (fun h => Bool.noConfusion h)
    refine V.skip ?_
    refine thenV_n ?_
    refine V.seq ?_
    refine V.block ?_
    refine V.sr ?_
    refine EV.runS (hcS K w0) 6 [1, 3, 4, 18] (S2 := [(1, pT 2), (3, .slice (some ⟨4, 0, none⟩) 16 16), (4, .int .i64 11), (18, .bool (decide (p.i11 > 0)))]) rfl (by kernel_rfl) ?_
    rcases (Bool.eq_false_or_eq_true (decide (p.i11 > 0))).symm with hb15 | hb15
    ·
      refine EV.cast (S2 := [(1, pT 2), (3, .slice (some ⟨4, 0, none⟩) 16 16), (4, .int .i64 11), (18, .bool false)]) (by rw [hb15]) rfl ?_
      refine EV.run (hcS K w0) 14 [1, 3, 4, 26] (S2 := [(1, pT 2), (3, .slice (some ⟨4, 0, none⟩) 16 16), (4, .int .i64 11), (26, .bool false)]) (A2 := hp [r0, r1, pO fo fc zo zc co cc p 0 1, pO fo fc zo zc co cc p 0 1, tblO p] g N) rfl (by kernel_rfl) ?_
      refine EV.done rfl ?_
      refine V.cond false (by kernel_rfl) (fun h => Bool.noConfusion h) (fun _ => ?_)
      refine V.skip ?_
      refine blockQ_n ?_
      refine thenV_n ?_
      refine V.region ?_
      refine EV.runS (hcS K w0) 3 [1, 3, 4] (S2 := [(1, pT 2), (3, .slice (some ⟨4, 0, none⟩) 16 16), (4, .int .i64 12)]) rfl (by kernel_rfl) ?_
      refine EV.done rfl ?_
      exact loopV_n 5 (by decide) ⟨12, g, N, rfl, by decide, by simp_all [okN, PN.num, fitsN_eq], hB, rfl, rfl⟩
    ·
      refine EV.cast (S2 := [(1, pT 2), (3, .slice (some ⟨4, 0, none⟩) 16 16), (4, .int .i64 11), (18, .bool true)]) (by rw [hb15]) rfl ?_
      refine EV.run (hcS K w0) 11 [1, 3, 4, 18, 19, 23] (S2 := [(1, pT 2), (3, .slice (some ⟨4, 0, none⟩) 16 16), (4, .int .i64 11), (18, .bool true), (19, .int .i64 11), (23, .int .u64 p.i11)]) (A2 := hp [r0, r1, pO fo fc zo zc co cc p 0 1, pO fo fc zo zc co cc p 0 1, tblO p] g N) rfl (by kernel_rfl) ?_
      refine EV.step (hcS K w0) (v := .bool (fitsN 11 p.i11)) (A1 := hp [r0, r1, pO fo fc zo zc co cc p 0 1, pO fo fc zo zc co cc p 0 1, tblO p] g N) rfl (by kernel_rfl) (eop_call (f := 33) (vs := [.int .i64 11, .int .u64 p.i11]) rfl rfl (by kernel_rfl) (by kernel_rfl) (f33_spec rfl _ _)) ?_
      refine EV.run (hcS K w0) 14 [1, 3, 4, 26] (S2 := [(1, pT 2), (3, .slice (some ⟨4, 0, none⟩) 16 16), (4, .int .i64 11), (26, .bool (!(fitsN 11 p.i11)))]) (A2 := hp [r0, r1, pO fo fc zo zc co cc p 0 1, pO fo fc zo zc co cc p 0 1, tblO p] g N) rfl (by kernel_rfl) ?_
      refine EV.done rfl ?_
      refine V.cond (!(fitsN 11 p.i11)) (by kernel_rfl) (fun h16 => ?_) (fun h16 => ?_)
      ·
        refine V.sr ?_
        refine EV.runS (hcS K w0) 1 [2] (S2 := [(2, .bool false)]) rfl (by kernel_rfl) ?_
        refine EV.done rfl ?_
        refine V.ret ?_
        refine blockQ_r ?_
        refine thenV_r ?_
        refine loopV_r ?_
        refine blockQ_r ?_
        refine thenV_r ?_
        exact EndsH_r hB [.bool false] [0, 1, 64, 64, 64] [0, 1] [r0, r1] (.bool false) (by kernel_rfl) (by kernel_rfl) (by kernel_rfl) ⟨.inr ⟨bl rfl, .inl ((hro.obj _).symm)⟩, .inr ⟨bl rfl, .inl ((hrc.obj _).symm)⟩, .inl (by decide), .inl (by decide), .inl (by decide), trivial⟩ rfl (shut_intro rfl fun τ hτ => ⟨rfl, .inr ((hro.obj _)), .inr ((hrc.obj _)), trivial⟩) ⟨by rw [show mayP zo zc p = false from by have := okN_false p (j := 12) (k := 16) (by simp_all [okN, PN.num, fitsN_eq]) (by decide); simp [mayP, this]], rfl⟩
      ·
        refine V.skip ?_
        refine blockQ_n ?_
        refine thenV_n ?_
        refine V.region ?_
        refine EV.runS (hcS K w0) 3 [1, 3, 4] (S2 := [(1, pT 2), (3, .slice (some ⟨4, 0, none⟩) 16 16), (4, .int .i64 12)]) rfl (by kernel_rfl) ?_
        refine EV.done rfl ?_
        exact loopV_n 5 (by decide) ⟨12, g, N, rfl, by decide, by simp_all [okN, PN.num, fitsN_eq], hB, rfl, rfl⟩
  ·
    obtain rfl : k = 5 := by omega
    refine V.seq ?_
    refine V.sr ?_
    refine EV.run (hcS K w0) 2 [1, 3, 4, 10] (S2 := [(1, pT 2), (3, .slice (some ⟨4, 0, none⟩) 16 16), (4, .int .i64 12), (10, .bool true)]) (A2 := hp [r0, r1, pO fo fc zo zc co cc p 0 1, pO fo fc zo zc co cc p 0 1, tblO p] g N) rfl (by kernel_rfl) ?_
    refine EV.done rfl ?_
    refine V.cond true (by kernel_rfl) (fun _ => ?_) (fun h => Bool.noConfusion h)
    refine V.skip ?_
    refine thenV_n ?_
    refine V.seq ?_
    refine V.block ?_
    refine V.sr ?_
    refine EV.runS (hcS K w0) 14 [1, 3, 4, 26] (S2 := [(1, pT 2), (3, .slice (some ⟨4, 0, none⟩) 16 16), (4, .int .i64 12), (26, .bool false)]) rfl (by kernel_rfl) ?_
    refine EV.done rfl ?_
    refine V.cond false (by kernel_rfl) (fun h => Bool.noConfusion h) (fun _ => ?_)
    refine V.skip ?_
    refine blockQ_n ?_
    refine thenV_n ?_
    refine V.region ?_
    refine EV.runS (hcS K w0) 3 [1, 3, 4] (S2 := [(1, pT 2), (3, .slice (some ⟨4, 0, none⟩) 16 16), (4, .int .i64 13)]) rfl (by kernel_rfl) ?_
    refine EV.done rfl ?_
    exact loopV_n 4 (by decide) ⟨13, g, N, rfl, by decide, by simp_all [okN, PN.num, fitsN_eq], hB, rfl, rfl⟩
  ·
    obtain rfl : k = 4 := by omega
    refine V.seq ?_
    refine V.sr ?_
    refine EV.run (hcS K w0) 2 [1, 3, 4, 10] (S2 := [(1, pT 2), (3, .slice (some ⟨4, 0, none⟩) 16 16), (4, .int .i64 13), (10, .bool true)]) (A2 := hp [r0, r1, pO fo fc zo zc co cc p 0 1, pO fo fc zo zc co cc p 0 1, tblO p] g N) rfl (by kernel_rfl) ?_
    refine EV.done rfl ?_
    refine V.cond true (by kernel_rfl) (fun _ => ?_) (fun h => Bool.noConfusion h)
    refine V.skip ?_
    refine thenV_n ?_
    refine V.seq ?_
    refine V.block ?_
    refine V.sr ?_
    refine EV.runS (hcS K w0) 14 [1, 3, 4, 26] (S2 := [(1, pT 2), (3, .slice (some ⟨4, 0, none⟩) 16 16), (4, .int .i64 13), (26, .bool false)]) rfl (by kernel_rfl) ?_
    refine EV.done rfl ?_
    refine V.cond false (by kernel_rfl) (fun h => Bool.noConfusion h) (fun _ => ?_)
    refine V.skip ?_
    refine blockQ_n ?_
    refine thenV_n ?_
    refine V.region ?_
    refine EV.runS (hcS K w0) 3 [1, 3, 4] (S2 := [(1, pT 2), (3, .slice (some ⟨4, 0, none⟩) 16 16), (4, .int .i64 14)]) rfl (by kernel_rfl) ?_
    refine EV.done rfl ?_
    exact loopV_n 3 (by decide) ⟨14, g, N, rfl, by decide, by simp_all [okN, PN.num, fitsN_eq], hB, rfl, rfl⟩
  ·
    obtain rfl : k = 3 := by omega
    refine V.seq ?_
    refine V.sr ?_
    refine EV.run (hcS K w0) 2 [1, 3, 4, 10] (S2 := [(1, pT 2), (3, .slice (some ⟨4, 0, none⟩) 16 16), (4, .int .i64 14), (10, .bool true)]) (A2 := hp [r0, r1, pO fo fc zo zc co cc p 0 1, pO fo fc zo zc co cc p 0 1, tblO p] g N) rfl (by kernel_rfl) ?_
    refine EV.done rfl ?_
    refine V.cond true (by kernel_rfl) (fun _ => ?_) (fun h => Bool.noConfusion h)
    refine V.skip ?_
    refine thenV_n ?_
    refine V.seq ?_
    refine V.block ?_
    refine V.sr ?_
    refine EV.runS (hcS K w0) 6 [1, 3, 4, 18] (S2 := [(1, pT 2), (3, .slice (some ⟨4, 0, none⟩) 16 16), (4, .int .i64 14), (18, .bool (decide (p.i14 > 0)))]) rfl (by kernel_rfl) ?_
    rcases (Bool.eq_false_or_eq_true (decide (p.i14 > 0))).symm with hb17 | hb17
    ·
      refine EV.cast (S2 := [(1, pT 2), (3, .slice (some ⟨4, 0, none⟩) 16 16), (4, .int .i64 14), (18, .bool false)]) (by rw [hb17]) rfl ?_
      refine EV.run (hcS K w0) 14 [1, 3, 4, 26] (S2 := [(1, pT 2), (3, .slice (some ⟨4, 0, none⟩) 16 16), (4, .int .i64 14), (26, .bool false)]) (A2 := hp [r0, r1, pO fo fc zo zc co cc p 0 1, pO fo fc zo zc co cc p 0 1, tblO p] g N) rfl (by kernel_rfl) ?_
      refine EV.done rfl ?_
      refine V.cond false (by kernel_rfl) (fun h => Bool.noConfusion h) (fun _ => ?_)
      refine V.skip ?_
      refine blockQ_n ?_
      refine thenV_n ?_
      refine V.region ?_
      refine EV.runS (hcS K w0) 3 [1, 3, 4] (S2 := [(1, pT 2), (3, .slice (some ⟨4, 0, none⟩) 16 16), (4, .int .i64 15)]) rfl (by kernel_rfl) ?_
      refine EV.done rfl ?_
      exact loopV_n 2 (by decide) ⟨15, g, N, rfl, by decide, by simp_all [okN, PN.num, fitsN_eq], hB, rfl, rfl⟩
    ·
      refine EV.cast (S2 := [(1, pT 2), (3, .slice (some ⟨4, 0, none⟩) 16 16), (4, .int .i64 14), (18, .bool true)]) (by rw [hb17]) rfl ?_
      refine EV.run (hcS K w0) 11 [1, 3, 4, 18, 19, 23] (S2 := [(1, pT 2), (3, .slice (some ⟨4, 0, none⟩) 16 16), (4, .int .i64 14), (18, .bool true), (19, .int .i64 14), (23, .int .u64 p.i14)]) (A2 := hp [r0, r1, pO fo fc zo zc co cc p 0 1, pO fo fc zo zc co cc p 0 1, tblO p] g N) rfl (by kernel_rfl) ?_
      refine EV.step (hcS K w0) (v := .bool (fitsN 14 p.i14)) (A1 := hp [r0, r1, pO fo fc zo zc co cc p 0 1, pO fo fc zo zc co cc p 0 1, tblO p] g N) rfl (by kernel_rfl) (eop_call (f := 33) (vs := [.int .i64 14, .int .u64 p.i14]) rfl rfl (by kernel_rfl) (by kernel_rfl) (f33_spec rfl _ _)) ?_
      refine EV.run (hcS K w0) 14 [1, 3, 4, 26] (S2 := [(1, pT 2), (3, .slice (some ⟨4, 0, none⟩) 16 16), (4, .int .i64 14), (26, .bool (!(fitsN 14 p.i14)))]) (A2 := hp [r0, r1, pO fo fc zo zc co cc p 0 1, pO fo fc zo zc co cc p 0 1, tblO p] g N) rfl (by kernel_rfl) ?_
      refine EV.done rfl ?_
      refine V.cond (!(fitsN 14 p.i14)) (by kernel_rfl) (fun h18 => ?_) (fun h18 => ?_)
      ·
        refine V.sr ?_
        refine EV.runS (hcS K w0) 1 [2] (S2 := [(2, .bool false)]) rfl (by kernel_rfl) ?_
        refine EV.done rfl ?_
        refine V.ret ?_
        refine blockQ_r ?_
        refine thenV_r ?_
        refine loopV_r ?_
        refine blockQ_r ?_
        refine thenV_r ?_
        exact EndsH_r hB [.bool false] [0, 1, 64, 64, 64] [0, 1] [r0, r1] (.bool false) (by kernel_rfl) (by kernel_rfl) (by kernel_rfl) ⟨.inr ⟨bl rfl, .inl ((hro.obj _).symm)⟩, .inr ⟨bl rfl, .inl ((hrc.obj _).symm)⟩, .inl (by decide), .inl (by decide), .inl (by decide), trivial⟩ rfl (shut_intro rfl fun τ hτ => ⟨rfl, .inr ((hro.obj _)), .inr ((hrc.obj _)), trivial⟩) ⟨by rw [show mayP zo zc p = false from by have := okN_false p (j := 15) (k := 16) (by simp_all [okN, PN.num, fitsN_eq]) (by decide); simp [mayP, this]], rfl⟩
      ·
        refine V.skip ?_
        refine blockQ_n ?_
        refine thenV_n ?_
        refine V.region ?_
        refine EV.runS (hcS K w0) 3 [1, 3, 4] (S2 := [(1, pT 2), (3, .slice (some ⟨4, 0, none⟩) 16 16), (4, .int .i64 15)]) rfl (by kernel_rfl) ?_
        refine EV.done rfl ?_
        exact loopV_n 2 (by decide) ⟨15, g, N, rfl, by decide, by simp_all [okN, PN.num, fitsN_eq], hB, rfl, rfl⟩
  ·
    obtain rfl : k = 2 := by omega
    refine V.seq ?_
    refine V.sr ?_
    refine EV.run (hcS K w0) 2 [1, 3, 4, 10] (S2 := [(1, pT 2), (3, .slice (some ⟨4, 0, none⟩) 16 16), (4, .int .i64 15), (10, .bool true)]) (A2 := hp [r0, r1, pO fo fc zo zc co cc p 0 1, pO fo fc zo zc co cc p 0 1, tblO p] g N) rfl (by kernel_rfl) ?_
    refine EV.done rfl ?_
    refine V.cond true (by kernel_rfl) (fun _ => ?_) (fun h => Bool.noConfusion h)
    refine V.skip ?_
    refine thenV_n ?_
    refine V.seq ?_
    refine V.block ?_
    refine V.sr ?_
    refine EV.runS (hcS K w0) 14 [1, 3, 4, 26] (S2 := [(1, pT 2), (3, .slice (some ⟨4, 0, none⟩) 16 16), (4, .int .i64 15), (26, .bool false)]) rfl (by kernel_rfl) ?_
    refine EV.done rfl ?_
    refine V.cond false (by kernel_rfl) (fun h => Bool.noConfusion h) (fun _ => ?_)
    refine V.skip ?_
    refine blockQ_n ?_
    refine thenV_n ?_
    refine V.region ?_
    refine EV.runS (hcS K w0) 3 [1, 3, 4] (S2 := [(1, pT 2), (3, .slice (some ⟨4, 0, none⟩) 16 16), (4, .int .i64 16)]) rfl (by kernel_rfl) ?_
    refine EV.done rfl ?_
    exact loopV_n 1 (by decide) ⟨16, g, N, rfl, by decide, by simp_all [okN, PN.num, fitsN_eq], hB, rfl, rfl⟩
  ·
    obtain rfl : k = 1 := by omega
    refine V.seq ?_
    refine V.sr ?_
    refine EV.run (hcS K w0) 2 [1, 3, 4, 10] (S2 := [(1, pT 2), (3, .slice (some ⟨4, 0, none⟩) 16 16), (4, .int .i64 16), (10, .bool false)]) (A2 := hp [r0, r1, pO fo fc zo zc co cc p 0 1, pO fo fc zo zc co cc p 0 1, tblO p] g N) rfl (by kernel_rfl) ?_
    refine EV.done rfl ?_
    refine V.cond false (by kernel_rfl) (fun h => Bool.noConfusion h) (fun _ => ?_)
    refine V.exit ?_
    refine thenV_e ?_
    refine loopV_e ?_
    have hok := hinv
    refine blockQ_hit ?_
    refine thenV_n ?_
    refine V.sr ?_
    refine EV.run (hcS K w0) 1 [1, 5] (S2 := [(1, pT 2), (5, .bool true)]) (A2 := hp [r0, r1, pO fo fc zo zc co cc p 0 1, pO fo fc zo zc co cc p 0 1, tblO p] g N) rfl (by kernel_rfl) ?_
    refine EV.done rfl ?_
    refine V.seq ?_
    refine V.sr ?_
    refine EV.runS (hcS K w0) 1 [1, 5, 6] (S2 := [(1, pT 2), (5, .bool true), (6, .int .i64 0)]) rfl (by kernel_rfl) ?_
    refine EV.done rfl ?_
    refine V.block ?_
    refine V.loop (fun k S A => ∃ (j : Nat) (z : Bool) (g : Nat → AObj) (N : Nat), j + k = 17 ∧ j ≤ 16 ∧ z = zUp p j ∧ Bulk g N ∧ S = [(1, pT 2), (5, .bool z), (6, nI j)] ∧ A = hp [r0, r1, pO fo fc zo zc co cc p 0 1, pO fo fc zo zc co cc p 0 1, tblO p] g N) 17 ⟨0, true, g, N, by decide, by decide, rfl, hB, rfl, rfl⟩ ?_
    rintro k S A ⟨j, z, g, N, hk, hj, hinv, hB, rfl, rfl⟩
    have hcase : j = 0 ∨ j = 1 ∨ j = 2 ∨ j = 3 ∨ j = 4 ∨ j = 5 ∨ j = 6 ∨ j = 7 ∨ j = 8 ∨ j = 9 ∨ j = 10 ∨ j = 11 ∨ j = 12 ∨ j = 13 ∨ j = 14 ∨ j = 15 ∨ j = 16 ∨ j < 0 := by omega
    rcases hcase with rfl | rfl | rfl | rfl | rfl | rfl | rfl | rfl | rfl | rfl | rfl | rfl | rfl | rfl | rfl | rfl | rfl | hlow
    ·
      obtain rfl : k = 17 := by omega
      refine V.seq ?_
      refine V.sr ?_
      refine EV.run (hcS K w0) 2 [1, 5, 6, 28] (S2 := [(1, pT 2), (5, .bool z), (6, .int .i64 0), (28, .bool true)]) (A2 := hp [r0, r1, pO fo fc zo zc co cc p 0 1, pO fo fc zo zc co cc p 0 1, tblO p] g N) rfl (by kernel_rfl) ?_
      refine EV.done rfl ?_
      refine V.cond true (by kernel_rfl) (fun _ => ?_) (fun h => Bool.noConfusion h)
      refine V.skip ?_
      refine thenV_n ?_
      refine V.seq ?_
      refine V.block ?_
      refine V.region ?_
      refine EV.runS (hcS K w0) 2 [1, 5, 6, 32] (S2 := [(1, pT 2), (5, .bool z), (6, .int .i64 0), (32, .bool z)]) rfl (by kernel_rfl) ?_
      rcases (Bool.eq_false_or_eq_true (z)).symm with hb19 | hb19
      ·
        refine EV.cast (S2 := [(1, pT 2), (5, .bool false), (6, .int .i64 0), (32, .bool false)]) (by rw [hb19]) rfl ?_
        refine EV.run (hcS K w0) 9 [1, 5, 6] (S2 := [(1, pT 2), (5, .bool false), (6, .int .i64 0)]) (A2 := hp [r0, r1, pO fo fc zo zc co cc p 0 1, pO fo fc zo zc co cc p 0 1, tblO p] g N) rfl (by kernel_rfl) ?_
        refine EV.done rfl ?_
        refine blockQ_n ?_
        refine thenV_n ?_
        refine V.region ?_
        refine EV.runS (hcS K w0) 3 [1, 5, 6] (S2 := [(1, pT 2), (5, .bool false), (6, .int .i64 1)]) rfl (by kernel_rfl) ?_
        refine EV.done rfl ?_
        exact loopV_n 16 (by decide) ⟨1, false, g, N, rfl, by decide, by simp_all [zUp, PN.tok], hB, rfl, rfl⟩
      ·
        refine EV.cast (S2 := [(1, pT 2), (5, .bool true), (6, .int .i64 0), (32, .bool true)]) (by rw [hb19]) rfl ?_
        refine EV.run (hcS K w0) 9 [1, 5, 6] (S2 := [(1, pT 2), (5, .bool (p.t0 == 0)), (6, .int .i64 0)]) (A2 := hp [r0, r1, pO fo fc zo zc co cc p 0 1, pO fo fc zo zc co cc p 0 1, tblO p] g N) rfl (by kernel_rfl) ?_
        refine EV.done rfl ?_
        refine blockQ_n ?_
        refine thenV_n ?_
        refine V.region ?_
        refine EV.runS (hcS K w0) 3 [1, 5, 6] (S2 := [(1, pT 2), (5, .bool (p.t0 == 0)), (6, .int .i64 1)]) rfl (by kernel_rfl) ?_
        refine EV.done rfl ?_
        exact loopV_n 16 (by decide) ⟨1, p.t0 == 0, g, N, rfl, by decide, by simp_all [zUp, PN.tok], hB, rfl, rfl⟩
    ·
      obtain rfl : k = 16 := by omega
      refine V.seq ?_
      refine V.sr ?_
      refine EV.run (hcS K w0) 2 [1, 5, 6, 28] (S2 := [(1, pT 2), (5, .bool z), (6, .int .i64 1), (28, .bool true)]) (A2 := hp [r0, r1, pO fo fc zo zc co cc p 0 1, pO fo fc zo zc co cc p 0 1, tblO p] g N) rfl (by kernel_rfl) ?_
      refine EV.done rfl ?_
      refine V.cond true (by kernel_rfl) (fun _ => ?_) (fun h => Bool.noConfusion h)
      refine V.skip ?_
      refine thenV_n ?_
      refine V.seq ?_
      refine V.block ?_
      refine V.region ?_
      refine EV.runS (hcS K w0) 2 [1, 5, 6, 32] (S2 := [(1, pT 2), (5, .bool z), (6, .int .i64 1), (32, .bool z)]) rfl (by kernel_rfl) ?_
      rcases (Bool.eq_false_or_eq_true (z)).symm with hb20 | hb20
      ·
        refine EV.cast (S2 := [(1, pT 2), (5, .bool false), (6, .int .i64 1), (32, .bool false)]) (by rw [hb20]) rfl ?_
        refine EV.run (hcS K w0) 9 [1, 5, 6] (S2 := [(1, pT 2), (5, .bool false), (6, .int .i64 1)]) (A2 := hp [r0, r1, pO fo fc zo zc co cc p 0 1, pO fo fc zo zc co cc p 0 1, tblO p] g N) rfl (by kernel_rfl) ?_
        refine EV.done rfl ?_
        refine blockQ_n ?_
        refine thenV_n ?_
        refine V.region ?_
        refine EV.runS (hcS K w0) 3 [1, 5, 6] (S2 := [(1, pT 2), (5, .bool false), (6, .int .i64 2)]) rfl (by kernel_rfl) ?_
        refine EV.done rfl ?_
        exact loopV_n 15 (by decide) ⟨2, false, g, N, rfl, by decide, by simp_all [zUp, PN.tok], hB, rfl, rfl⟩
      ·
        refine EV.cast (S2 := [(1, pT 2), (5, .bool true), (6, .int .i64 1), (32, .bool true)]) (by rw [hb20]) rfl ?_
        refine EV.run (hcS K w0) 9 [1, 5, 6] (S2 := [(1, pT 2), (5, .bool (p.t1 == 0)), (6, .int .i64 1)]) (A2 := hp [r0, r1, pO fo fc zo zc co cc p 0 1, pO fo fc zo zc co cc p 0 1, tblO p] g N) rfl (by kernel_rfl) ?_
        refine EV.done rfl ?_
        refine blockQ_n ?_
        refine thenV_n ?_
        refine V.region ?_
        refine EV.runS (hcS K w0) 3 [1, 5, 6] (S2 := [(1, pT 2), (5, .bool (p.t1 == 0)), (6, .int .i64 2)]) rfl (by kernel_rfl) ?_
        refine EV.done rfl ?_
        exact loopV_n 15 (by decide) ⟨2, p.t1 == 0, g, N, rfl, by decide, by simp_all [zUp, PN.tok], hB, rfl, rfl⟩
    ·
      obtain rfl : k = 15 := by omega
      refine V.seq ?_
      refine V.sr ?_
      refine EV.run (hcS K w0) 2 [1, 5, 6, 28] (S2 := [(1, pT 2), (5, .bool z), (6, .int .i64 2), (28, .bool true)]) (A2 := hp [r0, r1, pO fo fc zo zc co cc p 0 1, pO fo fc zo zc co cc p 0 1, tblO p] g N) rfl (by kernel_rfl) ?_
      refine EV.done rfl ?_
      refine V.cond true (by kernel_rfl) (fun _ => ?_) (fun h => Bool.noConfusion h)
      refine V.skip ?_
      refine thenV_n ?_
      refine V.seq ?_
      refine V.block ?_
      refine V.region ?_
      refine EV.runS (hcS K w0) 2 [1, 5, 6, 32] (S2 := [(1, pT 2), (5, .bool z), (6, .int .i64 2), (32, .bool z)]) rfl (by kernel_rfl) ?_
      rcases (Bool.eq_false_or_eq_true (z)).symm with hb21 | hb21
      ·
        refine EV.cast (S2 := [(1, pT 2), (5, .bool false), (6, .int .i64 2), (32, .bool false)]) (by rw [hb21]) rfl ?_
        refine EV.run (hcS K w0) 9 [1, 5, 6] (S2 := [(1, pT 2), (5, .bool false), (6, .int .i64 2)]) (A2 := hp [r0, r1, pO fo fc zo zc co cc p 0 1, pO fo fc zo zc co cc p 0 1, tblO p] g N) rfl (by kernel_rfl) ?_
        refine EV.done rfl ?_
        refine blockQ_n ?_
        refine thenV_n ?_
        refine V.region ?_
        refine EV.runS (hcS K w0) 3 [1, 5, 6] (S2 := [(1, pT 2), (5, .bool false), (6, .int .i64 3)]) rfl (by kernel_rfl) ?_
        refine EV.done rfl ?_
        exact loopV_n 14 (by decide) ⟨3, false, g, N, rfl, by decide, by simp_all [zUp, PN.tok], hB, rfl, rfl⟩
      ·
        refine EV.cast (S2 := [(1, pT 2), (5, .bool true), (6, .int .i64 2), (32, .bool true)]) (by rw [hb21]) rfl ?_
        refine EV.run (hcS K w0) 9 [1, 5, 6] (S2 := [(1, pT 2), (5, .bool (p.t2 == 0)), (6, .int .i64 2)]) (A2 := hp [r0, r1, pO fo fc zo zc co cc p 0 1, pO fo fc zo zc co cc p 0 1, tblO p] g N) rfl (by kernel_rfl) ?_
        refine EV.done rfl ?_
        refine blockQ_n ?_
        refine thenV_n ?_
        refine V.region ?_
        refine EV.runS (hcS K w0) 3 [1, 5, 6] (S2 := [(1, pT 2), (5, .bool (p.t2 == 0)), (6, .int .i64 3)]) rfl (by kernel_rfl) ?_
        refine EV.done rfl ?_
        exact loopV_n 14 (by decide) ⟨3, p.t2 == 0, g, N, rfl, by decide, by simp_all [zUp, PN.tok], hB, rfl, rfl⟩
    ·
      obtain rfl : k = 14 := by omega
      refine V.seq ?_
      refine V.sr ?_
      refine EV.run (hcS K w0) 2 [1, 5, 6, 28] (S2 := [(1, pT 2), (5, .bool z), (6, .int .i64 3), (28, .bool true)]) (A2 := hp [r0, r1, pO fo fc zo zc co cc p 0 1, pO fo fc zo zc co cc p 0 1, tblO p] g N) rfl (by kernel_rfl) ?_
      refine EV.done rfl ?_
      refine V.cond true (by kernel_rfl) (fun _ => ?_) (fun h => Bool.noConfusion h)
      refine V.skip ?_
      refine thenV_n ?_
      refine V.seq ?_
      refine V.block ?_
      refine V.region ?_
      refine EV.runS (hcS K w0) 2 [1, 5, 6, 32] (S2 := [(1, pT 2), (5, .bool z), (6, .int .i64 3), (32, .bool z)]) rfl (by kernel_rfl) ?_
      rcases (Bool.eq_false_or_eq_true (z)).symm with hb22 | hb22
      ·
        refine EV.cast (S2 := [(1, pT 2), (5, .bool false), (6, .int .i64 3), (32, .bool false)]) (by rw [hb22]) rfl ?_
        refine EV.run (hcS K w0) 9 [1, 5, 6] (S2 := [(1, pT 2), (5, .bool false), (6, .int .i64 3)]) (A2 := hp [r0, r1, pO fo fc zo zc co cc p 0 1, pO fo fc zo zc co cc p 0 1, tblO p] g N) rfl (by kernel_rfl) ?_
        refine EV.done rfl ?_
        refine blockQ_n ?_
        refine thenV_n ?_
        refine V.region ?_
        refine EV.runS (hcS K w0) 3 [1, 5, 6] (S2 := [(1, pT 2), (5, .bool false), (6, .int .i64 4)]) rfl (by kernel_rfl) ?_
        refine EV.done rfl ?_
        exact loopV_n 13 (by decide) ⟨4, false, g, N, rfl, by decide, by simp_all [zUp, PN.tok], hB, rfl, rfl⟩
      ·
        refine EV.cast (S2 := [(1, pT 2), (5, .bool true), (6, .int .i64 3), (32, .bool true)]) (by rw [hb22]) rfl ?_
        refine EV.run (hcS K w0) 9 [1, 5, 6] (S2 := [(1, pT 2), (5, .bool (p.t3 == 0)), (6, .int .i64 3)]) (A2 := hp [r0, r1, pO fo fc zo zc co cc p 0 1, pO fo fc zo zc co cc p 0 1, tblO p] g N) rfl (by kernel_rfl) ?_
        refine EV.done rfl ?_
        refine blockQ_n ?_
        refine thenV_n ?_
        refine V.region ?_
        refine EV.runS (hcS K w0) 3 [1, 5, 6] (S2 := [(1, pT 2), (5, .bool (p.t3 == 0)), (6, .int .i64 4)]) rfl (by kernel_rfl) ?_
        refine EV.done rfl ?_
        exact loopV_n 13 (by decide) ⟨4, p.t3 == 0, g, N, rfl, by decide, by simp_all [zUp, PN.tok], hB, rfl, rfl⟩
    ·
      obtain rfl : k = 13 := by omega
      refine V.seq ?_
      refine V.sr ?_
      refine EV.run (hcS K w0) 2 [1, 5, 6, 28] (S2 := [(1, pT 2), (5, .bool z), (6, .int .i64 4), (28, .bool true)]) (A2 := hp [r0, r1, pO fo fc zo zc co cc p 0 1, pO fo fc zo zc co cc p 0 1, tblO p] g N) rfl (by kernel_rfl) ?_
      refine EV.done rfl ?_
      refine V.cond true (by kernel_rfl) (fun _ => ?_) (fun h => Bool.noConfusion h)
      refine V.skip ?_
      refine thenV_n ?_
      refine V.seq ?_
      refine V.block ?_
      refine V.region ?_
      refine EV.runS (hcS K w0) 2 [1, 5, 6, 32] (S2 := [(1, pT 2), (5, .bool z), (6, .int .i64 4), (32, .bool z)]) rfl (by kernel_rfl) ?_
      rcases (Bool.eq_false_or_eq_true (z)).symm with hb23 | hb23
      ·
        refine EV.cast (S2 := [(1, pT 2), (5, .bool false), (6, .int .i64 4), (32, .bool false)]) (by rw [hb23]) rfl ?_
        refine EV.run (hcS K w0) 9 [1, 5, 6] (S2 := [(1, pT 2), (5, .bool false), (6, .int .i64 4)]) (A2 := hp [r0, r1, pO fo fc zo zc co cc p 0 1, pO fo fc zo zc co cc p 0 1, tblO p] g N) rfl (by kernel_rfl) ?_
        refine EV.done rfl ?_
        refine blockQ_n ?_
        refine thenV_n ?_
        refine V.region ?_
        refine EV.runS (hcS K w0) 3 [1, 5, 6] (S2 := [(1, pT 2), (5, .bool false), (6, .int .i64 5)]) rfl (by kernel_rfl) ?_
        refine EV.done rfl ?_
        exact loopV_n 12 (by decide) ⟨5, false, g, N, rfl, by decide, by simp_all [zUp, PN.tok], hB, rfl, rfl⟩
      ·
        refine EV.cast (S2 := [(1, pT 2), (5, .bool true), (6, .int .i64 4), (32, .bool true)]) (by rw [hb23]) rfl ?_
        refine EV.run (hcS K w0) 9 [1, 5, 6] (S2 := [(1, pT 2), (5, .bool (p.t4 == 0)), (6, .int .i64 4)]) (A2 := hp [r0, r1, pO fo fc zo zc co cc p 0 1, pO fo fc zo zc co cc p 0 1, tblO p] g N) rfl (by kernel_rfl) ?_
        refine EV.done rfl ?_
        refine blockQ_n ?_
        refine thenV_n ?_
        refine V.region ?_
        refine EV.runS (hcS K w0) 3 [1, 5, 6] (S2 := [(1, pT 2), (5, .bool (p.t4 == 0)), (6, .int .i64 5)]) rfl (by kernel_rfl) ?_
        refine EV.done rfl ?_
        exact loopV_n 12 (by decide) ⟨5, p.t4 == 0, g, N, rfl, by decide, by simp_all [zUp, PN.tok], hB, rfl, rfl⟩
    ·
      obtain rfl : k = 12 := by omega
      refine V.seq ?_
      refine V.sr ?_
      refine EV.run (hcS K w0) 2 [1, 5, 6, 28] (S2 := [(1, pT 2), (5, .bool z), (6, .int .i64 5), (28, .bool true)]) (A2 := hp [r0, r1, pO fo fc zo zc co cc p 0 1, pO fo fc zo zc co cc p 0 1, tblO p] g N) rfl (by kernel_rfl) ?_
      refine EV.done rfl ?_
      refine V.cond true (by kernel_rfl) (fun _ => ?_) (fun h => Bool.noConfusion h)
      refine V.skip ?_
      refine thenV_n ?_
      refine V.seq ?_
      refine V.block ?_
      refine V.region ?_
      refine EV.runS (hcS K w0) 2 [1, 5, 6, 32] (S2 := [(1, pT 2), (5, .bool z), (6, .int .i64 5), (32, .bool z)]) rfl (by kernel_rfl) ?_
      rcases (Bool.eq_false_or_eq_true (z)).symm with hb24 | hb24
      ·
        refine EV.cast (S2 := [(1, pT 2), (5, .bool false), (6, .int .i64 5), (32, .bool false)]) (by rw [hb24]) rfl ?_
        refine EV.run (hcS K w0) 9 [1, 5, 6] (S2 := [(1, pT 2), (5, .bool false), (6, .int .i64 5)]) (A2 := hp [r0, r1, pO fo fc zo zc co cc p 0 1, pO fo fc zo zc co cc p 0 1, tblO p] g N) rfl (by kernel_rfl) ?_
        refine EV.done rfl ?_
        refine blockQ_n ?_
        refine thenV_n ?_
        refine V.region ?_
        refine EV.runS (hcS K w0) 3 [1, 5, 6] (S2 := [(1, pT 2), (5, .bool false), (6, .int .i64 6)]) rfl (by kernel_rfl) ?_
        refine EV.done rfl ?_
        exact loopV_n 11 (by decide) ⟨6, false, g, N, rfl, by decide, by simp_all [zUp, PN.tok], hB, rfl, rfl⟩
      ·
        refine EV.cast (S2 := [(1, pT 2), (5, .bool true), (6, .int .i64 5), (32, .bool true)]) (by rw [hb24]) rfl ?_
        refine EV.run (hcS K w0) 9 [1, 5, 6] (S2 := [(1, pT 2), (5, .bool (p.t5 == 0)), (6, .int .i64 5)]) (A2 := hp [r0, r1, pO fo fc zo zc co cc p 0 1, pO fo fc zo zc co cc p 0 1, tblO p] g N) rfl (by kernel_rfl) ?_
        refine EV.done rfl ?_
        refine blockQ_n ?_
        refine thenV_n ?_
        refine V.region ?_
        refine EV.runS (hcS K w0) 3 [1, 5, 6] (S2 := [(1, pT 2), (5, .bool (p.t5 == 0)), (6, .int .i64 6)]) rfl (by kernel_rfl) ?_
        refine EV.done rfl ?_
        exact loopV_n 11 (by decide) ⟨6, p.t5 == 0, g, N, rfl, by decide, by simp_all [zUp, PN.tok], hB, rfl, rfl⟩
    ·
      obtain rfl : k = 11 := by omega
      refine V.seq ?_
      refine V.sr ?_
      refine EV.run (hcS K w0) 2 [1, 5, 6, 28] (S2 := [(1, pT 2), (5, .bool z), (6, .int .i64 6), (28, .bool true)]) (A2 := hp [r0, r1, pO fo fc zo zc co cc p 0 1, pO fo fc zo zc co cc p 0 1, tblO p] g N) rfl (by kernel_rfl) ?_
      refine EV.done rfl ?_
      refine V.cond true (by kernel_rfl) (fun _ => ?_) (fun h => Bool.noConfusion h)
      refine V.skip ?_
      refine thenV_n ?_
      refine V.seq ?_
      refine V.block ?_
      refine V.region ?_
      refine EV.runS (hcS K w0) 2 [1, 5, 6, 32] (S2 := [(1, pT 2), (5, .bool z), (6, .int .i64 6), (32, .bool z)]) rfl (by kernel_rfl) ?_
      rcases (Bool.eq_false_or_eq_true (z)).symm with hb25 | hb25
      ·
        refine EV.cast (S2 := [(1, pT 2), (5, .bool false), (6, .int .i64 6), (32, .bool false)]) (by rw [hb25]) rfl ?_
        refine EV.run (hcS K w0) 9 [1, 5, 6] (S2 := [(1, pT 2), (5, .bool false), (6, .int .i64 6)]) (A2 := hp [r0, r1, pO fo fc zo zc co cc p 0 1, pO fo fc zo zc co cc p 0 1, tblO p] g N) rfl (by kernel_rfl) ?_
        refine EV.done rfl ?_
        refine blockQ_n ?_
        refine thenV_n ?_
        refine V.region ?_
        refine EV.runS (hcS K w0) 3 [1, 5, 6] (S2 := [(1, pT 2), (5, .bool false), (6, .int .i64 7)]) rfl (by kernel_rfl) ?_
        refine EV.done rfl ?_
        exact loopV_n 10 (by decide) ⟨7, false, g, N, rfl, by decide, by simp_all [zUp, PN.tok], hB, rfl, rfl⟩
      ·
        refine EV.cast (S2 := [(1, pT 2), (5, .bool true), (6, .int .i64 6), (32, .bool true)]) (by rw [hb25]) rfl ?_
        refine EV.run (hcS K w0) 9 [1, 5, 6] (S2 := [(1, pT 2), (5, .bool (p.t6 == 0)), (6, .int .i64 6)]) (A2 := hp [r0, r1, pO fo fc zo zc co cc p 0 1, pO fo fc zo zc co cc p 0 1, tblO p] g N) rfl (by kernel_rfl) ?_
        refine EV.done rfl ?_
        refine blockQ_n ?_
        refine thenV_n ?_
        refine V.region ?_
        refine EV.runS (hcS K w0) 3 [1, 5, 6] (S2 := [(1, pT 2), (5, .bool (p.t6 == 0)), (6, .int .i64 7)]) rfl (by kernel_rfl) ?_
        refine EV.done rfl ?_
        exact loopV_n 10 (by decide) ⟨7, p.t6 == 0, g, N, rfl, by decide, by simp_all [zUp, PN.tok], hB, rfl, rfl⟩
    ·
      obtain rfl : k = 10 := by omega
      refine V.seq ?_
      refine V.sr ?_
      refine EV.run (hcS K w0) 2 [1, 5, 6, 28] (S2 := [(1, pT 2), (5, .bool z), (6, .int .i64 7), (28, .bool true)]) (A2 := hp [r0, r1, pO fo fc zo zc co cc p 0 1, pO fo fc zo zc co cc p 0 1, tblO p] g N) rfl (by kernel_rfl) ?_
      refine EV.done rfl ?_
      refine V.cond true (by kernel_rfl) (fun _ => ?_) (fun h => Bool.noConfusion h)
      refine V.skip ?_
      refine thenV_n ?_
      refine V.seq ?_
      refine V.block ?_
      refine V.region ?_
      refine EV.runS (hcS K w0) 2 [1, 5, 6, 32] (S2 := [(1, pT 2), (5, .bool z), (6, .int .i64 7), (32, .bool z)]) rfl (by kernel_rfl) ?_
      rcases (Bool.eq_false_or_eq_true (z)).symm with hb26 | hb26
      ·
        refine EV.cast (S2 := [(1, pT 2), (5, .bool false), (6, .int .i64 7), (32, .bool false)]) (by rw [hb26]) rfl ?_
        refine EV.run (hcS K w0) 9 [1, 5, 6] (S2 := [(1, pT 2), (5, .bool false), (6, .int .i64 7)]) (A2 := hp [r0, r1, pO fo fc zo zc co cc p 0 1, pO fo fc zo zc co cc p 0 1, tblO p] g N) rfl (by kernel_rfl) ?_
        refine EV.done rfl ?_
        refine blockQ_n ?_
        refine thenV_n ?_
        refine V.region ?_
        refine EV.runS (hcS K w0) 3 [1, 5, 6] (S2 := [(1, pT 2), (5, .bool false), (6, .int .i64 8)]) rfl (by kernel_rfl) ?_
        refine EV.done rfl ?_
        exact loopV_n 9 (by decide) ⟨8, false, g, N, rfl, by decide, by simp_all [zUp, PN.tok], hB, rfl, rfl⟩
      ·
        refine EV.cast (S2 := [(1, pT 2), (5, .bool true), (6, .int .i64 7), (32, .bool true)]) (by rw [hb26]) rfl ?_
        refine EV.run (hcS K w0) 9 [1, 5, 6] (S2 := [(1, pT 2), (5, .bool (p.t7 == 0)), (6, .int .i64 7)]) (A2 := hp [r0, r1, pO fo fc zo zc co cc p 0 1, pO fo fc zo zc co cc p 0 1, tblO p] g N) rfl (by kernel_rfl) ?_
        refine EV.done rfl ?_
        refine blockQ_n ?_
        refine thenV_n ?_
        refine V.region ?_
        refine EV.runS (hcS K w0) 3 [1, 5, 6] (S2 := [(1, pT 2), (5, .bool (p.t7 == 0)), (6, .int .i64 8)]) rfl (by kernel_rfl) ?_
        refine EV.done rfl ?_
        exact loopV_n 9 (by decide) ⟨8, p.t7 == 0, g, N, rfl, by decide, by simp_all [zUp, PN.tok], hB, rfl, rfl⟩
    ·
      obtain rfl : k = 9 := by omega
      refine V.seq ?_
      refine V.sr ?_
      refine EV.run (hcS K w0) 2 [1, 5, 6, 28] (S2 := [(1, pT 2), (5, .bool z), (6, .int .i64 8), (28, .bool true)]) (A2 := hp [r0, r1, pO fo fc zo zc co cc p 0 1, pO fo fc zo zc co cc p 0 1, tblO p] g N) rfl (by kernel_rfl) ?_
      refine EV.done rfl ?_
      refine V.cond true (by kernel_rfl) (fun _ => ?_) (fun h => Bool.noConfusion h)
      refine V.skip ?_
      refine thenV_n ?_
      refine V.seq ?_
      refine V.block ?_
      refine V.region ?_
      refine EV.runS (hcS K w0) 2 [1, 5, 6, 32] (S2 := [(1, pT 2), (5, .bool z), (6, .int .i64 8), (32, .bool z)]) rfl (by kernel_rfl) ?_
      rcases (Bool.eq_false_or_eq_true (z)).symm with hb27 | hb27
      ·
        refine EV.cast (S2 := [(1, pT 2), (5, .bool false), (6, .int .i64 8), (32, .bool false)]) (by rw [hb27]) rfl ?_
        refine EV.run (hcS K w0) 9 [1, 5, 6] (S2 := [(1, pT 2), (5, .bool false), (6, .int .i64 8)]) (A2 := hp [r0, r1, pO fo fc zo zc co cc p 0 1, pO fo fc zo zc co cc p 0 1, tblO p] g N) rfl (by kernel_rfl) ?_
        refine EV.done rfl ?_
        refine blockQ_n ?_
        refine thenV_n ?_
        refine V.region ?_
        refine EV.runS (hcS K w0) 3 [1, 5, 6] (S2 := [(1, pT 2), (5, .bool false), (6, .int .i64 9)]) rfl (by kernel_rfl) ?_
        refine EV.done rfl ?_
        exact loopV_n 8 (by decide) ⟨9, false, g, N, rfl, by decide, by simp_all [zUp, PN.tok], hB, rfl, rfl⟩
      ·
        refine EV.cast (S2 := [(1, pT 2), (5, .bool true), (6, .int .i64 8), (32, .bool true)]) (by rw [hb27]) rfl ?_
        refine EV.run (hcS K w0) 9 [1, 5, 6] (S2 := [(1, pT 2), (5, .bool (p.t8 == 0)), (6, .int .i64 8)]) (A2 := hp [r0, r1, pO fo fc zo zc co cc p 0 1, pO fo fc zo zc co cc p 0 1, tblO p] g N) rfl (by kernel_rfl) ?_
        refine EV.done rfl ?_
        refine blockQ_n ?_
        refine thenV_n ?_
        refine V.region ?_
        refine EV.runS (hcS K w0) 3 [1, 5, 6] (S2 := [(1, pT 2), (5, .bool (p.t8 == 0)), (6, .int .i64 9)]) rfl (by kernel_rfl) ?_
        refine EV.done rfl ?_
        exact loopV_n 8 (by decide) ⟨9, p.t8 == 0, g, N, rfl, by decide, by simp_all [zUp, PN.tok], hB, rfl, rfl⟩
    ·
      obtain rfl : k = 8 := by omega
      refine V.seq ?_
      refine V.sr ?_
      refine EV.run (hcS K w0) 2 [1, 5, 6, 28] (S2 := [(1, pT 2), (5, .bool z), (6, .int .i64 9), (28, .bool true)]) (A2 := hp [r0, r1, pO fo fc zo zc co cc p 0 1, pO fo fc zo zc co cc p 0 1, tblO p] g N) rfl (by kernel_rfl) ?_
      refine EV.done rfl ?_
      refine V.cond true (by kernel_rfl) (fun _ => ?_) (fun h => Bool.noConfusion h)
      refine V.skip ?_
      refine thenV_n ?_
      refine V.seq ?_
      refine V.block ?_
      refine V.region ?_
      refine EV.runS (hcS K w0) 2 [1, 5, 6, 32] (S2 := [(1, pT 2), (5, .bool z), (6, .int .i64 9), (32, .bool z)]) rfl (by kernel_rfl) ?_
      rcases (Bool.eq_false_or_eq_true (z)).symm with hb28 | hb28
      ·
        refine EV.cast (S2 := [(1, pT 2), (5, .bool false), (6, .int .i64 9), (32, .bool false)]) (by rw [hb28]) rfl ?_
        refine EV.run (hcS K w0) 9 [1, 5, 6] (S2 := [(1, pT 2), (5, .bool false), (6, .int .i64 9)]) (A2 := hp [r0, r1, pO fo fc zo zc co cc p 0 1, pO fo fc zo zc co cc p 0 1, tblO p] g N) rfl (by kernel_rfl) ?_
        refine EV.done rfl ?_
        refine blockQ_n ?_
        refine thenV_n ?_
        refine V.region ?_
        refine EV.runS (hcS K w0) 3 [1, 5, 6] (S2 := [(1, pT 2), (5, .bool false), (6, .int .i64 10)]) rfl (by kernel_rfl) ?_
        refine EV.done rfl ?_
        exact loopV_n 7 (by decide) ⟨10, false, g, N, rfl, by decide, by simp_all [zUp, PN.tok], hB, rfl, rfl⟩
      ·
        refine EV.cast (S2 := [(1, pT 2), (5, .bool true), (6, .int .i64 9), (32, .bool true)]) (by rw [hb28]) rfl ?_
        refine EV.run (hcS K w0) 9 [1, 5, 6] (S2 := [(1, pT 2), (5, .bool (p.t9 == 0)), (6, .int .i64 9)]) (A2 := hp [r0, r1, pO fo fc zo zc co cc p 0 1, pO fo fc zo zc co cc p 0 1, tblO p] g N) rfl (by kernel_rfl) ?_
        refine EV.done rfl ?_
        refine blockQ_n ?_
        refine thenV_n ?_
        refine V.region ?_
        refine EV.runS (hcS K w0) 3 [1, 5, 6] (S2 := [(1, pT 2), (5, .bool (p.t9 == 0)), (6, .int .i64 10)]) rfl (by kernel_rfl) ?_
        refine EV.done rfl ?_
        exact loopV_n 7 (by decide) ⟨10, p.t9 == 0, g, N, rfl, by decide, by simp_all [zUp, PN.tok], hB, rfl, rfl⟩
    ·
      obtain rfl : k = 7 := by omega
      refine V.seq ?_
      refine V.sr ?_
      refine EV.run (hcS K w0) 2 [1, 5, 6, 28] (S2 := [(1, pT 2), (5, .bool z), (6, .int .i64 10), (28, .bool true)]) (A2 := hp [r0, r1, pO fo fc zo zc co cc p 0 1, pO fo fc zo zc co cc p 0 1, tblO p] g N) rfl (by kernel_rfl) ?_
      refine EV.done rfl ?_
      refine V.cond true (by kernel_rfl) (fun _ => ?_) (fun h => Bool.noConfusion h)
      refine V.skip ?_
      refine thenV_n ?_
      refine V.seq ?_
      refine V.block ?_
      refine V.region ?_
      refine EV.runS (hcS K w0) 2 [1, 5, 6, 32] (S2 := [(1, pT 2), (5, .bool z), (6, .int .i64 10), (32, .bool z)]) rfl (by kernel_rfl) ?_
      rcases (Bool.eq_false_or_eq_true (z)).symm with hb29 | hb29
      ·
        refine EV.cast (S2 := [(1, pT 2), (5, .bool false), (6, .int .i64 10), (32, .bool false)]) (by rw [hb29]) rfl ?_
        refine EV.run (hcS K w0) 9 [1, 5, 6] (S2 := [(1, pT 2), (5, .bool false), (6, .int .i64 10)]) (A2 := hp [r0, r1, pO fo fc zo zc co cc p 0 1, pO fo fc zo zc co cc p 0 1, tblO p] g N) rfl (by kernel_rfl) ?_
        refine EV.done rfl ?_
        refine blockQ_n ?_
        refine thenV_n ?_
        refine V.region ?_
        refine EV.runS (hcS K w0) 3 [1, 5, 6] (S2 := [(1, pT 2), (5, .bool false), (6, .int .i64 11)]) rfl (by kernel_rfl) ?_
        refine EV.done rfl ?_
        exact loopV_n 6 (by decide) ⟨11, false, g, N, rfl, by decide, by simp_all [zUp, PN.tok], hB, rfl, rfl⟩
      ·
        refine EV.cast (S2 := [(1, pT 2), (5, .bool true), (6, .int .i64 10), (32, .bool true)]) (by rw [hb29]) rfl ?_
        refine EV.run (hcS K w0) 9 [1, 5, 6] (S2 := [(1, pT 2), (5, .bool (p.t10 == 0)), (6, .int .i64 10)]) (A2 := hp [r0, r1, pO fo fc zo zc co cc p 0 1, pO fo fc zo zc co cc p 0 1, tblO p] g N) rfl (by kernel_rfl) ?_
        refine EV.done rfl ?_
        refine blockQ_n ?_
        refine thenV_n ?_
        refine V.region ?_
        refine EV.runS (hcS K w0) 3 [1, 5, 6] (S2 := [(1, pT 2), (5, .bool (p.t10 == 0)), (6, .int .i64 11)]) rfl (by kernel_rfl) ?_
        refine EV.done rfl ?_
        exact loopV_n 6 (by decide) ⟨11, p.t10 == 0, g, N, rfl, by decide, by simp_all [zUp, PN.tok], hB, rfl, rfl⟩
    ·
      obtain rfl : k = 6 := by omega
      refine V.seq ?_
      refine V.sr ?_
      refine EV.run (hcS K w0) 2 [1, 5, 6, 28] (S2 := [(1, pT 2), (5, .bool z), (6, .int .i64 11), (28, .bool true)]) (A2 := hp [r0, r1, pO fo fc zo zc co cc p 0 1, pO fo fc zo zc co cc p 0 1, tblO p] g N) rfl (by kernel_rfl) ?_
      refine EV.done rfl ?_
      refine V.cond true (by kernel_rfl) (fun _ => ?_) (fun h => Bool.noConfusion h)
      refine V.skip ?_
      refine thenV_n ?_
      refine V.seq ?_
      refine V.block ?_
      refine V.region ?_
      refine EV.runS (hcS K w0) 2 [1, 5, 6, 32] (S2 := [(1, pT 2), (5, .bool z), (6, .int .i64 11), (32, .bool z)]) rfl (by kernel_rfl) ?_
      rcases (Bool.eq_false_or_eq_true (z)).symm with hb30 | hb30
      ·
        refine EV.cast (S2 := [(1, pT 2), (5, .bool false), (6, .int .i64 11), (32, .bool false)]) (by rw [hb30]) rfl ?_
        refine EV.run (hcS K w0) 9 [1, 5, 6] (S2 := [(1, pT 2), (5, .bool false), (6, .int .i64 11)]) (A2 := hp [r0, r1, pO fo fc zo zc co cc p 0 1, pO fo fc zo zc co cc p 0 1, tblO p] g N) rfl (by kernel_rfl) ?_
        refine EV.done rfl ?_
        refine blockQ_n ?_
        refine thenV_n ?_
        refine V.region ?_
        refine EV.runS (hcS K w0) 3 [1, 5, 6] (S2 := [(1, pT 2), (5, .bool false), (6, .int .i64 12)]) rfl (by kernel_rfl) ?_
        refine EV.done rfl ?_
        exact loopV_n 5 (by decide) ⟨12, false, g, N, rfl, by decide, by simp_all [zUp, PN.tok], hB, rfl, rfl⟩
      ·
        refine EV.cast (S2 := [(1, pT 2), (5, .bool true), (6, .int .i64 11), (32, .bool true)]) (by rw [hb30]) rfl ?_
        refine EV.run (hcS K w0) 9 [1, 5, 6] (S2 := [(1, pT 2), (5, .bool (p.t11 == 0)), (6, .int .i64 11)]) (A2 := hp [r0, r1, pO fo fc zo zc co cc p 0 1, pO fo fc zo zc co cc p 0 1, tblO p] g N) rfl (by kernel_rfl) ?_
        refine EV.done rfl ?_
        refine blockQ_n ?_
        refine thenV_n ?_
        refine V.region ?_
        refine EV.runS (hcS K w0) 3 [1, 5, 6] (S2 := [(1, pT 2), (5, .bool (p.t11 == 0)), (6, .int .i64 12)]) rfl (by kernel_rfl) ?_
        refine EV.done rfl ?_
        exact loopV_n 5 (by decide) ⟨12, p.t11 == 0, g, N, rfl, by decide, by simp_all [zUp, PN.tok], hB, rfl, rfl⟩
    ·
      obtain rfl : k = 5 := by omega
      refine V.seq ?_
      refine V.sr ?_
      refine EV.run (hcS K w0) 2 [1, 5, 6, 28] (S2 := [(1, pT 2), (5, .bool z), (6, .int .i64 12), (28, .bool true)]) (A2 := hp [r0, r1, pO fo fc zo zc co cc p 0 1, pO fo fc zo zc co cc p 0 1, tblO p] g N) rfl (by kernel_rfl) ?_
      refine EV.done rfl ?_
      refine V.cond true (by kernel_rfl) (fun _ => ?_) (fun h => Bool.noConfusion h)
      refine V.skip ?_
      refine thenV_n ?_
      refine V.seq ?_
      refine V.block ?_
      refine V.region ?_
      refine EV.runS (hcS K w0) 2 [1, 5, 6, 32] (S2 := [(1, pT 2), (5, .bool z), (6, .int .i64 12), (32, .bool z)]) rfl (by kernel_rfl) ?_
      rcases (Bool.eq_false_or_eq_true (z)).symm with hb31 | hb31
      ·
        refine EV.cast (S2 := [(1, pT 2), (5, .bool false), (6, .int .i64 12), (32, .bool false)]) (by rw [hb31]) rfl ?_
        refine EV.run (hcS K w0) 9 [1, 5, 6] (S2 := [(1, pT 2), (5, .bool false), (6, .int .i64 12)]) (A2 := hp [r0, r1, pO fo fc zo zc co cc p 0 1, pO fo fc zo zc co cc p 0 1, tblO p] g N) rfl (by kernel_rfl) ?_
        refine EV.done rfl ?_
        refine blockQ_n ?_
        refine thenV_n ?_
        refine V.region ?_
        refine EV.runS (hcS K w0) 3 [1, 5, 6] (S2 := [(1, pT 2), (5, .bool false), (6, .int .i64 13)]) rfl (by kernel_rfl) ?_
        refine EV.done rfl ?_
        exact loopV_n 4 (by decide) ⟨13, false, g, N, rfl, by decide, by simp_all [zUp, PN.tok], hB, rfl, rfl⟩
      ·
        refine EV.cast (S2 := [(1, pT 2), (5, .bool true), (6, .int .i64 12), (32, .bool true)]) (by rw [hb31]) rfl ?_
        refine EV.run (hcS K w0) 9 [1, 5, 6] (S2 := [(1, pT 2), (5, .bool (p.t12 == 0)), (6, .int .i64 12)]) (A2 := hp [r0, r1, pO fo fc zo zc co cc p 0 1, pO fo fc zo zc co cc p 0 1, tblO p] g N) rfl (by kernel_rfl) ?_
        refine EV.done rfl ?_
        refine blockQ_n ?_
        refine thenV_n ?_
        refine V.region ?_
        refine EV.runS (hcS K w0) 3 [1, 5, 6] (S2 := [(1, pT 2), (5, .bool (p.t12 == 0)), (6, .int .i64 13)]) rfl (by kernel_rfl) ?_
        refine EV.done rfl ?_
        exact loopV_n 4 (by decide) ⟨13, p.t12 == 0, g, N, rfl, by decide, by simp_all [zUp, PN.tok], hB, rfl, rfl⟩
    ·
      obtain rfl : k = 4 := by omega
      refine V.seq ?_
      refine V.sr ?_
      refine EV.run (hcS K w0) 2 [1, 5, 6, 28] (S2 := [(1, pT 2), (5, .bool z), (6, .int .i64 13), (28, .bool true)]) (A2 := hp [r0, r1, pO fo fc zo zc co cc p 0 1, pO fo fc zo zc co cc p 0 1, tblO p] g N) rfl (by kernel_rfl) ?_
      refine EV.done rfl ?_
      refine V.cond true (by kernel_rfl) (fun _ => ?_) (fun h => Bool.noConfusion h)
      refine V.skip ?_
      refine thenV_n ?_
      refine V.seq ?_
      refine V.block ?_
      refine V.region ?_
      refine EV.runS (hcS K w0) 2 [1, 5, 6, 32] (S2 := [(1, pT 2), (5, .bool z), (6, .int .i64 13), (32, .bool z)]) rfl (by kernel_rfl) ?_
      rcases (Bool.eq_false_or_eq_true (z)).symm with hb32 | hb32
      ·
        refine EV.cast (S2 := [(1, pT 2), (5, .bool false), (6, .int .i64 13), (32, .bool false)]) (by rw [hb32]) rfl ?_
        refine EV.run (hcS K w0) 9 [1, 5, 6] (S2 := [(1, pT 2), (5, .bool false), (6, .int .i64 13)]) (A2 := hp [r0, r1, pO fo fc zo zc co cc p 0 1, pO fo fc zo zc co cc p 0 1, tblO p] g N) rfl (by kernel_rfl) ?_
        refine EV.done rfl ?_
        refine blockQ_n ?_
        refine thenV_n ?_
        refine V.region ?_
        refine EV.runS (hcS K w0) 3 [1, 5, 6] (S2 := [(1, pT 2), (5, .bool false), (6, .int .i64 14)]) rfl (by kernel_rfl) ?_
        refine EV.done rfl ?_
        exact loopV_n 3 (by decide) ⟨14, false, g, N, rfl, by decide, by simp_all [zUp, PN.tok], hB, rfl, rfl⟩
      ·
        refine EV.cast (S2 := [(1, pT 2), (5, .bool true), (6, .int .i64 13), (32, .bool true)]) (by rw [hb32]) rfl ?_
        refine EV.run (hcS K w0) 9 [1, 5, 6] (S2 := [(1, pT 2), (5, .bool (p.t13 == 0)), (6, .int .i64 13)]) (A2 := hp [r0, r1, pO fo fc zo zc co cc p 0 1, pO fo fc zo zc co cc p 0 1, tblO p] g N) rfl (by kernel_rfl) ?_
        refine EV.done rfl ?_
        refine blockQ_n ?_
        refine thenV_n ?_
        refine V.region ?_
        refine EV.runS (hcS K w0) 3 [1, 5, 6] (S2 := [(1, pT 2), (5, .bool (p.t13 == 0)), (6, .int .i64 14)]) rfl (by kernel_rfl) ?_
        refine EV.done rfl ?_
        exact loopV_n 3 (by decide) ⟨14, p.t13 == 0, g, N, rfl, by decide, by simp_all [zUp, PN.tok], hB, rfl, rfl⟩
    ·
      obtain rfl : k = 3 := by omega
      refine V.seq ?_
      refine V.sr ?_
      refine EV.run (hcS K w0) 2 [1, 5, 6, 28] (S2 := [(1, pT 2), (5, .bool z), (6, .int .i64 14), (28, .bool true)]) (A2 := hp [r0, r1, pO fo fc zo zc co cc p 0 1, pO fo fc zo zc co cc p 0 1, tblO p] g N) rfl (by kernel_rfl) ?_
      refine EV.done rfl ?_
      refine V.cond true (by kernel_rfl) (fun _ => ?_) (fun h => Bool.noConfusion h)
      refine V.skip ?_
      refine thenV_n ?_
      refine V.seq ?_
      refine V.block ?_
      refine V.region ?_
      refine EV.runS (hcS K w0) 2 [1, 5, 6, 32] (S2 := [(1, pT 2), (5, .bool z), (6, .int .i64 14), (32, .bool z)]) rfl (by kernel_rfl) ?_
      rcases (Bool.eq_false_or_eq_true (z)).symm with hb33 | hb33
      ·
        refine EV.cast (S2 := [(1, pT 2), (5, .bool false), (6, .int .i64 14), (32, .bool false)]) (by rw [hb33]) rfl ?_
        refine EV.run (hcS K w0) 9 [1, 5, 6] (S2 := [(1, pT 2), (5, .bool false), (6, .int .i64 14)]) (A2 := hp [r0, r1, pO fo fc zo zc co cc p 0 1, pO fo fc zo zc co cc p 0 1, tblO p] g N) rfl (by kernel_rfl) ?_
        refine EV.done rfl ?_
        refine blockQ_n ?_
        refine thenV_n ?_
        refine V.region ?_
        refine EV.runS (hcS K w0) 3 [1, 5, 6] (S2 := [(1, pT 2), (5, .bool false), (6, .int .i64 15)]) rfl (by kernel_rfl) ?_
        refine EV.done rfl ?_
        exact loopV_n 2 (by decide) ⟨15, false, g, N, rfl, by decide, by simp_all [zUp, PN.tok], hB, rfl, rfl⟩
      ·
        refine EV.cast (S2 := [(1, pT 2), (5, .bool true), (6, .int .i64 14), (32, .bool true)]) (by rw [hb33]) rfl ?_
        refine EV.run (hcS K w0) 9 [1, 5, 6] (S2 := [(1, pT 2), (5, .bool (p.t14 == 0)), (6, .int .i64 14)]) (A2 := hp [r0, r1, pO fo fc zo zc co cc p 0 1, pO fo fc zo zc co cc p 0 1, tblO p] g N) rfl (by kernel_rfl) ?_
        refine EV.done rfl ?_
        refine blockQ_n ?_
        refine thenV_n ?_
        refine V.region ?_
        refine EV.runS (hcS K w0) 3 [1, 5, 6] (S2 := [(1, pT 2), (5, .bool (p.t14 == 0)), (6, .int .i64 15)]) rfl (by kernel_rfl) ?_
        refine EV.done rfl ?_
        exact loopV_n 2 (by decide) ⟨15, p.t14 == 0, g, N, rfl, by decide, by simp_all [zUp, PN.tok], hB, rfl, rfl⟩
    ·
      obtain rfl : k = 2 := by omega
      refine V.seq ?_
      refine V.sr ?_
      refine EV.run (hcS K w0) 2 [1, 5, 6, 28] (S2 := [(1, pT 2), (5, .bool z), (6, .int .i64 15), (28, .bool true)]) (A2 := hp [r0, r1, pO fo fc zo zc co cc p 0 1, pO fo fc zo zc co cc p 0 1, tblO p] g N) rfl (by kernel_rfl) ?_
      refine EV.done rfl ?_
      refine V.cond true (by kernel_rfl) (fun _ => ?_) (fun h => Bool.noConfusion h)
      refine V.skip ?_
      refine thenV_n ?_
      refine V.seq ?_
      refine V.block ?_
      refine V.region ?_
      refine EV.runS (hcS K w0) 2 [1, 5, 6, 32] (S2 := [(1, pT 2), (5, .bool z), (6, .int .i64 15), (32, .bool z)]) rfl (by kernel_rfl) ?_
      rcases (Bool.eq_false_or_eq_true (z)).symm with hb34 | hb34
      ·
        refine EV.cast (S2 := [(1, pT 2), (5, .bool false), (6, .int .i64 15), (32, .bool false)]) (by rw [hb34]) rfl ?_
        refine EV.run (hcS K w0) 9 [1, 5, 6] (S2 := [(1, pT 2), (5, .bool false), (6, .int .i64 15)]) (A2 := hp [r0, r1, pO fo fc zo zc co cc p 0 1, pO fo fc zo zc co cc p 0 1, tblO p] g N) rfl (by kernel_rfl) ?_
        refine EV.done rfl ?_
        refine blockQ_n ?_
        refine thenV_n ?_
        refine V.region ?_
        refine EV.runS (hcS K w0) 3 [1, 5, 6] (S2 := [(1, pT 2), (5, .bool false), (6, .int .i64 16)]) rfl (by kernel_rfl) ?_
        refine EV.done rfl ?_
        exact loopV_n 1 (by decide) ⟨16, false, g, N, rfl, by decide, by simp_all [zUp, PN.tok], hB, rfl, rfl⟩
      ·
        refine EV.cast (S2 := [(1, pT 2), (5, .bool true), (6, .int .i64 15), (32, .bool true)]) (by rw [hb34]) rfl ?_
        refine EV.run (hcS K w0) 9 [1, 5, 6] (S2 := [(1, pT 2), (5, .bool (p.t15 == 0)), (6, .int .i64 15)]) (A2 := hp [r0, r1, pO fo fc zo zc co cc p 0 1, pO fo fc zo zc co cc p 0 1, tblO p] g N) rfl (by kernel_rfl) ?_
        refine EV.done rfl ?_
        refine blockQ_n ?_
        refine thenV_n ?_
        refine V.region ?_
        refine EV.runS (hcS K w0) 3 [1, 5, 6] (S2 := [(1, pT 2), (5, .bool (p.t15 == 0)), (6, .int .i64 16)]) rfl (by kernel_rfl) ?_
        refine EV.done rfl ?_
        exact loopV_n 1 (by decide) ⟨16, p.t15 == 0, g, N, rfl, by decide, by simp_all [zUp, PN.tok], hB, rfl, rfl⟩
    ·
      obtain rfl : k = 1 := by omega
      refine V.seq ?_
      refine V.sr ?_
      refine EV.run (hcS K w0) 2 [1, 5, 6, 28] (S2 := [(1, pT 2), (5, .bool z), (6, .int .i64 16), (28, .bool false)]) (A2 := hp [r0, r1, pO fo fc zo zc co cc p 0 1, pO fo fc zo zc co cc p 0 1, tblO p] g N) rfl (by kernel_rfl) ?_
      refine EV.done rfl ?_
      refine V.cond false (by kernel_rfl) (fun h => Bool.noConfusion h) (fun _ => ?_)
      refine V.exit ?_
      refine thenV_e ?_
      refine loopV_e ?_
      have hz := hinv
      refine blockQ_hit ?_
      refine thenV_n ?_
      refine V.sr ?_
      refine EV.run (hcS K w0) 5 [1, 5, 43] (S2 := [(1, pT 2), (5, .bool z), (43, .bool (decide (((zo.length : Nat) : Int) ≤ 20)))]) (A2 := hp [r0, r1, pO fo fc zo zc co cc p 0 1, pO fo fc zo zc co cc p 0 1, tblO p] g N) rfl (by kernel_rfl) ?_
      rcases (Bool.eq_false_or_eq_true (decide (((zo.length : Nat) : Int) ≤ 20))).symm with hb35 | hb35
      ·
        refine EV.cast (S2 := [(1, pT 2), (5, .bool z), (43, .bool false)]) (by rw [hb35]) rfl ?_
        refine EV.run (hcS K w0) 18 [2] (S2 := [(2, .bool false)]) (A2 := hp [r0, r1, pO fo fc zo zc co cc p 0 1, pO fo fc zo zc co cc p 0 1, tblO p] g N) rfl (by kernel_rfl) ?_
        refine EV.done rfl ?_
        refine V.ret ?_
        exact EndsH_r hB [.bool false] [0, 1, 64, 64, 64] [0, 1] [r0, r1] (.bool false) (by kernel_rfl) (by kernel_rfl) (by kernel_rfl) ⟨.inr ⟨bl rfl, .inl ((hro.obj _).symm)⟩, .inr ⟨bl rfl, .inl ((hrc.obj _).symm)⟩, .inl (by decide), .inl (by decide), .inl (by decide), trivial⟩ rfl (shut_intro rfl fun τ hτ => ⟨rfl, .inr ((hro.obj _)), .inr ((hrc.obj _)), trivial⟩) ⟨by (try simp only [dle20] at *); (try rw [zUp_eq] at hz); simp_all [mayP] <;> (intros; omega), rfl⟩
      ·
        refine EV.cast (S2 := [(1, pT 2), (5, .bool z), (43, .bool true)]) (by rw [hb35]) rfl ?_
        refine EV.run (hcS K w0) 11 [1, 5, 49] (S2 := [(1, pT 2), (5, .bool z), (49, .bool (decide (((zc.length : Nat) : Int) ≤ 20)))]) (A2 := hp [r0, r1, pO fo fc zo zc co cc p 0 1, pO fo fc zo zc co cc p 0 1, tblO p] g N) rfl (by kernel_rfl) ?_
        rcases (Bool.eq_false_or_eq_true (decide (((zc.length : Nat) : Int) ≤ 20))).symm with hb36 | hb36
        ·
          refine EV.cast (S2 := [(1, pT 2), (5, .bool z), (49, .bool false)]) (by rw [hb36]) rfl ?_
          refine EV.run (hcS K w0) 18 [2] (S2 := [(2, .bool false)]) (A2 := hp [r0, r1, pO fo fc zo zc co cc p 0 1, pO fo fc zo zc co cc p 0 1, tblO p] g N) rfl (by kernel_rfl) ?_
          refine EV.done rfl ?_
          refine V.ret ?_
          exact EndsH_r hB [.bool false] [0, 1, 64, 64, 64] [0, 1] [r0, r1] (.bool false) (by kernel_rfl) (by kernel_rfl) (by kernel_rfl) ⟨.inr ⟨bl rfl, .inl ((hro.obj _).symm)⟩, .inr ⟨bl rfl, .inl ((hrc.obj _).symm)⟩, .inl (by decide), .inl (by decide), .inl (by decide), trivial⟩ rfl (shut_intro rfl fun τ hτ => ⟨rfl, .inr ((hro.obj _)), .inr ((hrc.obj _)), trivial⟩) ⟨by (try simp only [dle20] at *); (try rw [zUp_eq] at hz); simp_all [mayP] <;> (intros; omega), rfl⟩
        ·
          refine EV.cast (S2 := [(1, pT 2), (5, .bool z), (49, .bool true)]) (by rw [hb36]) rfl ?_
          refine EV.run (hcS K w0) 14 [5, 49, 52] (S2 := [(5, .bool z), (49, .bool true), (52, .bool p.ht)]) (A2 := hp [r0, r1, pO fo fc zo zc co cc p 0 1, pO fo fc zo zc co cc p 0 1, tblO p] g N) rfl (by kernel_rfl) ?_
          rcases (Bool.eq_false_or_eq_true (p.ht)).symm with hb37 | hb37
          ·
            refine EV.cast (S2 := [(5, .bool z), (49, .bool true), (52, .bool false)]) (by rw [hb37]) rfl ?_
            refine EV.run (hcS K w0) 18 [2] (S2 := [(2, .bool z)]) (A2 := hp [r0, r1, pO fo fc zo zc co cc p 0 1, pO fo fc zo zc co cc p 0 1, tblO p] g N) rfl (by kernel_rfl) ?_
            refine EV.done rfl ?_
            refine V.ret ?_
            exact EndsH_r hB [.bool z] [0, 1, 64, 64, 64] [0, 1] [r0, r1] (.bool z) (by kernel_rfl) (by kernel_rfl) (by kernel_rfl) ⟨.inr ⟨bl rfl, .inl ((hro.obj _).symm)⟩, .inr ⟨bl rfl, .inl ((hrc.obj _).symm)⟩, .inl (by decide), .inl (by decide), .inl (by decide), trivial⟩ rfl (shut_intro rfl fun τ hτ => ⟨rfl, .inr ((hro.obj _)), .inr ((hrc.obj _)), trivial⟩) ⟨by (try simp only [dle20] at *); (try rw [zUp_eq] at hz); simp_all [mayP] <;> (intros; omega), rfl⟩
          ·
            refine EV.cast (S2 := [(5, .bool z), (49, .bool true), (52, .bool true)]) (by rw [hb37]) rfl ?_
            refine EV.run (hcS K w0) 18 [2] (S2 := [(2, .bool true)]) (A2 := hp [r0, r1, pO fo fc zo zc co cc p 0 1, pO fo fc zo zc co cc p 0 1, tblO p] g N) rfl (by kernel_rfl) ?_
            refine EV.done rfl ?_
            refine V.ret ?_
            exact EndsH_r hB [.bool true] [0, 1, 64, 64, 64] [0, 1] [r0, r1] (.bool true) (by kernel_rfl) (by kernel_rfl) (by kernel_rfl) ⟨.inr ⟨bl rfl, .inl ((hro.obj _).symm)⟩, .inr ⟨bl rfl, .inl ((hrc.obj _).symm)⟩, .inl (by decide), .inl (by decide), .inl (by decide), trivial⟩ rfl (shut_intro rfl fun τ hτ => ⟨rfl, .inr ((hro.obj _)), .inr ((hrc.obj _)), trivial⟩) ⟨by (try simp only [dle20] at *); (try rw [zUp_eq] at hz); simp_all [mayP] <;> (intros; omega), rfl⟩
    ·
      omega
  ·
    omega
end Go.Proofs.Ytioggedadamoaaa
