/- param: May. -/
import Derived.Test.YtioggedadamoaaaTiPb
set_option autoImplicit false
set_option linter.unusedVariables false
set_option linter.unusedSimpArgs false
namespace Go.Proofs.Ytioggedadamoaaa
open Go.Abs Go.RowKit
theorem f21_fh {r0 r1 : AObj} {fo fc : Nat → Option Addr} {zo zc : List Int} {co cc : Nat} (hro : RowF r0 fo zo co) (hrc : RowF r1 fc zc cc) (p : PN) : FH Try.prog 21 [r0, r1] [.agg (pcl (.slice (fo 0) zo.length co) (.slice (fc 1) zc.length cc) p).toArray] (fun v s1 => v = .bool (mayP zo zc p) ∧ s1 = [r0, r1]) := by
 refine V.fnh (fn := Try.f21) Try.func21 (by kernel_rfl) rfl rfl fun K w0 g N hB => ?_
 refine V.sr ?_
 refine EV.run (hcS K w0) 2 [1] (S2 := [(1, pT 2)]) (A2 := hp [r0, r1, pO fo fc zo zc co cc p 0 1] g N) rfl (by kernel_rfl) ?_
 refine EV.done rfl ?_
 refine V.seq ?_
 refine V.sr ?_
 refine EV.runS (hcS K w0) 1 [1, 3] (S2 := [(1, pT 2), (3, .int .u64 0)]) rfl (by kernel_rfl) ?_
 refine EV.done rfl ?_
 refine V.block ?_
 refine V.loop (fun k S A => ∃ (j : Nat) (g : Nat → AObj) (N : Nat), j + k = 17 ∧ j ≤ 16 ∧ okN p j = true ∧ Bulk g N ∧ S = [(1, pT 2), (3, .int .u64 ((j : Nat) : Int))] ∧ A = hp [r0, r1, pO fo fc zo zc co cc p 0 1] g N) 17 ⟨0, g, N, by decide, by decide, rfl, hB, rfl, rfl⟩ ?_
 rintro k S A ⟨j, g, N, hk, hj, hinv, hB, rfl, rfl⟩
 have hcase : j = 0 ∨ j = 1 ∨ j = 2 ∨ j = 3 ∨ j = 4 ∨ j = 5 ∨ j = 6 ∨ j = 7 ∨ j = 8 ∨ j = 9 ∨ j = 10 ∨ j = 11 ∨ j = 12 ∨ j = 13 ∨ j = 14 ∨ j = 15 ∨ j = 16 ∨ j < 0 := by omega
 rcases hcase with rfl | rfl | rfl | rfl | rfl | rfl | rfl | rfl | rfl | rfl | rfl | rfl | rfl | rfl | rfl | rfl | rfl | hlow
 ·
  obtain rfl : k = 17 := by omega
  refine V.seq ?_
  refine V.sr ?_
  refine EV.run (hcS K w0) 2 [1, 3, 6] (S2 := [(1, pT 2), (3, .int .u64 0), (6, .bool true)]) (A2 := hp [r0, r1, pO fo fc zo zc co cc p 0 1] g N) rfl (by kernel_rfl) ?_
  refine EV.done rfl ?_
  refine V.cond true (by kernel_rfl) (fun _ => ?_) (fun h => Bool.noConfusion h)
  refine V.skip ?_
  refine thenV_n ?_
  refine V.seq ?_
  refine V.block ?_
  refine V.sr ?_
  refine EV.runS (hcS K w0) 3 [1, 3, 4] (S2 := [(1, pT 2), (3, .int .u64 0), (4, .pointer none)]) rfl (by kernel_rfl) ?_
  refine EV.done rfl ?_
  refine V.sr ?_
  refine EV.runS (hcS K w0) 16 [1, 3, 26] (S2 := [(1, pT 2), (3, .int .u64 0), (26, .bool false)]) rfl (by kernel_rfl) ?_
  refine EV.done rfl ?_
  refine V.cond false (by kernel_rfl) (fun h => Bool.noConfusion h) (fun _ => ?_)
  refine V.skip ?_
  refine blockQ_n ?_
  refine thenV_n ?_
  refine V.region ?_
  refine EV.runS (hcS K w0) 3 [1, 3] (S2 := [(1, pT 2), (3, .int .u64 1)]) rfl (by kernel_rfl) ?_
  refine EV.done rfl ?_
  exact loopV_n 16 (by decide) ⟨1, g, N, rfl, by decide, by simp_all [okN, PN.num], hB, rfl, rfl⟩
 ·
  obtain rfl : k = 16 := by omega
  refine V.seq ?_
  refine V.sr ?_
  refine EV.run (hcS K w0) 2 [1, 3, 6] (S2 := [(1, pT 2), (3, .int .u64 1), (6, .bool true)]) (A2 := hp [r0, r1, pO fo fc zo zc co cc p 0 1] g N) rfl (by kernel_rfl) ?_
  refine EV.done rfl ?_
  refine V.cond true (by kernel_rfl) (fun _ => ?_) (fun h => Bool.noConfusion h)
  refine V.skip ?_
  refine thenV_n ?_
  refine V.seq ?_
  refine V.block ?_
  refine V.sr ?_
  refine EV.runS (hcS K w0) 3 [1, 3, 4] (S2 := [(1, pT 2), (3, .int .u64 1), (4, .pointer (some ⟨2, 2, none⟩))]) rfl (by kernel_rfl) ?_
  refine EV.done rfl ?_
  refine V.sr ?_
  refine EV.runS (hcS K w0) 9 [1, 3, 4, 19] (S2 := [(1, pT 2), (3, .int .u64 1), (4, .pointer (some ⟨2, 2, none⟩)), (19, .bool (p.i1 != 0))]) rfl (by kernel_rfl) ?_
  rcases (Bool.eq_false_or_eq_true (p.i1 != 0)).symm with hb1 | hb1
  ·
   refine EV.cast (S2 := [(1, pT 2), (3, .int .u64 1), (4, .pointer (some ⟨2, 2, none⟩)), (19, .bool false)]) (by rw [hb1]) rfl ?_
   refine EV.run (hcS K w0) 16 [1, 3, 26] (S2 := [(1, pT 2), (3, .int .u64 1), (26, .bool false)]) (A2 := hp [r0, r1, pO fo fc zo zc co cc p 0 1] g N) rfl (by kernel_rfl) ?_
   refine EV.done rfl ?_
   refine V.cond false (by kernel_rfl) (fun h => Bool.noConfusion h) (fun _ => ?_)
   refine V.skip ?_
   refine blockQ_n ?_
   refine thenV_n ?_
   refine V.region ?_
   refine EV.runS (hcS K w0) 3 [1, 3] (S2 := [(1, pT 2), (3, .int .u64 2)]) rfl (by kernel_rfl) ?_
   refine EV.done rfl ?_
   exact loopV_n 15 (by decide) ⟨2, g, N, rfl, by decide, by simp_all [okN, PN.num], hB, rfl, rfl⟩
  ·
   refine EV.cast (S2 := [(1, pT 2), (3, .int .u64 1), (4, .pointer (some ⟨2, 2, none⟩)), (19, .bool true)]) (by rw [hb1]) rfl ?_
   refine EV.run (hcS K w0) 13 [1, 3, 19, 20, 23] (S2 := [(1, pT 2), (3, .int .u64 1), (19, .bool true), (20, .int .u64 1), (23, .int .u64 p.i1)]) (A2 := hp [r0, r1, pO fo fc zo zc co cc p 0 1] g N) rfl (by kernel_rfl) ?_
   refine EV.step (hcS K w0) (v := .bool (mayN 1 p.i1)) (A1 := hp [r0, r1, pO fo fc zo zc co cc p 0 1] g N) rfl (by kernel_rfl) (eop_call (f := 34) (vs := [.int .u64 1, .int .u64 p.i1]) rfl rfl (by kernel_rfl) (by kernel_rfl) (f34_spec rfl _ _)) ?_
   refine EV.run (hcS K w0) 16 [1, 3, 26] (S2 := [(1, pT 2), (3, .int .u64 1), (26, .bool (!(mayN 1 p.i1)))]) (A2 := hp [r0, r1, pO fo fc zo zc co cc p 0 1] g N) rfl (by kernel_rfl) ?_
   refine EV.done rfl ?_
   refine V.cond (!(mayN 1 p.i1)) (by kernel_rfl) (fun h2 => ?_) (fun h2 => ?_)
   ·
    refine V.sr ?_
    refine EV.runS (hcS K w0) 1 [2] (S2 := [(2, .bool false)]) rfl (by kernel_rfl) ?_
    refine EV.done rfl ?_
    refine V.ret ?_
    refine blockQ_r ?_
    refine thenV_r ?_
    refine loopV_r ?_
    refine blockQ_r ?_
    refine thenV_r ?_
    exact EndsH_r hB [.bool false] [0, 1, 64] [0, 1] [r0, r1] (.bool false) (by kernel_rfl) (by kernel_rfl) (by kernel_rfl) ⟨.inr ⟨bl rfl, .inl ((hro.obj _).symm)⟩, .inr ⟨bl rfl, .inl ((hrc.obj _).symm)⟩, .inl (by decide), trivial⟩ rfl (shut_intro rfl fun τ hτ => ⟨rfl, .inr ((hro.obj _)), .inr ((hrc.obj _)), trivial⟩) ⟨by rw [show mayP zo zc p = false from by have := okN_false p (j := 2) (k := 16) (by simp_all [okN, PN.num]) (by decide); simp [mayP, this]], rfl⟩
   ·
    refine V.skip ?_
    refine blockQ_n ?_
    refine thenV_n ?_
    refine V.region ?_
    refine EV.runS (hcS K w0) 3 [1, 3] (S2 := [(1, pT 2), (3, .int .u64 2)]) rfl (by kernel_rfl) ?_
    refine EV.done rfl ?_
    exact loopV_n 15 (by decide) ⟨2, g, N, rfl, by decide, by simp_all [okN, PN.num], hB, rfl, rfl⟩
 ·
  obtain rfl : k = 15 := by omega
  refine V.seq ?_
  refine V.sr ?_
  refine EV.run (hcS K w0) 2 [1, 3, 6] (S2 := [(1, pT 2), (3, .int .u64 2), (6, .bool true)]) (A2 := hp [r0, r1, pO fo fc zo zc co cc p 0 1] g N) rfl (by kernel_rfl) ?_
  refine EV.done rfl ?_
  refine V.cond true (by kernel_rfl) (fun _ => ?_) (fun h => Bool.noConfusion h)
  refine V.skip ?_
  refine thenV_n ?_
  refine V.seq ?_
  refine V.block ?_
  refine V.sr ?_
  refine EV.runS (hcS K w0) 3 [1, 3, 4] (S2 := [(1, pT 2), (3, .int .u64 2), (4, .pointer none)]) rfl (by kernel_rfl) ?_
  refine EV.done rfl ?_
  refine V.sr ?_
  refine EV.runS (hcS K w0) 16 [1, 3, 26] (S2 := [(1, pT 2), (3, .int .u64 2), (26, .bool false)]) rfl (by kernel_rfl) ?_
  refine EV.done rfl ?_
  refine V.cond false (by kernel_rfl) (fun h => Bool.noConfusion h) (fun _ => ?_)
  refine V.skip ?_
  refine blockQ_n ?_
  refine thenV_n ?_
  refine V.region ?_
  refine EV.runS (hcS K w0) 3 [1, 3] (S2 := [(1, pT 2), (3, .int .u64 3)]) rfl (by kernel_rfl) ?_
  refine EV.done rfl ?_
  exact loopV_n 14 (by decide) ⟨3, g, N, rfl, by decide, by simp_all [okN, PN.num], hB, rfl, rfl⟩
 ·
  obtain rfl : k = 14 := by omega
  refine V.seq ?_
  refine V.sr ?_
  refine EV.run (hcS K w0) 2 [1, 3, 6] (S2 := [(1, pT 2), (3, .int .u64 3), (6, .bool true)]) (A2 := hp [r0, r1, pO fo fc zo zc co cc p 0 1] g N) rfl (by kernel_rfl) ?_
  refine EV.done rfl ?_
  refine V.cond true (by kernel_rfl) (fun _ => ?_) (fun h => Bool.noConfusion h)
  refine V.skip ?_
  refine thenV_n ?_
  refine V.seq ?_
  refine V.block ?_
  refine V.sr ?_
  refine EV.runS (hcS K w0) 3 [1, 3, 4] (S2 := [(1, pT 2), (3, .int .u64 3), (4, .pointer none)]) rfl (by kernel_rfl) ?_
  refine EV.done rfl ?_
  refine V.sr ?_
  refine EV.runS (hcS K w0) 16 [1, 3, 26] (S2 := [(1, pT 2), (3, .int .u64 3), (26, .bool false)]) rfl (by kernel_rfl) ?_
  refine EV.done rfl ?_
  refine V.cond false (by kernel_rfl) (fun h => Bool.noConfusion h) (fun _ => ?_)
  refine V.skip ?_
  refine blockQ_n ?_
  refine thenV_n ?_
  refine V.region ?_
  refine EV.runS (hcS K w0) 3 [1, 3] (S2 := [(1, pT 2), (3, .int .u64 4)]) rfl (by kernel_rfl) ?_
  refine EV.done rfl ?_
  exact loopV_n 13 (by decide) ⟨4, g, N, rfl, by decide, by simp_all [okN, PN.num], hB, rfl, rfl⟩
 ·
  obtain rfl : k = 13 := by omega
  refine V.seq ?_
  refine V.sr ?_
  refine EV.run (hcS K w0) 2 [1, 3, 6] (S2 := [(1, pT 2), (3, .int .u64 4), (6, .bool true)]) (A2 := hp [r0, r1, pO fo fc zo zc co cc p 0 1] g N) rfl (by kernel_rfl) ?_
  refine EV.done rfl ?_
  refine V.cond true (by kernel_rfl) (fun _ => ?_) (fun h => Bool.noConfusion h)
  refine V.skip ?_
  refine thenV_n ?_
  refine V.seq ?_
  refine V.block ?_
  refine V.sr ?_
  refine EV.runS (hcS K w0) 3 [1, 3, 4] (S2 := [(1, pT 2), (3, .int .u64 4), (4, .pointer (some ⟨2, 3, none⟩))]) rfl (by kernel_rfl) ?_
  refine EV.done rfl ?_
  refine V.sr ?_
  refine EV.runS (hcS K w0) 9 [1, 3, 4, 19] (S2 := [(1, pT 2), (3, .int .u64 4), (4, .pointer (some ⟨2, 3, none⟩)), (19, .bool (p.i4 != 0))]) rfl (by kernel_rfl) ?_
  rcases (Bool.eq_false_or_eq_true (p.i4 != 0)).symm with hb3 | hb3
  ·
   refine EV.cast (S2 := [(1, pT 2), (3, .int .u64 4), (4, .pointer (some ⟨2, 3, none⟩)), (19, .bool false)]) (by rw [hb3]) rfl ?_
   refine EV.run (hcS K w0) 16 [1, 3, 26] (S2 := [(1, pT 2), (3, .int .u64 4), (26, .bool false)]) (A2 := hp [r0, r1, pO fo fc zo zc co cc p 0 1] g N) rfl (by kernel_rfl) ?_
   refine EV.done rfl ?_
   refine V.cond false (by kernel_rfl) (fun h => Bool.noConfusion h) (fun _ => ?_)
   refine V.skip ?_
   refine blockQ_n ?_
   refine thenV_n ?_
   refine V.region ?_
   refine EV.runS (hcS K w0) 3 [1, 3] (S2 := [(1, pT 2), (3, .int .u64 5)]) rfl (by kernel_rfl) ?_
   refine EV.done rfl ?_
   exact loopV_n 12 (by decide) ⟨5, g, N, rfl, by decide, by simp_all [okN, PN.num], hB, rfl, rfl⟩
  ·
   refine EV.cast (S2 := [(1, pT 2), (3, .int .u64 4), (4, .pointer (some ⟨2, 3, none⟩)), (19, .bool true)]) (by rw [hb3]) rfl ?_
   refine EV.run (hcS K w0) 13 [1, 3, 19, 20, 23] (S2 := [(1, pT 2), (3, .int .u64 4), (19, .bool true), (20, .int .u64 4), (23, .int .u64 p.i4)]) (A2 := hp [r0, r1, pO fo fc zo zc co cc p 0 1] g N) rfl (by kernel_rfl) ?_
   refine EV.step (hcS K w0) (v := .bool (mayN 4 p.i4)) (A1 := hp [r0, r1, pO fo fc zo zc co cc p 0 1] g N) rfl (by kernel_rfl) (eop_call (f := 34) (vs := [.int .u64 4, .int .u64 p.i4]) rfl rfl (by kernel_rfl) (by kernel_rfl) (f34_spec rfl _ _)) ?_
   refine EV.run (hcS K w0) 16 [1, 3, 26] (S2 := [(1, pT 2), (3, .int .u64 4), (26, .bool (!(mayN 4 p.i4)))]) (A2 := hp [r0, r1, pO fo fc zo zc co cc p 0 1] g N) rfl (by kernel_rfl) ?_
   refine EV.done rfl ?_
   refine V.cond (!(mayN 4 p.i4)) (by kernel_rfl) (fun h4 => ?_) (fun h4 => ?_)
   ·
    refine V.sr ?_
    refine EV.runS (hcS K w0) 1 [2] (S2 := [(2, .bool false)]) rfl (by kernel_rfl) ?_
    refine EV.done rfl ?_
    refine V.ret ?_
    refine blockQ_r ?_
    refine thenV_r ?_
    refine loopV_r ?_
    refine blockQ_r ?_
    refine thenV_r ?_
    exact EndsH_r hB [.bool false] [0, 1, 64] [0, 1] [r0, r1] (.bool false) (by kernel_rfl) (by kernel_rfl) (by kernel_rfl) ⟨.inr ⟨bl rfl, .inl ((hro.obj _).symm)⟩, .inr ⟨bl rfl, .inl ((hrc.obj _).symm)⟩, .inl (by decide), trivial⟩ rfl (shut_intro rfl fun τ hτ => ⟨rfl, .inr ((hro.obj _)), .inr ((hrc.obj _)), trivial⟩) ⟨by rw [show mayP zo zc p = false from by have := okN_false p (j := 5) (k := 16) (by simp_all [okN, PN.num]) (by decide); simp [mayP, this]], rfl⟩
   ·
    refine V.skip ?_
    refine blockQ_n ?_
    refine thenV_n ?_
    refine V.region ?_
    refine EV.runS (hcS K w0) 3 [1, 3] (S2 := [(1, pT 2), (3, .int .u64 5)]) rfl (by kernel_rfl) ?_
    refine EV.done rfl ?_
    exact loopV_n 12 (by decide) ⟨5, g, N, rfl, by decide, by simp_all [okN, PN.num], hB, rfl, rfl⟩
 ·
  obtain rfl : k = 12 := by omega
  refine V.seq ?_
  refine V.sr ?_
  refine EV.run (hcS K w0) 2 [1, 3, 6] (S2 := [(1, pT 2), (3, .int .u64 5), (6, .bool true)]) (A2 := hp [r0, r1, pO fo fc zo zc co cc p 0 1] g N) rfl (by kernel_rfl) ?_
  refine EV.done rfl ?_
  refine V.cond true (by kernel_rfl) (fun _ => ?_) (fun h => Bool.noConfusion h)
  refine V.skip ?_
  refine thenV_n ?_
  refine V.seq ?_
  refine V.block ?_
  refine V.sr ?_
  refine EV.runS (hcS K w0) 3 [1, 3, 4] (S2 := [(1, pT 2), (3, .int .u64 5), (4, .pointer (some ⟨2, 4, none⟩))]) rfl (by kernel_rfl) ?_
  refine EV.done rfl ?_
  refine V.sr ?_
  refine EV.runS (hcS K w0) 9 [1, 3, 4, 19] (S2 := [(1, pT 2), (3, .int .u64 5), (4, .pointer (some ⟨2, 4, none⟩)), (19, .bool (p.i5 != 0))]) rfl (by kernel_rfl) ?_
  rcases (Bool.eq_false_or_eq_true (p.i5 != 0)).symm with hb5 | hb5
  ·
   refine EV.cast (S2 := [(1, pT 2), (3, .int .u64 5), (4, .pointer (some ⟨2, 4, none⟩)), (19, .bool false)]) (by rw [hb5]) rfl ?_
   refine EV.run (hcS K w0) 16 [1, 3, 26] (S2 := [(1, pT 2), (3, .int .u64 5), (26, .bool false)]) (A2 := hp [r0, r1, pO fo fc zo zc co cc p 0 1] g N) rfl (by kernel_rfl) ?_
   refine EV.done rfl ?_
   refine V.cond false (by kernel_rfl) (fun h => Bool.noConfusion h) (fun _ => ?_)
   refine V.skip ?_
   refine blockQ_n ?_
   refine thenV_n ?_
   refine V.region ?_
   refine EV.runS (hcS K w0) 3 [1, 3] (S2 := [(1, pT 2), (3, .int .u64 6)]) rfl (by kernel_rfl) ?_
   refine EV.done rfl ?_
   exact loopV_n 11 (by decide) ⟨6, g, N, rfl, by decide, by simp_all [okN, PN.num], hB, rfl, rfl⟩
  ·
   refine EV.cast (S2 := [(1, pT 2), (3, .int .u64 5), (4, .pointer (some ⟨2, 4, none⟩)), (19, .bool true)]) (by rw [hb5]) rfl ?_
   refine EV.run (hcS K w0) 13 [1, 3, 19, 20, 23] (S2 := [(1, pT 2), (3, .int .u64 5), (19, .bool true), (20, .int .u64 5), (23, .int .u64 p.i5)]) (A2 := hp [r0, r1, pO fo fc zo zc co cc p 0 1] g N) rfl (by kernel_rfl) ?_
   refine EV.step (hcS K w0) (v := .bool (mayN 5 p.i5)) (A1 := hp [r0, r1, pO fo fc zo zc co cc p 0 1] g N) rfl (by kernel_rfl) (eop_call (f := 34) (vs := [.int .u64 5, .int .u64 p.i5]) rfl rfl (by kernel_rfl) (by kernel_rfl) (f34_spec rfl _ _)) ?_
   refine EV.run (hcS K w0) 16 [1, 3, 26] (S2 := [(1, pT 2), (3, .int .u64 5), (26, .bool (!(mayN 5 p.i5)))]) (A2 := hp [r0, r1, pO fo fc zo zc co cc p 0 1] g N) rfl (by kernel_rfl) ?_
   refine EV.done rfl ?_
   refine V.cond (!(mayN 5 p.i5)) (by kernel_rfl) (fun h6 => ?_) (fun h6 => ?_)
   ·
    refine V.sr ?_
    refine EV.runS (hcS K w0) 1 [2] (S2 := [(2, .bool false)]) rfl (by kernel_rfl) ?_
    refine EV.done rfl ?_
    refine V.ret ?_
    refine blockQ_r ?_
    refine thenV_r ?_
    refine loopV_r ?_
    refine blockQ_r ?_
    refine thenV_r ?_
    exact EndsH_r hB [.bool false] [0, 1, 64] [0, 1] [r0, r1] (.bool false) (by kernel_rfl) (by kernel_rfl) (by kernel_rfl) ⟨.inr ⟨bl rfl, .inl ((hro.obj _).symm)⟩, .inr ⟨bl rfl, .inl ((hrc.obj _).symm)⟩, .inl (by decide), trivial⟩ rfl (shut_intro rfl fun τ hτ => ⟨rfl, .inr ((hro.obj _)), .inr ((hrc.obj _)), trivial⟩) ⟨by rw [show mayP zo zc p = false from by have := okN_false p (j := 6) (k := 16) (by simp_all [okN, PN.num]) (by decide); simp [mayP, this]], rfl⟩
   ·
    refine V.skip ?_
    refine blockQ_n ?_
    refine thenV_n ?_
    refine V.region ?_
    refine EV.runS (hcS K w0) 3 [1, 3] (S2 := [(1, pT 2), (3, .int .u64 6)]) rfl (by kernel_rfl) ?_
    refine EV.done rfl ?_
    exact loopV_n 11 (by decide) ⟨6, g, N, rfl, by decide, by simp_all [okN, PN.num], hB, rfl, rfl⟩
 ·
  obtain rfl : k = 11 := by omega
  refine V.seq ?_
  refine V.sr ?_
  refine EV.run (hcS K w0) 2 [1, 3, 6] (S2 := [(1, pT 2), (3, .int .u64 6), (6, .bool true)]) (A2 := hp [r0, r1, pO fo fc zo zc co cc p 0 1] g N) rfl (by kernel_rfl) ?_
  refine EV.done rfl ?_
  refine V.cond true (by kernel_rfl) (fun _ => ?_) (fun h => Bool.noConfusion h)
  refine V.skip ?_
  refine thenV_n ?_
  refine V.seq ?_
  refine V.block ?_
  refine V.sr ?_
  refine EV.runS (hcS K w0) 3 [1, 3, 4] (S2 := [(1, pT 2), (3, .int .u64 6), (4, .pointer (some ⟨2, 5, none⟩))]) rfl (by kernel_rfl) ?_
  refine EV.done rfl ?_
  refine V.sr ?_
  refine EV.runS (hcS K w0) 9 [1, 3, 4, 19] (S2 := [(1, pT 2), (3, .int .u64 6), (4, .pointer (some ⟨2, 5, none⟩)), (19, .bool (p.i6 != 0))]) rfl (by kernel_rfl) ?_
  rcases (Bool.eq_false_or_eq_true (p.i6 != 0)).symm with hb7 | hb7
  ·
   refine EV.cast (S2 := [(1, pT 2), (3, .int .u64 6), (4, .pointer (some ⟨2, 5, none⟩)), (19, .bool false)]) (by rw [hb7]) rfl ?_
   refine EV.run (hcS K w0) 16 [1, 3, 26] (S2 := [(1, pT 2), (3, .int .u64 6), (26, .bool false)]) (A2 := hp [r0, r1, pO fo fc zo zc co cc p 0 1] g N) rfl (by kernel_rfl) ?_
   refine EV.done rfl ?_
   refine V.cond false (by kernel_rfl) (fun h => Bool.noConfusion h) (fun _ => ?_)
   refine V.skip ?_
   refine blockQ_n ?_
   refine thenV_n ?_
   refine V.region ?_
   refine EV.runS (hcS K w0) 3 [1, 3] (S2 := [(1, pT 2), (3, .int .u64 7)]) rfl (by kernel_rfl) ?_
   refine EV.done rfl ?_
   exact loopV_n 10 (by decide) ⟨7, g, N, rfl, by decide, by simp_all [okN, PN.num], hB, rfl, rfl⟩
  ·
   refine EV.cast (S2 := [(1, pT 2), (3, .int .u64 6), (4, .pointer (some ⟨2, 5, none⟩)), (19, .bool true)]) (by rw [hb7]) rfl ?_
   refine EV.run (hcS K w0) 13 [1, 3, 19, 20, 23] (S2 := [(1, pT 2), (3, .int .u64 6), (19, .bool true), (20, .int .u64 6), (23, .int .u64 p.i6)]) (A2 := hp [r0, r1, pO fo fc zo zc co cc p 0 1] g N) rfl (by kernel_rfl) ?_
   refine EV.step (hcS K w0) (v := .bool (mayN 6 p.i6)) (A1 := hp [r0, r1, pO fo fc zo zc co cc p 0 1] g N) rfl (by kernel_rfl) (eop_call (f := 34) (vs := [.int .u64 6, .int .u64 p.i6]) rfl rfl (by kernel_rfl) (by kernel_rfl) (f34_spec rfl _ _)) ?_
   refine EV.run (hcS K w0) 16 [1, 3, 26] (S2 := [(1, pT 2), (3, .int .u64 6), (26, .bool (!(mayN 6 p.i6)))]) (A2 := hp [r0, r1, pO fo fc zo zc co cc p 0 1] g N) rfl (by kernel_rfl) ?_
   refine EV.done rfl ?_
   refine V.cond (!(mayN 6 p.i6)) (by kernel_rfl) (fun h8 => ?_) (fun h8 => ?_)
   ·
    refine V.sr ?_
    refine EV.runS (hcS K w0) 1 [2] (S2 := [(2, .bool false)]) rfl (by kernel_rfl) ?_
    refine EV.done rfl ?_
    refine V.ret ?_
    refine blockQ_r ?_
    refine thenV_r ?_
    refine loopV_r ?_
    refine blockQ_r ?_
    refine thenV_r ?_
    exact EndsH_r hB [.bool false] [0, 1, 64] [0, 1] [r0, r1] (.bool false) (by kernel_rfl) (by kernel_rfl) (by kernel_rfl) ⟨.inr ⟨bl rfl, .inl ((hro.obj _).symm)⟩, .inr ⟨bl rfl, .inl ((hrc.obj _).symm)⟩, .inl (by decide), trivial⟩ rfl (shut_intro rfl fun τ hτ => ⟨rfl, .inr ((hro.obj _)), .inr ((hrc.obj _)), trivial⟩) ⟨by rw [show mayP zo zc p = false from by have := okN_false p (j := 7) (k := 16) (by simp_all [okN, PN.num]) (by decide); simp [mayP, this]], rfl⟩
   ·
    refine V.skip ?_
    refine blockQ_n ?_
    refine thenV_n ?_
    refine V.region ?_
    refine EV.runS (hcS K w0) 3 [1, 3] (S2 := [(1, pT 2), (3, .int .u64 7)]) rfl (by kernel_rfl) ?_
    refine EV.done rfl ?_
    exact loopV_n 10 (by decide) ⟨7, g, N, rfl, by decide, by simp_all [okN, PN.num], hB, rfl, rfl⟩
 ·
  obtain rfl : k = 10 := by omega
  refine V.seq ?_
  refine V.sr ?_
  refine EV.run (hcS K w0) 2 [1, 3, 6] (S2 := [(1, pT 2), (3, .int .u64 7), (6, .bool true)]) (A2 := hp [r0, r1, pO fo fc zo zc co cc p 0 1] g N) rfl (by kernel_rfl) ?_
  refine EV.done rfl ?_
  refine V.cond true (by kernel_rfl) (fun _ => ?_) (fun h => Bool.noConfusion h)
  refine V.skip ?_
  refine thenV_n ?_
  refine V.seq ?_
  refine V.block ?_
  refine V.sr ?_
  refine EV.runS (hcS K w0) 3 [1, 3, 4] (S2 := [(1, pT 2), (3, .int .u64 7), (4, .pointer (some ⟨2, 6, none⟩))]) rfl (by kernel_rfl) ?_
  refine EV.done rfl ?_
  refine V.sr ?_
  refine EV.runS (hcS K w0) 9 [1, 3, 4, 19] (S2 := [(1, pT 2), (3, .int .u64 7), (4, .pointer (some ⟨2, 6, none⟩)), (19, .bool (p.i7 != 0))]) rfl (by kernel_rfl) ?_
  rcases (Bool.eq_false_or_eq_true (p.i7 != 0)).symm with hb9 | hb9
  ·
   refine EV.cast (S2 := [(1, pT 2), (3, .int .u64 7), (4, .pointer (some ⟨2, 6, none⟩)), (19, .bool false)]) (by rw [hb9]) rfl ?_
   refine EV.run (hcS K w0) 16 [1, 3, 26] (S2 := [(1, pT 2), (3, .int .u64 7), (26, .bool false)]) (A2 := hp [r0, r1, pO fo fc zo zc co cc p 0 1] g N) rfl (by kernel_rfl) ?_
   refine EV.done rfl ?_
   refine V.cond false (by kernel_rfl) (fun h => Bool.noConfusion h) (fun _ => ?_)
   refine V.skip ?_
   refine blockQ_n ?_
   refine thenV_n ?_
   refine V.region ?_
   refine EV.runS (hcS K w0) 3 [1, 3] (S2 := [(1, pT 2), (3, .int .u64 8)]) rfl (by kernel_rfl) ?_
   refine EV.done rfl ?_
   exact loopV_n 9 (by decide) ⟨8, g, N, rfl, by decide, by simp_all [okN, PN.num], hB, rfl, rfl⟩
  ·
   refine EV.cast (S2 := [(1, pT 2), (3, .int .u64 7), (4, .pointer (some ⟨2, 6, none⟩)), (19, .bool true)]) (by rw [hb9]) rfl ?_
   refine EV.run (hcS K w0) 13 [1, 3, 19, 20, 23] (S2 := [(1, pT 2), (3, .int .u64 7), (19, .bool true), (20, .int .u64 7), (23, .int .u64 p.i7)]) (A2 := hp [r0, r1, pO fo fc zo zc co cc p 0 1] g N) rfl (by kernel_rfl) ?_
   refine EV.step (hcS K w0) (v := .bool (mayN 7 p.i7)) (A1 := hp [r0, r1, pO fo fc zo zc co cc p 0 1] g N) rfl (by kernel_rfl) (eop_call (f := 34) (vs := [.int .u64 7, .int .u64 p.i7]) rfl rfl (by kernel_rfl) (by kernel_rfl) (f34_spec rfl _ _)) ?_
   refine EV.run (hcS K w0) 16 [1, 3, 26] (S2 := [(1, pT 2), (3, .int .u64 7), (26, .bool (!(mayN 7 p.i7)))]) (A2 := hp [r0, r1, pO fo fc zo zc co cc p 0 1] g N) rfl (by kernel_rfl) ?_
   refine EV.done rfl ?_
   refine V.cond (!(mayN 7 p.i7)) (by kernel_rfl) (fun h10 => ?_) (fun h10 => ?_)
   ·
    refine V.sr ?_
    refine EV.runS (hcS K w0) 1 [2] (S2 := [(2, .bool false)]) rfl (by kernel_rfl) ?_
    refine EV.done rfl ?_
    refine V.ret ?_
    refine blockQ_r ?_
    refine thenV_r ?_
    refine loopV_r ?_
    refine blockQ_r ?_
    refine thenV_r ?_
    exact EndsH_r hB [.bool false] [0, 1, 64] [0, 1] [r0, r1] (.bool false) (by kernel_rfl) (by kernel_rfl) (by kernel_rfl) ⟨.inr ⟨bl rfl, .inl ((hro.obj _).symm)⟩, .inr ⟨bl rfl, .inl ((hrc.obj _).symm)⟩, .inl (by decide), trivial⟩ rfl (shut_intro rfl fun τ hτ => ⟨rfl, .inr ((hro.obj _)), .inr ((hrc.obj _)), trivial⟩) ⟨by rw [show mayP zo zc p = false from by have := okN_false p (j := 8) (k := 16) (by simp_all [okN, PN.num]) (by decide); simp [mayP, this]], rfl⟩
   ·
    refine V.skip ?_
    refine blockQ_n ?_
    refine thenV_n ?_
    refine V.region ?_
    refine EV.runS (hcS K w0) 3 [1, 3] (S2 := [(1, pT 2), (3, .int .u64 8)]) rfl (by kernel_rfl) ?_
    refine EV.done rfl ?_
    exact loopV_n 9 (by decide) ⟨8, g, N, rfl, by decide, by simp_all [okN, PN.num], hB, rfl, rfl⟩
 ·
  obtain rfl : k = 9 := by omega
  refine V.seq ?_
  refine V.sr ?_
  refine EV.run (hcS K w0) 2 [1, 3, 6] (S2 := [(1, pT 2), (3, .int .u64 8), (6, .bool true)]) (A2 := hp [r0, r1, pO fo fc zo zc co cc p 0 1] g N) rfl (by kernel_rfl) ?_
  refine EV.done rfl ?_
  refine V.cond true (by kernel_rfl) (fun _ => ?_) (fun h => Bool.noConfusion h)
  refine V.skip ?_
  refine thenV_n ?_
  refine V.seq ?_
  refine V.block ?_
  refine V.sr ?_
  refine EV.runS (hcS K w0) 3 [1, 3, 4] (S2 := [(1, pT 2), (3, .int .u64 8), (4, .pointer (some ⟨2, 7, none⟩))]) rfl (by kernel_rfl) ?_
  refine EV.done rfl ?_
  refine V.sr ?_
  refine EV.runS (hcS K w0) 9 [1, 3, 4, 19] (S2 := [(1, pT 2), (3, .int .u64 8), (4, .pointer (some ⟨2, 7, none⟩)), (19, .bool (p.i8 != 0))]) rfl (by kernel_rfl) ?_
  rcases (Bool.eq_false_or_eq_true (p.i8 != 0)).symm with hb11 | hb11
  ·
   refine EV.cast (S2 := [(1, pT 2), (3, .int .u64 8), (4, .pointer (some ⟨2, 7, none⟩)), (19, .bool false)]) (by rw [hb11]) rfl ?_
   refine EV.run (hcS K w0) 16 [1, 3, 26] (S2 := [(1, pT 2), (3, .int .u64 8), (26, .bool false)]) (A2 := hp [r0, r1, pO fo fc zo zc co cc p 0 1] g N) rfl (by kernel_rfl) ?_
   refine EV.done rfl ?_
   refine V.cond false (by kernel_rfl) (fun h => Bool.noConfusion h) (fun _ => ?_)
   refine V.skip ?_
   refine blockQ_n ?_
   refine thenV_n ?_
   refine V.region ?_
   refine EV.runS (hcS K w0) 3 [1, 3] (S2 := [(1, pT 2), (3, .int .u64 9)]) rfl (by kernel_rfl) ?_
   refine EV.done rfl ?_
   exact loopV_n 8 (by decide) ⟨9, g, N, rfl, by decide, by simp_all [okN, PN.num], hB, rfl, rfl⟩
  ·
   refine EV.cast (S2 := [(1, pT 2), (3, .int .u64 8), (4, .pointer (some ⟨2, 7, none⟩)), (19, .bool true)]) (by rw [hb11]) rfl ?_
   refine EV.run (hcS K w0) 13 [1, 3, 19, 20, 23] (S2 := [(1, pT 2), (3, .int .u64 8), (19, .bool true), (20, .int .u64 8), (23, .int .u64 p.i8)]) (A2 := hp [r0, r1, pO fo fc zo zc co cc p 0 1] g N) rfl (by kernel_rfl) ?_
   refine EV.step (hcS K w0) (v := .bool (mayN 8 p.i8)) (A1 := hp [r0, r1, pO fo fc zo zc co cc p 0 1] g N) rfl (by kernel_rfl) (eop_call (f := 34) (vs := [.int .u64 8, .int .u64 p.i8]) rfl rfl (by kernel_rfl) (by kernel_rfl) (f34_spec rfl _ _)) ?_
   refine EV.run (hcS K w0) 16 [1, 3, 26] (S2 := [(1, pT 2), (3, .int .u64 8), (26, .bool (!(mayN 8 p.i8)))]) (A2 := hp [r0, r1, pO fo fc zo zc co cc p 0 1] g N) rfl (by kernel_rfl) ?_
   refine EV.done rfl ?_
   refine V.cond (!(mayN 8 p.i8)) (by kernel_rfl) (fun h12 => ?_) (fun h12 => ?_)
   ·
    refine V.sr ?_
    refine EV.runS (hcS K w0) 1 [2] (S2 := [(2, .bool false)]) rfl (by kernel_rfl) ?_
    refine EV.done rfl ?_
    refine V.ret ?_
    refine blockQ_r ?_
    refine thenV_r ?_
    refine loopV_r ?_
    refine blockQ_r ?_
    refine thenV_r ?_
    exact EndsH_r hB [.bool false] [0, 1, 64] [0, 1] [r0, r1] (.bool false) (by kernel_rfl) (by kernel_rfl) (by kernel_rfl) ⟨.inr ⟨bl rfl, .inl ((hro.obj _).symm)⟩, .inr ⟨bl rfl, .inl ((hrc.obj _).symm)⟩, .inl (by decide), trivial⟩ rfl (shut_intro rfl fun τ hτ => ⟨rfl, .inr ((hro.obj _)), .inr ((hrc.obj _)), trivial⟩) ⟨by rw [show mayP zo zc p = false from by have := okN_false p (j := 9) (k := 16) (by simp_all [okN, PN.num]) (by decide); simp [mayP, this]], rfl⟩
   ·
    refine V.skip ?_
    refine blockQ_n ?_
    refine thenV_n ?_
    refine V.region ?_
    refine EV.runS (hcS K w0) 3 [1, 3] (S2 := [(1, pT 2), (3, .int .u64 9)]) rfl (by kernel_rfl) ?_
    refine EV.done rfl ?_
    exact loopV_n 8 (by decide) ⟨9, g, N, rfl, by decide, by simp_all [okN, PN.num], hB, rfl, rfl⟩
 ·
  obtain rfl : k = 8 := by omega
  refine V.seq ?_
  refine V.sr ?_
  refine EV.run (hcS K w0) 2 [1, 3, 6] (S2 := [(1, pT 2), (3, .int .u64 9), (6, .bool true)]) (A2 := hp [r0, r1, pO fo fc zo zc co cc p 0 1] g N) rfl (by kernel_rfl) ?_
  refine EV.done rfl ?_
  refine V.cond true (by kernel_rfl) (fun _ => ?_) (fun h => Bool.noConfusion h)
  refine V.skip ?_
  refine thenV_n ?_
  refine V.seq ?_
  refine V.block ?_
  refine V.sr ?_
  refine EV.runS (hcS K w0) 3 [1, 3, 4] (S2 := [(1, pT 2), (3, .int .u64 9), (4, .pointer (some ⟨2, 8, none⟩))]) rfl (by kernel_rfl) ?_
  refine EV.done rfl ?_
  refine V.sr ?_
  refine EV.runS (hcS K w0) 9 [1, 3, 4, 19] (S2 := [(1, pT 2), (3, .int .u64 9), (4, .pointer (some ⟨2, 8, none⟩)), (19, .bool (p.i9 != 0))]) rfl (by kernel_rfl) ?_
  rcases (Bool.eq_false_or_eq_true (p.i9 != 0)).symm with hb13 | hb13
  ·
   refine EV.cast (S2 := [(1, pT 2), (3, .int .u64 9), (4, .pointer (some ⟨2, 8, none⟩)), (19, .bool false)]) (by rw [hb13]) rfl ?_
   refine EV.run (hcS K w0) 16 [1, 3, 26] (S2 := [(1, pT 2), (3, .int .u64 9), (26, .bool false)]) (A2 := hp [r0, r1, pO fo fc zo zc co cc p 0 1] g N) rfl (by kernel_rfl) ?_
   refine EV.done rfl ?_
   refine V.cond false (by kernel_rfl) (fun h => Bool.noConfusion h) (fun _ => ?_)
   refine V.skip ?_
   refine blockQ_n ?_
   refine thenV_n ?_
   refine V.region ?_
   refine EV.runS (hcS K w0) 3 [1, 3] (S2 := [(1, pT 2), (3, .int .u64 10)]) rfl (by kernel_rfl) ?_
   refine EV.done rfl ?_
   exact loopV_n 7 (by decide) ⟨10, g, N, rfl, by decide, by simp_all [okN, PN.num], hB, rfl, rfl⟩
  ·
   refine EV.cast (S2 := [(1, pT 2), (3, .int .u64 9), (4, .pointer (some ⟨2, 8, none⟩)), (19, .bool true)]) (by rw [hb13]) rfl ?_
   refine EV.run (hcS K w0) 13 [1, 3, 19, 20, 23] (S2 := [(1, pT 2), (3, .int .u64 9), (19, .bool true), (20, .int .u64 9), (23, .int .u64 p.i9)]) (A2 := hp [r0, r1, pO fo fc zo zc co cc p 0 1] g N) rfl (by kernel_rfl) ?_
   refine EV.step (hcS K w0) (v := .bool (mayN 9 p.i9)) (A1 := hp [r0, r1, pO fo fc zo zc co cc p 0 1] g N) rfl (by kernel_rfl) (eop_call (f := 34) (vs := [.int .u64 9, .int .u64 p.i9]) rfl rfl (by kernel_rfl) (by kernel_rfl) (f34_spec rfl _ _)) ?_
   refine EV.run (hcS K w0) 16 [1, 3, 26] (S2 := [(1, pT 2), (3, .int .u64 9), (26, .bool (!(mayN 9 p.i9)))]) (A2 := hp [r0, r1, pO fo fc zo zc co cc p 0 1] g N) rfl (by kernel_rfl) ?_
   refine EV.done rfl ?_
   refine V.cond (!(mayN 9 p.i9)) (by kernel_rfl) (fun h14 => ?_) (fun h14 => ?_)
   ·
    refine V.sr ?_
    refine EV.runS (hcS K w0) 1 [2] (S2 := [(2, .bool false)]) rfl (by kernel_rfl) ?_
    refine EV.done rfl ?_
    refine V.ret ?_
    refine blockQ_r ?_
    refine thenV_r ?_
    refine loopV_r ?_
    refine blockQ_r ?_
    refine thenV_r ?_
    exact EndsH_r hB [.bool false] [0, 1, 64] [0, 1] [r0, r1] (.bool false) (by kernel_rfl) (by kernel_rfl) (by kernel_rfl) ⟨.inr ⟨bl rfl, .inl ((hro.obj _).symm)⟩, .inr ⟨bl rfl, .inl ((hrc.obj _).symm)⟩, .inl (by decide), trivial⟩ rfl (shut_intro rfl fun τ hτ => ⟨rfl, .inr ((hro.obj _)), .inr ((hrc.obj _)), trivial⟩) ⟨by rw [show mayP zo zc p = false from by have := okN_false p (j := 10) (k := 16) (by simp_all [okN, PN.num]) (by decide); simp [mayP, this]], rfl⟩
   ·
    refine V.skip ?_
    refine blockQ_n ?_
    refine thenV_n ?_
    refine V.region ?_
    refine EV.runS (hcS K w0) 3 [1, 3] (S2 := [(1, pT 2), (3, .int .u64 10)]) rfl (by kernel_rfl) ?_
    refine EV.done rfl ?_
    exact loopV_n 7 (by decide) ⟨10, g, N, rfl, by decide, by simp_all [okN, PN.num], hB, rfl, rfl⟩
 ·
  obtain rfl : k = 7 := by omega
  refine V.seq ?_
  refine V.sr ?_
  refine EV.run (hcS K w0) 2 [1, 3, 6] (S2 := [(1, pT 2), (3, .int .u64 10), (6, .bool true)]) (A2 := hp [r0, r1, pO fo fc zo zc co cc p 0 1] g N) rfl (by kernel_rfl) ?_
  refine EV.done rfl ?_
  refine V.cond true (by kernel_rfl) (fun _ => ?_) (fun h => Bool.noConfusion h)
  refine V.skip ?_
  refine thenV_n ?_
  refine V.seq ?_
  refine V.block ?_
  refine V.sr ?_
  refine EV.runS (hcS K w0) 3 [1, 3, 4] (S2 := [(1, pT 2), (3, .int .u64 10), (4, .pointer none)]) rfl (by kernel_rfl) ?_
  refine EV.done rfl ?_
  refine V.sr ?_
  refine EV.runS (hcS K w0) 16 [1, 3, 26] (S2 := [(1, pT 2), (3, .int .u64 10), (26, .bool false)]) rfl (by kernel_rfl) ?_
  refine EV.done rfl ?_
  refine V.cond false (by kernel_rfl) (fun h => Bool.noConfusion h) (fun _ => ?_)
  refine V.skip ?_
  refine blockQ_n ?_
  refine thenV_n ?_
  refine V.region ?_
  refine EV.runS (hcS K w0) 3 [1, 3] (S2 := [(1, pT 2), (3, .int .u64 11)]) rfl (by kernel_rfl) ?_
  refine EV.done rfl ?_
  exact loopV_n 6 (by decide) ⟨11, g, N, rfl, by decide, by simp_all [okN, PN.num], hB, rfl, rfl⟩
 ·
  obtain rfl : k = 6 := by omega
  refine V.seq ?_
  refine V.sr ?_
  refine EV.run (hcS K w0) 2 [1, 3, 6] (S2 := [(1, pT 2), (3, .int .u64 11), (6, .bool true)]) (A2 := hp [r0, r1, pO fo fc zo zc co cc p 0 1] g N) rfl (by kernel_rfl) ?_
  refine EV.done rfl ?_
  refine V.cond true (by kernel_rfl) (fun _ => ?_) (fun h => Bool.noConfusion h)
  refine V.skip ?_
  refine thenV_n ?_
  refine V.seq ?_
  refine V.block ?_
  refine V.sr ?_
  refine EV.runS (hcS K w0) 3 [1, 3, 4] (S2 := [(1, pT 2), (3, .int .u64 11), (4, .pointer (some ⟨2, 9, none⟩))]) rfl (by kernel_rfl) ?_
  refine EV.done rfl ?_
  refine V.sr ?_
  refine EV.runS (hcS K w0) 9 [1, 3, 4, 19] (S2 := [(1, pT 2), (3, .int .u64 11), (4, .pointer (some ⟨2, 9, none⟩)), (19, .bool (p.i11 != 0))]) rfl (by kernel_rfl) ?_
  rcases (Bool.eq_false_or_eq_true (p.i11 != 0)).symm with hb15 | hb15
  ·
   refine EV.cast (S2 := [(1, pT 2), (3, .int .u64 11), (4, .pointer (some ⟨2, 9, none⟩)), (19, .bool false)]) (by rw [hb15]) rfl ?_
   refine EV.run (hcS K w0) 16 [1, 3, 26] (S2 := [(1, pT 2), (3, .int .u64 11), (26, .bool false)]) (A2 := hp [r0, r1, pO fo fc zo zc co cc p 0 1] g N) rfl (by kernel_rfl) ?_
   refine EV.done rfl ?_
   refine V.cond false (by kernel_rfl) (fun h => Bool.noConfusion h) (fun _ => ?_)
   refine V.skip ?_
   refine blockQ_n ?_
   refine thenV_n ?_
   refine V.region ?_
   refine EV.runS (hcS K w0) 3 [1, 3] (S2 := [(1, pT 2), (3, .int .u64 12)]) rfl (by kernel_rfl) ?_
   refine EV.done rfl ?_
   exact loopV_n 5 (by decide) ⟨12, g, N, rfl, by decide, by simp_all [okN, PN.num], hB, rfl, rfl⟩
  ·
   refine EV.cast (S2 := [(1, pT 2), (3, .int .u64 11), (4, .pointer (some ⟨2, 9, none⟩)), (19, .bool true)]) (by rw [hb15]) rfl ?_
   refine EV.run (hcS K w0) 13 [1, 3, 19, 20, 23] (S2 := [(1, pT 2), (3, .int .u64 11), (19, .bool true), (20, .int .u64 11), (23, .int .u64 p.i11)]) (A2 := hp [r0, r1, pO fo fc zo zc co cc p 0 1] g N) rfl (by kernel_rfl) ?_
   refine EV.step (hcS K w0) (v := .bool (mayN 11 p.i11)) (A1 := hp [r0, r1, pO fo fc zo zc co cc p 0 1] g N) rfl (by kernel_rfl) (eop_call (f := 34) (vs := [.int .u64 11, .int .u64 p.i11]) rfl rfl (by kernel_rfl) (by kernel_rfl) (f34_spec rfl _ _)) ?_
   refine EV.run (hcS K w0) 16 [1, 3, 26] (S2 := [(1, pT 2), (3, .int .u64 11), (26, .bool (!(mayN 11 p.i11)))]) (A2 := hp [r0, r1, pO fo fc zo zc co cc p 0 1] g N) rfl (by kernel_rfl) ?_
   refine EV.done rfl ?_
   refine V.cond (!(mayN 11 p.i11)) (by kernel_rfl) (fun h16 => ?_) (fun h16 => ?_)
   ·
    refine V.sr ?_
    refine EV.runS (hcS K w0) 1 [2] (S2 := [(2, .bool false)]) rfl (by kernel_rfl) ?_
    refine EV.done rfl ?_
    refine V.ret ?_
    refine blockQ_r ?_
    refine thenV_r ?_
    refine loopV_r ?_
    refine blockQ_r ?_
    refine thenV_r ?_
    exact EndsH_r hB [.bool false] [0, 1, 64] [0, 1] [r0, r1] (.bool false) (by kernel_rfl) (by kernel_rfl) (by kernel_rfl) ⟨.inr ⟨bl rfl, .inl ((hro.obj _).symm)⟩, .inr ⟨bl rfl, .inl ((hrc.obj _).symm)⟩, .inl (by decide), trivial⟩ rfl (shut_intro rfl fun τ hτ => ⟨rfl, .inr ((hro.obj _)), .inr ((hrc.obj _)), trivial⟩) ⟨by rw [show mayP zo zc p = false from by have := okN_false p (j := 12) (k := 16) (by simp_all [okN, PN.num]) (by decide); simp [mayP, this]], rfl⟩
   ·
    refine V.skip ?_
    refine blockQ_n ?_
    refine thenV_n ?_
    refine V.region ?_
    refine EV.runS (hcS K w0) 3 [1, 3] (S2 := [(1, pT 2), (3, .int .u64 12)]) rfl (by kernel_rfl) ?_
    refine EV.done rfl ?_
    exact loopV_n 5 (by decide) ⟨12, g, N, rfl, by decide, by simp_all [okN, PN.num], hB, rfl, rfl⟩
 ·
  obtain rfl : k = 5 := by omega
  refine V.seq ?_
  refine V.sr ?_
  refine EV.run (hcS K w0) 2 [1, 3, 6] (S2 := [(1, pT 2), (3, .int .u64 12), (6, .bool true)]) (A2 := hp [r0, r1, pO fo fc zo zc co cc p 0 1] g N) rfl (by kernel_rfl) ?_
  refine EV.done rfl ?_
  refine V.cond true (by kernel_rfl) (fun _ => ?_) (fun h => Bool.noConfusion h)
  refine V.skip ?_
  refine thenV_n ?_
  refine V.seq ?_
  refine V.block ?_
  refine V.sr ?_
  refine EV.runS (hcS K w0) 3 [1, 3, 4] (S2 := [(1, pT 2), (3, .int .u64 12), (4, .pointer none)]) rfl (by kernel_rfl) ?_
  refine EV.done rfl ?_
  refine V.sr ?_
  refine EV.runS (hcS K w0) 16 [1, 3, 26] (S2 := [(1, pT 2), (3, .int .u64 12), (26, .bool false)]) rfl (by kernel_rfl) ?_
  refine EV.done rfl ?_
  refine V.cond false (by kernel_rfl) (fun h => Bool.noConfusion h) (fun _ => ?_)
  refine V.skip ?_
  refine blockQ_n ?_
  refine thenV_n ?_
  refine V.region ?_
  refine EV.runS (hcS K w0) 3 [1, 3] (S2 := [(1, pT 2), (3, .int .u64 13)]) rfl (by kernel_rfl) ?_
  refine EV.done rfl ?_
  exact loopV_n 4 (by decide) ⟨13, g, N, rfl, by decide, by simp_all [okN, PN.num], hB, rfl, rfl⟩
 ·
  obtain rfl : k = 4 := by omega
  refine V.seq ?_
  refine V.sr ?_
  refine EV.run (hcS K w0) 2 [1, 3, 6] (S2 := [(1, pT 2), (3, .int .u64 13), (6, .bool true)]) (A2 := hp [r0, r1, pO fo fc zo zc co cc p 0 1] g N) rfl (by kernel_rfl) ?_
  refine EV.done rfl ?_
  refine V.cond true (by kernel_rfl) (fun _ => ?_) (fun h => Bool.noConfusion h)
  refine V.skip ?_
  refine thenV_n ?_
  refine V.seq ?_
  refine V.block ?_
  refine V.sr ?_
  refine EV.runS (hcS K w0) 3 [1, 3, 4] (S2 := [(1, pT 2), (3, .int .u64 13), (4, .pointer none)]) rfl (by kernel_rfl) ?_
  refine EV.done rfl ?_
  refine V.sr ?_
  refine EV.runS (hcS K w0) 16 [1, 3, 26] (S2 := [(1, pT 2), (3, .int .u64 13), (26, .bool false)]) rfl (by kernel_rfl) ?_
  refine EV.done rfl ?_
  refine V.cond false (by kernel_rfl) (fun h => Bool.noConfusion h) (fun _ => ?_)
  refine V.skip ?_
  refine blockQ_n ?_
  refine thenV_n ?_
  refine V.region ?_
  refine EV.runS (hcS K w0) 3 [1, 3] (S2 := [(1, pT 2), (3, .int .u64 14)]) rfl (by kernel_rfl) ?_
  refine EV.done rfl ?_
  exact loopV_n 3 (by decide) ⟨14, g, N, rfl, by decide, by simp_all [okN, PN.num], hB, rfl, rfl⟩
 ·
  obtain rfl : k = 3 := by omega
  refine V.seq ?_
  refine V.sr ?_
  refine EV.run (hcS K w0) 2 [1, 3, 6] (S2 := [(1, pT 2), (3, .int .u64 14), (6, .bool true)]) (A2 := hp [r0, r1, pO fo fc zo zc co cc p 0 1] g N) rfl (by kernel_rfl) ?_
  refine EV.done rfl ?_
  refine V.cond true (by kernel_rfl) (fun _ => ?_) (fun h => Bool.noConfusion h)
  refine V.skip ?_
  refine thenV_n ?_
  refine V.seq ?_
  refine V.block ?_
  refine V.sr ?_
  refine EV.runS (hcS K w0) 3 [1, 3, 4] (S2 := [(1, pT 2), (3, .int .u64 14), (4, .pointer (some ⟨2, 10, none⟩))]) rfl (by kernel_rfl) ?_
  refine EV.done rfl ?_
  refine V.sr ?_
  refine EV.runS (hcS K w0) 9 [1, 3, 4, 19] (S2 := [(1, pT 2), (3, .int .u64 14), (4, .pointer (some ⟨2, 10, none⟩)), (19, .bool (p.i14 != 0))]) rfl (by kernel_rfl) ?_
  rcases (Bool.eq_false_or_eq_true (p.i14 != 0)).symm with hb17 | hb17
  ·
   refine EV.cast (S2 := [(1, pT 2), (3, .int .u64 14), (4, .pointer (some ⟨2, 10, none⟩)), (19, .bool false)]) (by rw [hb17]) rfl ?_
   refine EV.run (hcS K w0) 16 [1, 3, 26] (S2 := [(1, pT 2), (3, .int .u64 14), (26, .bool false)]) (A2 := hp [r0, r1, pO fo fc zo zc co cc p 0 1] g N) rfl (by kernel_rfl) ?_
   refine EV.done rfl ?_
   refine V.cond false (by kernel_rfl) (fun h => Bool.noConfusion h) (fun _ => ?_)
   refine V.skip ?_
   refine blockQ_n ?_
   refine thenV_n ?_
   refine V.region ?_
   refine EV.runS (hcS K w0) 3 [1, 3] (S2 := [(1, pT 2), (3, .int .u64 15)]) rfl (by kernel_rfl) ?_
   refine EV.done rfl ?_
   exact loopV_n 2 (by decide) ⟨15, g, N, rfl, by decide, by simp_all [okN, PN.num], hB, rfl, rfl⟩
  ·
   refine EV.cast (S2 := [(1, pT 2), (3, .int .u64 14), (4, .pointer (some ⟨2, 10, none⟩)), (19, .bool true)]) (by rw [hb17]) rfl ?_
   refine EV.run (hcS K w0) 13 [1, 3, 19, 20, 23] (S2 := [(1, pT 2), (3, .int .u64 14), (19, .bool true), (20, .int .u64 14), (23, .int .u64 p.i14)]) (A2 := hp [r0, r1, pO fo fc zo zc co cc p 0 1] g N) rfl (by kernel_rfl) ?_
   refine EV.step (hcS K w0) (v := .bool (mayN 14 p.i14)) (A1 := hp [r0, r1, pO fo fc zo zc co cc p 0 1] g N) rfl (by kernel_rfl) (eop_call (f := 34) (vs := [.int .u64 14, .int .u64 p.i14]) rfl rfl (by kernel_rfl) (by kernel_rfl) (f34_spec rfl _ _)) ?_
   refine EV.run (hcS K w0) 16 [1, 3, 26] (S2 := [(1, pT 2), (3, .int .u64 14), (26, .bool (!(mayN 14 p.i14)))]) (A2 := hp [r0, r1, pO fo fc zo zc co cc p 0 1] g N) rfl (by kernel_rfl) ?_
   refine EV.done rfl ?_
   refine V.cond (!(mayN 14 p.i14)) (by kernel_rfl) (fun h18 => ?_) (fun h18 => ?_)
   ·
    refine V.sr ?_
    refine EV.runS (hcS K w0) 1 [2] (S2 := [(2, .bool false)]) rfl (by kernel_rfl) ?_
    refine EV.done rfl ?_
    refine V.ret ?_
    refine blockQ_r ?_
    refine thenV_r ?_
    refine loopV_r ?_
    refine blockQ_r ?_
    refine thenV_r ?_
    exact EndsH_r hB [.bool false] [0, 1, 64] [0, 1] [r0, r1] (.bool false) (by kernel_rfl) (by kernel_rfl) (by kernel_rfl) ⟨.inr ⟨bl rfl, .inl ((hro.obj _).symm)⟩, .inr ⟨bl rfl, .inl ((hrc.obj _).symm)⟩, .inl (by decide), trivial⟩ rfl (shut_intro rfl fun τ hτ => ⟨rfl, .inr ((hro.obj _)), .inr ((hrc.obj _)), trivial⟩) ⟨by rw [show mayP zo zc p = false from by have := okN_false p (j := 15) (k := 16) (by simp_all [okN, PN.num]) (by decide); simp [mayP, this]], rfl⟩
   ·
    refine V.skip ?_
    refine blockQ_n ?_
    refine thenV_n ?_
    refine V.region ?_
    refine EV.runS (hcS K w0) 3 [1, 3] (S2 := [(1, pT 2), (3, .int .u64 15)]) rfl (by kernel_rfl) ?_
    refine EV.done rfl ?_
    exact loopV_n 2 (by decide) ⟨15, g, N, rfl, by decide, by simp_all [okN, PN.num], hB, rfl, rfl⟩
 ·
  obtain rfl : k = 2 := by omega
  refine V.seq ?_
  refine V.sr ?_
  refine EV.run (hcS K w0) 2 [1, 3, 6] (S2 := [(1, pT 2), (3, .int .u64 15), (6, .bool true)]) (A2 := hp [r0, r1, pO fo fc zo zc co cc p 0 1] g N) rfl (by kernel_rfl) ?_
  refine EV.done rfl ?_
  refine V.cond true (by kernel_rfl) (fun _ => ?_) (fun h => Bool.noConfusion h)
  refine V.skip ?_
  refine thenV_n ?_
  refine V.seq ?_
  refine V.block ?_
  refine V.sr ?_
  refine EV.runS (hcS K w0) 3 [1, 3, 4] (S2 := [(1, pT 2), (3, .int .u64 15), (4, .pointer none)]) rfl (by kernel_rfl) ?_
  refine EV.done rfl ?_
  refine V.sr ?_
  refine EV.runS (hcS K w0) 16 [1, 3, 26] (S2 := [(1, pT 2), (3, .int .u64 15), (26, .bool false)]) rfl (by kernel_rfl) ?_
  refine EV.done rfl ?_
  refine V.cond false (by kernel_rfl) (fun h => Bool.noConfusion h) (fun _ => ?_)
  refine V.skip ?_
  refine blockQ_n ?_
  refine thenV_n ?_
  refine V.region ?_
  refine EV.runS (hcS K w0) 3 [1, 3] (S2 := [(1, pT 2), (3, .int .u64 16)]) rfl (by kernel_rfl) ?_
  refine EV.done rfl ?_
  exact loopV_n 1 (by decide) ⟨16, g, N, rfl, by decide, by simp_all [okN, PN.num], hB, rfl, rfl⟩
 ·
  obtain rfl : k = 1 := by omega
  refine V.seq ?_
  refine V.sr ?_
  refine EV.run (hcS K w0) 2 [1, 3, 6] (S2 := [(1, pT 2), (3, .int .u64 16), (6, .bool false)]) (A2 := hp [r0, r1, pO fo fc zo zc co cc p 0 1] g N) rfl (by kernel_rfl) ?_
  refine EV.done rfl ?_
  refine V.cond false (by kernel_rfl) (fun h => Bool.noConfusion h) (fun _ => ?_)
  refine V.exit ?_
  refine thenV_e ?_
  refine loopV_e ?_
  refine blockQ_hit ?_
  refine thenV_n ?_
  refine V.sr ?_
  refine EV.run (hcS K w0) 5 [1, 31] (S2 := [(1, pT 2), (31, .bool (decide (((zo.length : Nat) : Int) ≤ 20)))]) (A2 := hp [r0, r1, pO fo fc zo zc co cc p 0 1] g N) rfl (by kernel_rfl) ?_
  rcases (Bool.eq_false_or_eq_true (decide (((zo.length : Nat) : Int) ≤ 20))).symm with hb19 | hb19
  ·
   refine EV.cast (S2 := [(1, pT 2), (31, .bool false)]) (by rw [hb19]) rfl ?_
   refine EV.run (hcS K w0) 21 [2] (S2 := [(2, .bool false)]) (A2 := hp [r0, r1, pO fo fc zo zc co cc p 0 1] g N) rfl (by kernel_rfl) ?_
   refine EV.done rfl ?_
   refine V.ret ?_
   exact EndsH_r hB [.bool false] [0, 1, 64] [0, 1] [r0, r1] (.bool false) (by kernel_rfl) (by kernel_rfl) (by kernel_rfl) ⟨.inr ⟨bl rfl, .inl ((hro.obj _).symm)⟩, .inr ⟨bl rfl, .inl ((hrc.obj _).symm)⟩, .inl (by decide), trivial⟩ rfl (shut_intro rfl fun τ hτ => ⟨rfl, .inr ((hro.obj _)), .inr ((hrc.obj _)), trivial⟩) ⟨by (try simp only [dle20] at *); simp_all [mayP, zeroTok, PN.tok, List.replicate] <;> (intros; omega), rfl⟩
  ·
   refine EV.cast (S2 := [(1, pT 2), (31, .bool true)]) (by rw [hb19]) rfl ?_
   refine EV.run (hcS K w0) 11 [1, 37] (S2 := [(1, pT 2), (37, .bool (decide (((zc.length : Nat) : Int) ≤ 20)))]) (A2 := hp [r0, r1, pO fo fc zo zc co cc p 0 1] g N) rfl (by kernel_rfl) ?_
   rcases (Bool.eq_false_or_eq_true (decide (((zc.length : Nat) : Int) ≤ 20))).symm with hb20 | hb20
   ·
    refine EV.cast (S2 := [(1, pT 2), (37, .bool false)]) (by rw [hb20]) rfl ?_
    refine EV.run (hcS K w0) 21 [2] (S2 := [(2, .bool false)]) (A2 := hp [r0, r1, pO fo fc zo zc co cc p 0 1] g N) rfl (by kernel_rfl) ?_
    refine EV.done rfl ?_
    refine V.ret ?_
    exact EndsH_r hB [.bool false] [0, 1, 64] [0, 1] [r0, r1] (.bool false) (by kernel_rfl) (by kernel_rfl) (by kernel_rfl) ⟨.inr ⟨bl rfl, .inl ((hro.obj _).symm)⟩, .inr ⟨bl rfl, .inl ((hrc.obj _).symm)⟩, .inl (by decide), trivial⟩ rfl (shut_intro rfl fun τ hτ => ⟨rfl, .inr ((hro.obj _)), .inr ((hrc.obj _)), trivial⟩) ⟨by (try simp only [dle20] at *); simp_all [mayP, zeroTok, PN.tok, List.replicate] <;> (intros; omega), rfl⟩
   ·
    refine EV.cast (S2 := [(1, pT 2), (37, .bool true)]) (by rw [hb20]) rfl ?_
    refine EV.run (hcS K w0) 14 [1, 37, 40] (S2 := [(1, pT 2), (37, .bool true), (40, .bool p.ht)]) (A2 := hp [r0, r1, pO fo fc zo zc co cc p 0 1] g N) rfl (by kernel_rfl) ?_
    rcases (Bool.eq_false_or_eq_true (p.ht)).symm with hb21 | hb21
    ·
     refine EV.cast (S2 := [(1, pT 2), (37, .bool true), (40, .bool false)]) (by rw [hb21]) rfl ?_
     refine EV.run (hcS K w0) 17 [37, 40, 42, 43] (S2 := [(37, .bool true), (40, .bool false), (42, .agg #[.int .u8 p.t0, .int .u8 p.t1, .int .u8 p.t2, .int .u8 p.t3, .int .u8 p.t4, .int .u8 p.t5, .int .u8 p.t6, .int .u8 p.t7, .int .u8 p.t8, .int .u8 p.t9, .int .u8 p.t10, .int .u8 p.t11, .int .u8 p.t12, .int .u8 p.t13, .int .u8 p.t14, .int .u8 p.t15]), (43, .agg #[.int .u8 0, .int .u8 0, .int .u8 0, .int .u8 0, .int .u8 0, .int .u8 0, .int .u8 0, .int .u8 0, .int .u8 0, .int .u8 0, .int .u8 0, .int .u8 0, .int .u8 0, .int .u8 0, .int .u8 0, .int .u8 0])]) (A2 := hp [r0, r1, pO fo fc zo zc co cc p 0 1] g N) rfl (by kernel_rfl) ?_
     refine EV.step (hcS K w0) (v := .bool (([p.t0, p.t1, p.t2, p.t3, p.t4, p.t5, p.t6, p.t7, p.t8, p.t9, p.t10, p.t11, p.t12, p.t13, p.t14, p.t15] : List Int) == [0, 0, 0, 0, 0, 0, 0, 0, 0, 0, 0, 0, 0, 0, 0, 0])) (A1 := hp [r0, r1, pO fo fc zo zc co cc p 0 1] g N) rfl (by kernel_rfl) (eop_eqArr (k := .u8) (e := 5) (len := 16) (xs := [p.t0, p.t1, p.t2, p.t3, p.t4, p.t5, p.t6, p.t7, p.t8, p.t9, p.t10, p.t11, p.t12, p.t13, p.t14, p.t15]) (ys := [0, 0, 0, 0, 0, 0, 0, 0, 0, 0, 0, 0, 0, 0, 0, 0]) rfl (by kernel_rfl) (by kernel_rfl) (by kernel_rfl) (by kernel_rfl) (by kernel_rfl) (by kernel_rfl) (by kernel_rfl) rfl rfl (by kernel_rfl)) ?_
     refine EV.run (hcS K w0) 21 [2] (S2 := [(2, .bool (([p.t0, p.t1, p.t2, p.t3, p.t4, p.t5, p.t6, p.t7, p.t8, p.t9, p.t10, p.t11, p.t12, p.t13, p.t14, p.t15] : List Int) == [0, 0, 0, 0, 0, 0, 0, 0, 0, 0, 0, 0, 0, 0, 0, 0]))]) (A2 := hp [r0, r1, pO fo fc zo zc co cc p 0 1] g N) rfl (by kernel_rfl) ?_
     refine EV.done rfl ?_
     refine V.ret ?_
     exact EndsH_r hB [.bool (([p.t0, p.t1, p.t2, p.t3, p.t4, p.t5, p.t6, p.t7, p.t8, p.t9, p.t10, p.t11, p.t12, p.t13, p.t14, p.t15] : List Int) == [0, 0, 0, 0, 0, 0, 0, 0, 0, 0, 0, 0, 0, 0, 0, 0])] [0, 1, 64] [0, 1] [r0, r1] (.bool (([p.t0, p.t1, p.t2, p.t3, p.t4, p.t5, p.t6, p.t7, p.t8, p.t9, p.t10, p.t11, p.t12, p.t13, p.t14, p.t15] : List Int) == [0, 0, 0, 0, 0, 0, 0, 0, 0, 0, 0, 0, 0, 0, 0, 0])) (by kernel_rfl) (by kernel_rfl) (by kernel_rfl) ⟨.inr ⟨bl rfl, .inl ((hro.obj _).symm)⟩, .inr ⟨bl rfl, .inl ((hrc.obj _).symm)⟩, .inl (by decide), trivial⟩ rfl (shut_intro rfl fun τ hτ => ⟨rfl, .inr ((hro.obj _)), .inr ((hrc.obj _)), trivial⟩) ⟨by (try simp only [dle20] at *); simp_all [mayP, zeroTok, PN.tok, List.replicate] <;> (intros; omega), rfl⟩
    ·
     refine EV.cast (S2 := [(1, pT 2), (37, .bool true), (40, .bool true)]) (by rw [hb21]) rfl ?_
     refine EV.run (hcS K w0) 21 [2] (S2 := [(2, .bool true)]) (A2 := hp [r0, r1, pO fo fc zo zc co cc p 0 1] g N) rfl (by kernel_rfl) ?_
     refine EV.done rfl ?_
     refine V.ret ?_
     exact EndsH_r hB [.bool true] [0, 1, 64] [0, 1] [r0, r1] (.bool true) (by kernel_rfl) (by kernel_rfl) (by kernel_rfl) ⟨.inr ⟨bl rfl, .inl ((hro.obj _).symm)⟩, .inr ⟨bl rfl, .inl ((hrc.obj _).symm)⟩, .inl (by decide), trivial⟩ rfl (shut_intro rfl fun τ hτ => ⟨rfl, .inr ((hro.obj _)), .inr ((hrc.obj _)), trivial⟩) ⟨by (try simp only [dle20] at *); simp_all [mayP, zeroTok, PN.tok, List.replicate] <;> (intros; omega), rfl⟩
 ·
  omega
end Go.Proofs.Ytioggedadamoaaa
