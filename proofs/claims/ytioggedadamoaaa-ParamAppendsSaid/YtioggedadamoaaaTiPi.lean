/- param: Append. -/
import Derived.Test.YtioggedadamoaaaTiPh
set_option autoImplicit false
set_option linter.unusedVariables false
set_option linter.unusedSimpArgs false
namespace Go.Proofs.Ytioggedadamoaaa
open Go.Abs Go.RowKit
theorem ren_pagg {τ : Nat → Nat} {vo vc vo' vc' : Value} {p : PN} (h0 : ren τ vo = vo') (h1 : ren τ vc = vc') : ren τ (.agg ⟨pcl vo vc p⟩) = .agg ⟨pcl vo' vc' p⟩ := by rw [← h0, ← h1]; rfl
set_option maxHeartbeats 8000000 in
theorem f19_bad {rb r0 r1 : AObj} {fb fo fc : Nat → Option Addr} {zb zo zc : List Int} {cb co cc : Nat} (hrb : RowF rb fb zb cb) (hro : RowF r0 fo zo co) (hrc : RowF r1 fc zc cc) (p : PN) (hpo : p.Ok) (hm : mayP zo zc p = false) : FH Try.prog 19 [rb, r0, r1] [.slice (fb 0) zb.length cb, .agg (pcl (.slice (fo 1) zo.length co) (.slice (fc 2) zc.length cc) p).toArray] (fun v s1 => v = .tuple #[.slice none 0 0, .int .i64 2] ∧ s1 = [rb, r0, r1]) := by
 refine V.fnh (fn := Try.f19) Try.func19 (by kernel_rfl) rfl rfl fun K w0 g N hB => ?_
 refine V.sr ?_
 refine EV.run (hcS K w0) 3 [0, 3] (S2 := [(0, .slice (fb 0) zb.length cb), (3, pT 3)]) (A2 := hp [rb, r0, r1, pO fo fc zo zc co cc p 1 2] g N) rfl (by kernel_rfl) ?_
 refine EV.done rfl ?_
 refine V.seq ?_
 refine V.sr ?_
 refine EV.runS (hcS K w0) 1 [0, 3, 13] (S2 := [(0, .slice (fb 0) zb.length cb), (3, pT 3), (13, .agg (pcl (.slice (fo 1) zo.length co) (.slice (fc 2) zc.length cc) p).toArray)]) rfl (by kernel_rfl) ?_
 refine EV.callh (fs := #[]) (vs := [.agg (pcl (.slice (fo 1) zo.length co) (.slice (fc 2) zc.length cc) p).toArray]) (cs := #[]) [1, 2] (f21_fh hro hrc p) rfl rfl rfl (by kernel_rfl) (by kernel_rfl) (by kernel_rfl) (by kernel_rfl) (argsCons (σ := sigma [1, 2] (N + 64)) (a := .agg (pcl (.slice (fo 0) zo.length co) (.slice (fc 1) zc.length cc) p).toArray) (xs := []) (ren_pagg (τ := sigma [1, 2] (N + 64)) (vo := .slice (fo 0) zo.length co) (vc := .slice (fc 1) zc.length cc) (hro.ren _ 0) (hrc.ren _ 1)) rfl).symm (by kernel_rfl) ⟨view_row _ hro rfl (bl rfl), view_row _ hrc rfl (bl rfl), trivial⟩ ?_
 rintro v s1 ⟨rfl, rfl⟩
 refine ⟨_, .bool (mayP zo zc p), ⟨[r0, r1], [], [none, none], [], rfl, by kernel_rfl, ⟨start_row hro, start_row hrc, trivial⟩, trivial, rfl⟩, rfl, ?_⟩
 refine EV.norm [0, 3, 14] (S2 := [(0, .slice (fb 0) zb.length cb), (3, pT 3), (14, .bool (mayP zo zc p))]) (A2 := hp [rb, r0, r1, pO fo fc zo zc co cc p 1 2] g N) (by kernel_rfl) (by kernel_rfl) ?_
 refine EV.runS (hcS K w0) 3 [0, 3, 15] (S2 := [(0, .slice (fb 0) zb.length cb), (3, pT 3), (15, .bool (!(mayP zo zc p)))]) rfl (by kernel_rfl) ?_
 refine EV.done rfl ?_
 have d1 : (!(mayP zo zc p)) = true := by rw [hm]; rfl
 refine V.cast (S2 := [(0, .slice (fb 0) zb.length cb), (3, pT 3), (15, .bool true)]) (by rw [d1]) rfl ?_
 refine V.cond true (by kernel_rfl) (fun _ => ?_) (fun h => Bool.noConfusion h)
 refine V.sr ?_
 refine EV.run (hcS K w0) 2 [4, 5] (S2 := [(4, .slice none 0 0), (5, .int .i64 2)]) (A2 := hp [rb, r0, r1, pO fo fc zo zc co cc p 1 2] g N) rfl (by kernel_rfl) ?_
 refine EV.done rfl ?_
 refine V.ret ?_
 refine thenV_r ?_
 exact EndsH_r hB [.slice none 0 0, .int .i64 2] [0, 1, 2, 64] [0, 1, 2] [rb, r0, r1] (.tuple #[.slice none 0 0, .int .i64 2]) (by kernel_rfl) (by kernel_rfl) (by kernel_rfl) ⟨.inr ⟨(bl rfl), .inl (hrb.obj _).symm⟩, .inr ⟨(bl rfl), .inl (hro.obj _).symm⟩, .inr ⟨(bl rfl), .inl (hrc.obj _).symm⟩, .inl (by decide), trivial⟩ rfl (shut_intro rfl fun τ hτ => ⟨rfl, .inr (hrb.obj _), .inr (hro.obj _), .inr (hrc.obj _), trivial⟩) ⟨rfl, rfl⟩
set_option maxHeartbeats 8000000 in
theorem f19_ok {rb r0 r1 : AObj} {fb fo fc : Nat → Option Addr} {zb zo zc : List Int} {cb co cc : Nat} (hrb : RowF rb fb zb cb) (hro : RowF r0 fo zo co) (hrc : RowF r1 fc zc cc) (p : PN) (hpo : p.Ok) (hm : mayP zo zc p = true) (hzl : zb.length ≤ 100000) : FH Try.prog 19 [rb, r0, r1] [.slice (fb 0) zb.length cb, .agg (pcl (.slice (fo 1) zo.length co) (.slice (fc 2) zc.length cc) p).toArray] (fun v s1 => v = .tuple #[outV 3 (zb ++ upB zo zc p 16), .int .i64 0] ∧ s1 = [rb, r0, r1, outO (zb ++ upB zo zc p 16)]) := by
 have hm' := hm
 simp only [mayP, Bool.and_eq_true, decide_eq_true_eq] at hm'
 obtain ⟨⟨⟨hokn, hzo⟩, hzc⟩, _⟩ := hm'
 have hzb := hrb.byte
 have hzob := hro.byte
 have hzcb := hrc.byte
 have hnum : ∀ j, j < 16 → p.num j = 0 ∨ mayN j (p.num j) = true := by
  intro j hj
  have : okN p (j + 1) = true := by
   cases h : okN p (j + 1) with
   | true => rfl
   | false => rw [okN_false p h (by omega)] at hokn; cases hokn
  simp only [okN, Bool.and_eq_true, Bool.or_eq_true, beq_iff_eq] at this
  exact this.2
 have hup := upB_len zo zc p hzo hzc
 have hnl : (0 ≤ p.i1 ∧ p.i1 ≤ 4611686018427387903) ∧ (0 ≤ p.i4 ∧ p.i4 ≤ 4611686018427387903) ∧ (0 ≤ p.i5 ∧ p.i5 ≤ 4611686018427387903) ∧ (0 ≤ p.i6 ∧ p.i6 ≤ 4611686018427387903) ∧ (0 ≤ p.i7 ∧ p.i7 ≤ 4611686018427387903) ∧ (0 ≤ p.i8 ∧ p.i8 ≤ 4611686018427387903) ∧ (0 ≤ p.i9 ∧ p.i9 ≤ 4611686018427387903) ∧ (0 ≤ p.i11 ∧ p.i11 ≤ 4611686018427387903) ∧ (0 ≤ p.i14 ∧ p.i14 ≤ 4611686018427387903) := ⟨⟨(hpo.num 1).1, (hnum 1 (by decide)).elim (fun h => by simp only [PN.num] at h; omega) mayN_le⟩, ⟨(hpo.num 4).1, (hnum 4 (by decide)).elim (fun h => by simp only [PN.num] at h; omega) mayN_le⟩, ⟨(hpo.num 5).1, (hnum 5 (by decide)).elim (fun h => by simp only [PN.num] at h; omega) mayN_le⟩, ⟨(hpo.num 6).1, (hnum 6 (by decide)).elim (fun h => by simp only [PN.num] at h; omega) mayN_le⟩, ⟨(hpo.num 7).1, (hnum 7 (by decide)).elim (fun h => by simp only [PN.num] at h; omega) mayN_le⟩, ⟨(hpo.num 8).1, (hnum 8 (by decide)).elim (fun h => by simp only [PN.num] at h; omega) mayN_le⟩, ⟨(hpo.num 9).1, (hnum 9 (by decide)).elim (fun h => by simp only [PN.num] at h; omega) mayN_le⟩, ⟨(hpo.num 11).1, (hnum 11 (by decide)).elim (fun h => by simp only [PN.num] at h; omega) mayN_le⟩, ⟨(hpo.num 14).1, (hnum 14 (by decide)).elim (fun h => by simp only [PN.num] at h; omega) mayN_le⟩⟩
 obtain ⟨hn1, hn4, hn5, hn6, hn7, hn8, hn9, hn11, hn14⟩ := hnl
 refine V.fnh (fn := Try.f19) Try.func19 (by kernel_rfl) rfl rfl fun K w0 g N hB => ?_
 refine V.sr ?_
 refine EV.run (hcS K w0) 3 [0, 3] (S2 := [(0, .slice (fb 0) zb.length cb), (3, pT 3)]) (A2 := hp [rb, r0, r1, pO fo fc zo zc co cc p 1 2] g N) rfl (by kernel_rfl) ?_
 refine EV.done rfl ?_
 refine V.seq ?_
 refine V.sr ?_
 refine EV.runS (hcS K w0) 1 [0, 3, 13] (S2 := [(0, .slice (fb 0) zb.length cb), (3, pT 3), (13, .agg (pcl (.slice (fo 1) zo.length co) (.slice (fc 2) zc.length cc) p).toArray)]) rfl (by kernel_rfl) ?_
 refine EV.callh (fs := #[]) (vs := [.agg (pcl (.slice (fo 1) zo.length co) (.slice (fc 2) zc.length cc) p).toArray]) (cs := #[]) [1, 2] (f21_fh hro hrc p) rfl rfl rfl (by kernel_rfl) (by kernel_rfl) (by kernel_rfl) (by kernel_rfl) (argsCons (σ := sigma [1, 2] (N + 64)) (a := .agg (pcl (.slice (fo 0) zo.length co) (.slice (fc 1) zc.length cc) p).toArray) (xs := []) (ren_pagg (τ := sigma [1, 2] (N + 64)) (vo := .slice (fo 0) zo.length co) (vc := .slice (fc 1) zc.length cc) (hro.ren _ 0) (hrc.ren _ 1)) rfl).symm (by kernel_rfl) ⟨view_row _ hro rfl (bl rfl), view_row _ hrc rfl (bl rfl), trivial⟩ ?_
 rintro v s1 ⟨rfl, rfl⟩
 refine ⟨_, .bool (mayP zo zc p), ⟨[r0, r1], [], [none, none], [], rfl, by kernel_rfl, ⟨start_row hro, start_row hrc, trivial⟩, trivial, rfl⟩, rfl, ?_⟩
 refine EV.norm [0, 3, 14] (S2 := [(0, .slice (fb 0) zb.length cb), (3, pT 3), (14, .bool (mayP zo zc p))]) (A2 := hp [rb, r0, r1, pO fo fc zo zc co cc p 1 2] g N) (by kernel_rfl) (by kernel_rfl) ?_
 refine EV.runS (hcS K w0) 3 [0, 3, 15] (S2 := [(0, .slice (fb 0) zb.length cb), (3, pT 3), (15, .bool (!(mayP zo zc p)))]) rfl (by kernel_rfl) ?_
 refine EV.done rfl ?_
 have d1 : (!(mayP zo zc p)) = false := by rw [hm]; rfl
 refine V.cast (S2 := [(0, .slice (fb 0) zb.length cb), (3, pT 3), (15, .bool false)]) (by rw [d1]) rfl ?_
 refine V.cond false (by kernel_rfl) (fun h => Bool.noConfusion h) (fun _ => ?_)
 refine V.skip ?_
 refine thenV_n ?_
 refine V.sr ?_
 refine EV.run (hcS K w0) 1 [3, 16] (S2 := [(3, pT 3), (16, .slice (fb 0) zb.length cb)]) (A2 := hp [rb, r0, r1, pO fo fc zo zc co cc p 1 2] g N) rfl (by kernel_rfl) ?_
 refine EV.pad (by kernel_rfl) ?_
 refine EV.norm [3, 16] (S2 := [(3, pT 3), (16, .slice (fb 0) zb.length cb)]) (A2 := hp [rb, r0, r1, pO fo fc zo zc co cc p 1 2, outO ([])] g N) (by kernel_rfl) (by kernel_rfl) ?_
 refine EV.app (hcS K w0) (zs := []) (xs := zb) 4 17 [3] (S1 := [(3, pT 3)]) hB rfl rfl rfl rfl (by kernel_rfl) rfl (by kernel_rfl) (by kernel_rfl) (by kernel_rfl) (fun _ _ _ => rfl) (hrb.row _ 0 rfl (bl rfl)) (by intro z hz; simp at hz) (by simp only [List.length_nil]; omega) rfl (by kernel_rfl) (fun τ hτ => ⟨.inr (hrb.obj _), .inr (hro.obj _), .inr (hrc.obj _), .inr (ren_pcl (τ := τ) (vo := .slice (fo 1) zo.length co) (vc := .slice (fc 2) zc.length cc) ((hro.ren τ 1).trans (by rw [hτ 1 (by decide) (by decide) (by show 1 ≠ 5; decide)])) ((hrc.ren τ 2).trans (by rw [hτ 2 (by decide) (by decide) (by show 2 ≠ 5; decide)]))), .inl rfl, trivial⟩) (by kernel_rfl) (by kernel_rfl) (fun τ hτ => by simp only [renS, ren, hτ 3 (by decide) (by decide) (by show 3 ≠ 5; decide)]) ?_
 intro g N hB
 refine EV.norm [3, 17] (S2 := [(3, pT 3), (17, outV 4 zb)]) (A2 := hp [rb, r0, r1, pO fo fc zo zc co cc p 1 2, outO zb] g N) (by kernel_rfl) (by kernel_rfl) ?_
 refine EV.run (hcS K w0) 4 [3, 6] (S2 := [(3, pT 3), (6, pT 5)]) (A2 := hp [rb, r0, r1, pO fo fc zo zc co cc p 1 2, outO zb, .cells [outV 4 zb] false false 1] g N) rfl (by kernel_rfl) ?_
 refine EV.done rfl ?_
 refine V.sr ?_
 refine EV.runS (hcS K w0) 2 [3, 6, 7] (S2 := [(3, pT 3), (6, pT 5), (7, .func (.func 29) #[] #[pT 5])]) rfl (by kernel_rfl) ?_
 refine EV.done rfl ?_
 refine V.seq ?_
 refine V.sr ?_
 refine EV.runS (hcS K w0) 1 [3, 6, 7, 8] (S2 := [(3, pT 3), (6, pT 5), (7, .func (.func 29) #[] #[pT 5]), (8, .int .u64 0)]) rfl (by kernel_rfl) ?_
 refine EV.done rfl ?_
 refine V.block ?_
 refine V.loop (fun k S A => ∃ (j : Nat) (zs : List Int) (g : Nat → AObj) (N : Nat), j + k = 17 ∧ j ≤ 16 ∧ zs = zb ++ upB zo zc p j ∧ Bulk g N ∧ S = [(3, pT 3), (6, pT 5), (7, .func (.func 29) #[] #[pT 5]), (8, .int .u64 ((j : Nat) : Int))] ∧ A = hp [rb, r0, r1, pO fo fc zo zc co cc p 1 2, outO zs, .cells [outV 4 zs] false false 1] g N) 17 ⟨0, zb, g, N, by decide, by decide, by simp [upB], hB, rfl, rfl⟩ ?_
 rintro k S A ⟨j, zs, g, N, hk, hj, hinv, hB, rfl, rfl⟩
 have hzsl : zs.length ≤ 100600 := by have := hup j; rw [hinv, List.length_append]; omega
 have hzsb : isByte zs := by rw [hinv]; exact byte_app hzb (upB_byte hpo hzob hzcb hokn j hj)
 have hcase : j = 0 ∨ j = 1 ∨ j = 2 ∨ j = 3 ∨ j = 4 ∨ j = 5 ∨ j = 6 ∨ j = 7 ∨ j = 8 ∨ j = 9 ∨ j = 10 ∨ j = 11 ∨ j = 12 ∨ j = 13 ∨ j = 14 ∨ j = 15 ∨ j = 16 := by omega
 rcases hcase with rfl | rfl | rfl | rfl | rfl | rfl | rfl | rfl | rfl | rfl | rfl | rfl | rfl | rfl | rfl | rfl | rfl
 ·
  obtain rfl : k = 17 := by omega
  rcases (show zo = [] ∨ ¬ zo = [] from Classical.em _) with hvne | hvne
  ·
   have hlen : decide (((zo.length : Nat) : Int) > 0) = false := by rw [hvne]; rfl
   refine V.seq ?_
   refine V.sr ?_
   refine EV.run (hcS K w0) 2 [3, 6, 7, 8, 20] (S2 := [(3, pT 3), (6, pT 5), (7, .func (.func 29) #[] #[pT 5]), (8, .int .u64 0), (20, .bool true)]) (A2 := hp [rb, r0, r1, pO fo fc zo zc co cc p 1 2, outO zs, .cells [outV 4 zs] false false 1] g N) rfl (by kernel_rfl) ?_
   refine EV.done rfl ?_
   refine V.cond true (by kernel_rfl) (fun _ => ?_) (fun h => Bool.noConfusion h)
   refine V.skip ?_
   refine thenV_n ?_
   refine V.seq ?_
   refine V.block ?_
   refine V.seq ?_
   refine V.sr ?_
   refine EV.runS (hcS K w0) 3 [3, 6, 7, 8, 9] (S2 := [(3, pT 3), (6, pT 5), (7, .func (.func 29) #[] #[pT 5]), (8, .int .u64 0), (9, .pointer none)]) rfl (by kernel_rfl) ?_
   refine EV.done rfl ?_
   refine V.sr ?_
   refine EV.runS (hcS K w0) 8 [3, 6, 7, 8, 9, 32] (S2 := [(3, pT 3), (6, pT 5), (7, .func (.func 29) #[] #[pT 5]), (8, .int .u64 0), (9, .pointer none), (32, .bool false)]) rfl (by kernel_rfl) ?_
   refine EV.done rfl ?_
   refine V.cond false (by kernel_rfl) (fun h => Bool.noConfusion h) (fun _ => ?_)
   refine V.skip ?_
   refine thenV_n ?_
   refine V.seq ?_
   refine V.sr ?_
   refine EV.runS (hcS K w0) 3 [3, 6, 7, 8, 12] (S2 := [(3, pT 3), (6, pT 5), (7, .func (.func 29) #[] #[pT 5]), (8, .int .u64 0), (12, pT 3)]) rfl (by kernel_rfl) ?_
   refine EV.done rfl ?_
   refine V.sr ?_
   refine EV.runS (hcS K w0) 9 [3, 6, 7, 8, 12, 55] (S2 := [(3, pT 3), (6, pT 5), (7, .func (.func 29) #[] #[pT 5]), (8, .int .u64 0), (12, pT 3), (55, .bool (decide (((zo.length : Nat) : Int) > 0)))]) rfl (by kernel_rfl) ?_
   refine EV.done rfl ?_
   have d2 : (decide (((zo.length : Nat) : Int) > 0)) = false := hlen
   refine V.cast (S2 := [(3, pT 3), (6, pT 5), (7, .func (.func 29) #[] #[pT 5]), (8, .int .u64 0), (12, pT 3), (55, .bool false)]) (by rw [d2]) rfl ?_
   refine V.cond false (by kernel_rfl) (fun h => Bool.noConfusion h) (fun _ => ?_)
   refine V.skip ?_
   refine thenV_n ?_
   refine V.sr ?_
   refine EV.run (hcS K w0) 6 [3, 6, 7, 8, 67] (S2 := [(3, pT 3), (6, pT 5), (7, .func (.func 29) #[] #[pT 5]), (8, .int .u64 0), (67, .bool false)]) (A2 := hp [rb, r0, r1, pO fo fc zo zc co cc p 1 2, outO zs, .cells [outV 4 zs] false false 1] g N) rfl (by kernel_rfl) ?_
   refine EV.done rfl ?_
   refine V.cond false (by kernel_rfl) (fun h => Bool.noConfusion h) (fun _ => ?_)
   refine V.skip ?_
   refine blockQ_n ?_
   refine thenV_n ?_
   refine V.region ?_
   refine EV.runS (hcS K w0) 3 [3, 6, 7, 8] (S2 := [(3, pT 3), (6, pT 5), (7, .func (.func 29) #[] #[pT 5]), (8, .int .u64 1)]) rfl (by kernel_rfl) ?_
   refine EV.done rfl ?_
   exact loopV_n 16 (by decide) ⟨1, zs, g, N, rfl, by decide, by rw [hinv]; simp [upB, itemB, putB, hvne], hB, rfl, rfl⟩
  ·
   have hlen := lenpos hvne
   refine V.seq ?_
   refine V.sr ?_
   refine EV.run (hcS K w0) 2 [3, 6, 7, 8, 20] (S2 := [(3, pT 3), (6, pT 5), (7, .func (.func 29) #[] #[pT 5]), (8, .int .u64 0), (20, .bool true)]) (A2 := hp [rb, r0, r1, pO fo fc zo zc co cc p 1 2, outO zs, .cells [outV 4 zs] false false 1] g N) rfl (by kernel_rfl) ?_
   refine EV.done rfl ?_
   refine V.cond true (by kernel_rfl) (fun _ => ?_) (fun h => Bool.noConfusion h)
   refine V.skip ?_
   refine thenV_n ?_
   refine V.seq ?_
   refine V.block ?_
   refine V.seq ?_
   refine V.sr ?_
   refine EV.runS (hcS K w0) 3 [3, 6, 7, 8, 9] (S2 := [(3, pT 3), (6, pT 5), (7, .func (.func 29) #[] #[pT 5]), (8, .int .u64 0), (9, .pointer none)]) rfl (by kernel_rfl) ?_
   refine EV.done rfl ?_
   refine V.sr ?_
   refine EV.runS (hcS K w0) 8 [3, 6, 7, 8, 9, 32] (S2 := [(3, pT 3), (6, pT 5), (7, .func (.func 29) #[] #[pT 5]), (8, .int .u64 0), (9, .pointer none), (32, .bool false)]) rfl (by kernel_rfl) ?_
   refine EV.done rfl ?_
   refine V.cond false (by kernel_rfl) (fun h => Bool.noConfusion h) (fun _ => ?_)
   refine V.skip ?_
   refine thenV_n ?_
   refine V.seq ?_
   refine V.sr ?_
   refine EV.runS (hcS K w0) 3 [3, 6, 7, 8, 12] (S2 := [(3, pT 3), (6, pT 5), (7, .func (.func 29) #[] #[pT 5]), (8, .int .u64 0), (12, pT 3)]) rfl (by kernel_rfl) ?_
   refine EV.done rfl ?_
   refine V.sr ?_
   refine EV.runS (hcS K w0) 9 [3, 6, 7, 8, 12, 55] (S2 := [(3, pT 3), (6, pT 5), (7, .func (.func 29) #[] #[pT 5]), (8, .int .u64 0), (12, pT 3), (55, .bool (decide (((zo.length : Nat) : Int) > 0)))]) rfl (by kernel_rfl) ?_
   refine EV.done rfl ?_
   have d3 : (decide (((zo.length : Nat) : Int) > 0)) = true := hlen
   refine V.cast (S2 := [(3, pT 3), (6, pT 5), (7, .func (.func 29) #[] #[pT 5]), (8, .int .u64 0), (12, pT 3), (55, .bool true)]) (by rw [d3]) rfl ?_
   refine V.cond true (by kernel_rfl) (fun _ => ?_) (fun h => Bool.noConfusion h)
   refine V.region ?_
   refine EV.run (hcS K w0) 5 [3, 6, 7, 8, 56, 57, 60] (S2 := [(3, pT 3), (6, pT 5), (7, .func (.func 29) #[] #[pT 5]), (8, .int .u64 0), (56, .func (.func 29) #[] #[pT 5]), (57, .int .u64 0), (60, .slice (fo 1) zo.length co)]) (A2 := hp [rb, r0, r1, pO fo fc zo zc co cc p 1 2, outO zs, .cells [outV 4 zs] false false 1] g N) rfl (by kernel_rfl) ?_
   refine EV.callh (fs := #[]) (vs := [.int .u64 0, .slice (fo 1) zo.length co]) (cs := #[pT 5]) [1, 5, 4] (f29_fh (zs := zs) (zv := zo) hro 0 hzsb hzob (by omega) hvne (by omega) (by omega)) rfl rfl rfl (by kernel_rfl) (by kernel_rfl) (by kernel_rfl) (by kernel_rfl) (argsCons (σ := sigma [1, 5, 4] (N + 64)) (a := .int .u64 0) (xs := [.slice (fo 0) zo.length co, pT 1]) rfl (argsCons (σ := sigma [1, 5, 4] (N + 64)) (a := .slice (fo 0) zo.length co) (xs := [pT 1]) (hro.ren (sigma [1, 5, 4] (N + 64)) 0) (argsCons (σ := sigma [1, 5, 4] (N + 64)) (a := pT 1) (xs := []) rfl rfl))).symm (by kernel_rfl) ⟨view_row _ hro rfl (bl rfl), .inr ⟨(bl rfl), rfl, .inl (ren_cells (argsCons (a := outV 2 zs) (xs := []) (ren_outV (sigma [1, 5, 4] (N + 64)) 2 zs) rfl)).symm⟩, part_out _ rfl (bl rfl), trivial⟩ ?_
   rintro v s1 ⟨rfl, rfl⟩
   refine ⟨_, .tuple #[], ⟨[r0, .cells [outV 3 (zs ++ encL [0, ((zo).length : Int)] ++ zo)] false false 1, deadO zs], [outO (zs ++ encL [0, ((zo).length : Int)] ++ zo)], [none, some (.cells [outV 6 (zs ++ encL [0, ((zo).length : Int)] ++ zo)] false false 1), deadU zs], [outO (zs ++ encL [0, ((zo).length : Int)] ++ zo)], rfl, by kernel_rfl, ⟨start_row hro, .inr (.inr ⟨rfl, _, rfl, .inl ⟨fun h => Bool.noConfusion h, (ren_cells (argsCons (a := outV 3 (zs ++ encL [0, ((zo).length : Int)] ++ zo)) (xs := []) (ren_outV (sigma1 [1, 5, 4] N 3 6) 3 (zs ++ encL [0, ((zo).length : Int)] ++ zo)) rfl)).symm⟩⟩), start_out zs, trivial⟩, ⟨new_out _ _, trivial⟩, rfl⟩, rfl, ?_⟩
   refine EV.norm [3, 6, 7, 8] (S2 := [(3, pT 3), (6, pT 5), (7, .func (.func 29) #[] #[pT 5]), (8, .int .u64 0)]) (A2 := hp [rb, r0, r1, pO fo fc zo zc co cc p 1 2, deadO zs, .cells [outV 6 (zs ++ encL [0, ((zo).length : Int)] ++ zo)] false false 1, outO (zs ++ encL [0, ((zo).length : Int)] ++ zo)] g N) (by kernel_rfl) (congrArg (fun q => hp (q ++ [outO (zs ++ encL [0, ((zo).length : Int)] ++ zo)]) g N) (upd_dead (s := [rb, r0, r1, pO fo fc zo zc co cc p 1 2, outO zs, .cells [outV 6 (zs ++ encL [0, ((zo).length : Int)] ++ zo)] false false 1]) (k := 4) (l := []) (us := []) (zs := zs) rfl (bl rfl))) ?_
   refine EV.reng hB [0, 1, 2, 3, 64, 5, 4] [0, 1, 2, 3, 6, 5] [3, 6, 7, 8] (S2 := [(3, pT 3), (6, pT 5), (7, .func (.func 29) #[] #[pT 5]), (8, .int .u64 0)]) (s2 := [rb, r0, r1, pO fo fc zo zc co cc p 1 2, outO (zs ++ encL [0, ((zo).length : Int)] ++ zo), .cells [outV 4 (zs ++ encL [0, ((zo).length : Int)] ++ zo)] false false 1]) (by kernel_rfl) (by kernel_rfl) ⟨.inr ⟨(bl rfl), .inl ((hrb.obj _).symm)⟩, .inr ⟨(bl rfl), .inl ((hro.obj _).symm)⟩, .inr ⟨(bl rfl), .inl ((hrc.obj _).symm)⟩, .inr ⟨(bl rfl), .inl ((ren_pcl (τ := tau [0, 1, 2, 3, 64, 5, 4] N) (vo := .slice (fo 1) zo.length co) (vc := .slice (fc 2) zc.length cc) (hro.ren _ 1) (hrc.ren _ 2)).symm)⟩, .inl (by decide), .inr ⟨(bl rfl), .inl ((ren_cells (argsCons (a := outV 6 (zs ++ encL [0, ((zo).length : Int)] ++ zo)) (xs := []) (ren_outV (tau [0, 1, 2, 3, 64, 5, 4] N) 6 (zs ++ encL [0, ((zo).length : Int)] ++ zo)) rfl)).symm)⟩, .inr ⟨(bl rfl), .inl ((renO_outO _ _).symm)⟩, trivial⟩ (renS_cons (rfl) (renS_cons (rfl) (renS_cons (rfl) (renS_cons (rfl) rfl)))) ?_
   intro g N hB
   refine EV.done rfl ?_
   refine thenV_n ?_
   refine V.sr ?_
   refine EV.run (hcS K w0) 6 [3, 6, 7, 8, 67] (S2 := [(3, pT 3), (6, pT 5), (7, .func (.func 29) #[] #[pT 5]), (8, .int .u64 0), (67, .bool false)]) (A2 := hp [rb, r0, r1, pO fo fc zo zc co cc p 1 2, outO (zs ++ encL [0, ((zo).length : Int)] ++ zo), .cells [outV 4 (zs ++ encL [0, ((zo).length : Int)] ++ zo)] false false 1] g N) rfl (by kernel_rfl) ?_
   refine EV.done rfl ?_
   refine V.cond false (by kernel_rfl) (fun h => Bool.noConfusion h) (fun _ => ?_)
   refine V.skip ?_
   refine blockQ_n ?_
   refine thenV_n ?_
   refine V.region ?_
   refine EV.runS (hcS K w0) 3 [3, 6, 7, 8] (S2 := [(3, pT 3), (6, pT 5), (7, .func (.func 29) #[] #[pT 5]), (8, .int .u64 1)]) rfl (by kernel_rfl) ?_
   refine EV.done rfl ?_
   exact loopV_n 16 (by decide) ⟨1, (zs ++ encL [0, ((zo).length : Int)] ++ zo), g, N, rfl, by decide, by rw [hinv]; simp [upB, itemB, putB, hvne], hB, rfl, rfl⟩
 ·
  obtain rfl : k = 16 := by omega
  refine V.seq ?_
  refine V.sr ?_
  refine EV.run (hcS K w0) 2 [3, 6, 7, 8, 20] (S2 := [(3, pT 3), (6, pT 5), (7, .func (.func 29) #[] #[pT 5]), (8, .int .u64 1), (20, .bool true)]) (A2 := hp [rb, r0, r1, pO fo fc zo zc co cc p 1 2, outO zs, .cells [outV 4 zs] false false 1] g N) rfl (by kernel_rfl) ?_
  refine EV.done rfl ?_
  refine V.cond true (by kernel_rfl) (fun _ => ?_) (fun h => Bool.noConfusion h)
  refine V.skip ?_
  refine thenV_n ?_
  refine V.seq ?_
  refine V.block ?_
  refine V.seq ?_
  refine V.sr ?_
  refine EV.runS (hcS K w0) 3 [3, 6, 7, 8, 9] (S2 := [(3, pT 3), (6, pT 5), (7, .func (.func 29) #[] #[pT 5]), (8, .int .u64 1), (9, .pointer (some ⟨3, 2, none⟩))]) rfl (by kernel_rfl) ?_
  refine EV.done rfl ?_
  refine V.sr ?_
  refine EV.runS (hcS K w0) 8 [3, 6, 7, 8, 9, 32] (S2 := [(3, pT 3), (6, pT 5), (7, .func (.func 29) #[] #[pT 5]), (8, .int .u64 1), (9, .pointer (some ⟨3, 2, none⟩)), (32, .bool (decide (p.i1 > 0)))]) rfl (by kernel_rfl) ?_
  refine EV.done rfl ?_
  refine V.cond (decide (p.i1 > 0)) (by kernel_rfl) (fun h4 => ?_) (fun h4 => ?_)
  ·
   refine V.sr ?_
   refine EV.run (hcS K w0) 4 [3, 6, 7, 8, 37] (S2 := [(3, pT 3), (6, pT 5), (7, .func (.func 29) #[] #[pT 5]), (8, .int .u64 1), (37, .slice (some ⟨6, 0, none⟩) 1 1)]) (A2 := hp [rb, r0, r1, pO fo fc zo zc co cc p 1 2, outO zs, .cells [outV 4 zs] false false 1, .cells [.int .u64 p.i1] false false 1] g N) rfl (by kernel_rfl) ?_
   refine EV.callh (fs := #[]) (vs := [.slice none 0 0, .slice (some ⟨6, 0, none⟩) 1 1]) (cs := #[]) [6] (f17n_fh p.i1 hn1) rfl rfl rfl (by kernel_rfl) (by kernel_rfl) (by kernel_rfl) (by kernel_rfl) (argsCons (σ := sigma [6] (N + 64)) (a := .slice none 0 0) (xs := [.slice (some ⟨0, 0, none⟩) 1 1]) rfl (argsCons (σ := sigma [6] (N + 64)) (a := .slice (some ⟨0, 0, none⟩) 1 1) (xs := []) rfl rfl)).symm (by kernel_rfl) ⟨.inr ⟨(bl rfl), rfl, .inr ⟨_, _, _, rfl, rfl⟩⟩, trivial⟩ ?_
   rintro v s1 ⟨rfl, rfl⟩
   refine ⟨_, .tuple #[outV 7 (shortOf p.i1), .int .i64 0], ⟨[.cells [.int .u64 p.i1] true false 1], [outO (shortOf p.i1)], [none], [outO (shortOf p.i1)], rfl, by kernel_rfl, ⟨.inr (.inl ⟨⟨_, _, _, rfl⟩, rfl⟩), trivial⟩, ⟨new_out _ _, trivial⟩, rfl⟩, (congrArg (fun q => Value.tuple #[q, .int .i64 0]) (ren_outV (sigma1 [6] N 1 7) 1 (shortOf p.i1))).symm, ?_⟩
   refine EV.norm [3, 6, 7, 8, 38] (S2 := [(3, pT 3), (6, pT 5), (7, .func (.func 29) #[] #[pT 5]), (8, .int .u64 1), (38, .tuple #[outV 7 (shortOf p.i1), .int .i64 0])]) (A2 := hp [rb, r0, r1, pO fo fc zo zc co cc p 1 2, outO zs, .cells [outV 4 zs] false false 1, .cells [.int .u64 p.i1] false false 1, outO (shortOf p.i1)] g N) (by kernel_rfl) (by kernel_rfl) ?_
   refine EV.runS (hcS K w0) 10 [3, 6, 7, 8, 10] (S2 := [(3, pT 3), (6, pT 5), (7, .func (.func 29) #[] #[pT 5]), (8, .int .u64 1), (10, outV 7 (shortOf p.i1))]) rfl (by kernel_rfl) ?_
   refine EV.done rfl ?_
   refine V.region ?_
   refine EV.runS (hcS K w0) 3 [3, 6, 7, 8, 41, 42, 43] (S2 := [(3, pT 3), (6, pT 5), (7, .func (.func 29) #[] #[pT 5]), (8, .int .u64 1), (41, .func (.func 29) #[] #[pT 5]), (42, .int .u64 1), (43, outV 7 (shortOf p.i1))]) rfl (by kernel_rfl) ?_
   refine EV.callh (fs := #[]) (vs := [.int .u64 1, outV 7 (shortOf p.i1)]) (cs := #[pT 5]) [7, 5, 4] (f29_fh (zs := zs) (zv := shortOf p.i1) (rowF_out (shortOf_byte _ hn1.1)) 1 hzsb (shortOf_byte _ hn1.1) (by omega) (shortOf_ne (clsN_small hn1.2)) (by omega) (by have := shortOf_le p.i1; omega)) rfl rfl rfl (by kernel_rfl) (by kernel_rfl) (by kernel_rfl) (by kernel_rfl) (argsCons (σ := sigma [7, 5, 4] (N + 64)) (a := .int .u64 1) (xs := [outV 0 (shortOf p.i1), pT 1]) rfl (argsCons (σ := sigma [7, 5, 4] (N + 64)) (a := outV 0 (shortOf p.i1)) (xs := [pT 1]) (ren_outV (sigma [7, 5, 4] (N + 64)) 0 (shortOf p.i1)) (argsCons (σ := sigma [7, 5, 4] (N + 64)) (a := pT 1) (xs := []) rfl rfl))).symm (by kernel_rfl) ⟨view_out _ rfl (bl rfl), .inr ⟨(bl rfl), rfl, .inl (ren_cells (argsCons (a := outV 2 zs) (xs := []) (ren_outV (sigma [7, 5, 4] (N + 64)) 2 zs) rfl)).symm⟩, part_out _ rfl (bl rfl), trivial⟩ ?_
   rintro v s1 ⟨rfl, rfl⟩
   refine ⟨_, .tuple #[], ⟨[outR (shortOf p.i1), .cells [outV 3 (zs ++ encL [1, ((shortOf p.i1).length : Int)] ++ shortOf p.i1)] false false 1, deadO zs], [outO (zs ++ encL [1, ((shortOf p.i1).length : Int)] ++ shortOf p.i1)], [none, some (.cells [outV 8 (zs ++ encL [1, ((shortOf p.i1).length : Int)] ++ shortOf p.i1)] false false 1), deadU zs], [outO (zs ++ encL [1, ((shortOf p.i1).length : Int)] ++ shortOf p.i1)], rfl, by kernel_rfl, ⟨start_row (rowF_out (shortOf_byte _ hn1.1)), .inr (.inr ⟨rfl, _, rfl, .inl ⟨fun h => Bool.noConfusion h, (ren_cells (argsCons (a := outV 3 (zs ++ encL [1, ((shortOf p.i1).length : Int)] ++ shortOf p.i1)) (xs := []) (ren_outV (sigma1 [7, 5, 4] N 3 8) 3 (zs ++ encL [1, ((shortOf p.i1).length : Int)] ++ shortOf p.i1)) rfl)).symm⟩⟩), start_out zs, trivial⟩, ⟨new_out _ _, trivial⟩, rfl⟩, rfl, ?_⟩
   refine EV.norm [3, 6, 7, 8] (S2 := [(3, pT 3), (6, pT 5), (7, .func (.func 29) #[] #[pT 5]), (8, .int .u64 1)]) (A2 := hp [rb, r0, r1, pO fo fc zo zc co cc p 1 2, deadO zs, .cells [outV 8 (zs ++ encL [1, ((shortOf p.i1).length : Int)] ++ shortOf p.i1)] false false 1, .cells [.int .u64 p.i1] false false 1, outO (shortOf p.i1), outO (zs ++ encL [1, ((shortOf p.i1).length : Int)] ++ shortOf p.i1)] g N) (by kernel_rfl) (congrArg (fun q => hp (q ++ [outO (zs ++ encL [1, ((shortOf p.i1).length : Int)] ++ shortOf p.i1)]) g N) (upd_dead (s := [rb, r0, r1, pO fo fc zo zc co cc p 1 2, outO zs, .cells [outV 8 (zs ++ encL [1, ((shortOf p.i1).length : Int)] ++ shortOf p.i1)] false false 1, .cells [.int .u64 p.i1] false false 1, outO (shortOf p.i1)]) (k := 4) (l := []) (us := []) (zs := zs) rfl (bl rfl))) ?_
   refine EV.reng hB [0, 1, 2, 3, 64, 5, 64, 64, 4] [0, 1, 2, 3, 8, 5] [3, 6, 7, 8] (S2 := [(3, pT 3), (6, pT 5), (7, .func (.func 29) #[] #[pT 5]), (8, .int .u64 1)]) (s2 := [rb, r0, r1, pO fo fc zo zc co cc p 1 2, outO (zs ++ encL [1, ((shortOf p.i1).length : Int)] ++ shortOf p.i1), .cells [outV 4 (zs ++ encL [1, ((shortOf p.i1).length : Int)] ++ shortOf p.i1)] false false 1]) (by kernel_rfl) (by kernel_rfl) ⟨.inr ⟨(bl rfl), .inl ((hrb.obj _).symm)⟩, .inr ⟨(bl rfl), .inl ((hro.obj _).symm)⟩, .inr ⟨(bl rfl), .inl ((hrc.obj _).symm)⟩, .inr ⟨(bl rfl), .inl ((ren_pcl (τ := tau [0, 1, 2, 3, 64, 5, 64, 64, 4] N) (vo := .slice (fo 1) zo.length co) (vc := .slice (fc 2) zc.length cc) (hro.ren _ 1) (hrc.ren _ 2)).symm)⟩, .inl (by decide), .inr ⟨(bl rfl), .inl ((ren_cells (argsCons (a := outV 8 (zs ++ encL [1, ((shortOf p.i1).length : Int)] ++ shortOf p.i1)) (xs := []) (ren_outV (tau [0, 1, 2, 3, 64, 5, 64, 64, 4] N) 8 (zs ++ encL [1, ((shortOf p.i1).length : Int)] ++ shortOf p.i1)) rfl)).symm)⟩, .inl (by decide), .inl (by decide), .inr ⟨(bl rfl), .inl ((renO_outO _ _).symm)⟩, trivial⟩ (renS_cons (rfl) (renS_cons (rfl) (renS_cons (rfl) (renS_cons (rfl) rfl)))) ?_
   intro g N hB
   refine EV.done rfl ?_
   refine thenV_n ?_
   refine V.seq ?_
   refine V.sr ?_
   refine EV.run (hcS K w0) 3 [3, 6, 7, 8, 12] (S2 := [(3, pT 3), (6, pT 5), (7, .func (.func 29) #[] #[pT 5]), (8, .int .u64 1), (12, .pointer none)]) (A2 := hp [rb, r0, r1, pO fo fc zo zc co cc p 1 2, outO (zs ++ encL [1, ((shortOf p.i1).length : Int)] ++ shortOf p.i1), .cells [outV 4 (zs ++ encL [1, ((shortOf p.i1).length : Int)] ++ shortOf p.i1)] false false 1] g N) rfl (by kernel_rfl) ?_
   refine EV.done rfl ?_
   refine V.sr ?_
   refine EV.runS (hcS K w0) 9 [3, 6, 7, 8, 12, 55] (S2 := [(3, pT 3), (6, pT 5), (7, .func (.func 29) #[] #[pT 5]), (8, .int .u64 1), (12, .pointer none), (55, .bool false)]) rfl (by kernel_rfl) ?_
   refine EV.done rfl ?_
   refine V.cond false (by kernel_rfl) (fun h => Bool.noConfusion h) (fun _ => ?_)
   refine V.skip ?_
   refine thenV_n ?_
   refine V.sr ?_
   refine EV.runS (hcS K w0) 6 [3, 6, 7, 8, 67] (S2 := [(3, pT 3), (6, pT 5), (7, .func (.func 29) #[] #[pT 5]), (8, .int .u64 1), (67, .bool false)]) rfl (by kernel_rfl) ?_
   refine EV.done rfl ?_
   refine V.cond false (by kernel_rfl) (fun h => Bool.noConfusion h) (fun _ => ?_)
   refine V.skip ?_
   refine blockQ_n ?_
   refine thenV_n ?_
   refine V.region ?_
   refine EV.runS (hcS K w0) 3 [3, 6, 7, 8] (S2 := [(3, pT 3), (6, pT 5), (7, .func (.func 29) #[] #[pT 5]), (8, .int .u64 2)]) rfl (by kernel_rfl) ?_
   refine EV.done rfl ?_
   exact loopV_n 15 (by decide) ⟨2, (zs ++ encL [1, ((shortOf p.i1).length : Int)] ++ shortOf p.i1), g, N, rfl, by decide, by rw [hinv]; (have hz : ¬ p.i1 = 0 := by (simp at h4; omega)); simp [upB, itemB, putB, hz, PN.num], hB, rfl, rfl⟩
  ·
   refine V.skip ?_
   refine thenV_n ?_
   refine V.seq ?_
   refine V.sr ?_
   refine EV.runS (hcS K w0) 3 [3, 6, 7, 8, 12] (S2 := [(3, pT 3), (6, pT 5), (7, .func (.func 29) #[] #[pT 5]), (8, .int .u64 1), (12, .pointer none)]) rfl (by kernel_rfl) ?_
   refine EV.done rfl ?_
   refine V.sr ?_
   refine EV.runS (hcS K w0) 9 [3, 6, 7, 8, 12, 55] (S2 := [(3, pT 3), (6, pT 5), (7, .func (.func 29) #[] #[pT 5]), (8, .int .u64 1), (12, .pointer none), (55, .bool false)]) rfl (by kernel_rfl) ?_
   refine EV.done rfl ?_
   refine V.cond false (by kernel_rfl) (fun h => Bool.noConfusion h) (fun _ => ?_)
   refine V.skip ?_
   refine thenV_n ?_
   refine V.sr ?_
   refine EV.runS (hcS K w0) 6 [3, 6, 7, 8, 67] (S2 := [(3, pT 3), (6, pT 5), (7, .func (.func 29) #[] #[pT 5]), (8, .int .u64 1), (67, .bool false)]) rfl (by kernel_rfl) ?_
   refine EV.done rfl ?_
   refine V.cond false (by kernel_rfl) (fun h => Bool.noConfusion h) (fun _ => ?_)
   refine V.skip ?_
   refine blockQ_n ?_
   refine thenV_n ?_
   refine V.region ?_
   refine EV.runS (hcS K w0) 3 [3, 6, 7, 8] (S2 := [(3, pT 3), (6, pT 5), (7, .func (.func 29) #[] #[pT 5]), (8, .int .u64 2)]) rfl (by kernel_rfl) ?_
   refine EV.done rfl ?_
   exact loopV_n 15 (by decide) ⟨2, zs, g, N, rfl, by decide, by rw [hinv]; (have hz : p.num 1 = 0 := by (show p.i1 = 0; have := hn1.1; simp at h4; omega)); simp [upB, itemB, hz], hB, rfl, rfl⟩
 ·
  obtain rfl : k = 15 := by omega
  refine V.seq ?_
  refine V.sr ?_
  refine EV.run (hcS K w0) 2 [3, 6, 7, 8, 20] (S2 := [(3, pT 3), (6, pT 5), (7, .func (.func 29) #[] #[pT 5]), (8, .int .u64 2), (20, .bool true)]) (A2 := hp [rb, r0, r1, pO fo fc zo zc co cc p 1 2, outO zs, .cells [outV 4 zs] false false 1] g N) rfl (by kernel_rfl) ?_
  refine EV.done rfl ?_
  refine V.cond true (by kernel_rfl) (fun _ => ?_) (fun h => Bool.noConfusion h)
  refine V.skip ?_
  refine thenV_n ?_
  refine V.seq ?_
  refine V.block ?_
  refine V.seq ?_
  refine V.sr ?_
  refine EV.runS (hcS K w0) 3 [3, 6, 7, 8, 9] (S2 := [(3, pT 3), (6, pT 5), (7, .func (.func 29) #[] #[pT 5]), (8, .int .u64 2), (9, .pointer none)]) rfl (by kernel_rfl) ?_
  refine EV.done rfl ?_
  refine V.sr ?_
  refine EV.runS (hcS K w0) 8 [3, 6, 7, 8, 9, 32] (S2 := [(3, pT 3), (6, pT 5), (7, .func (.func 29) #[] #[pT 5]), (8, .int .u64 2), (9, .pointer none), (32, .bool false)]) rfl (by kernel_rfl) ?_
  refine EV.done rfl ?_
  refine V.cond false (by kernel_rfl) (fun h => Bool.noConfusion h) (fun _ => ?_)
  refine V.skip ?_
  refine thenV_n ?_
  refine V.seq ?_
  refine V.sr ?_
  refine EV.runS (hcS K w0) 3 [3, 6, 7, 8, 12] (S2 := [(3, pT 3), (6, pT 5), (7, .func (.func 29) #[] #[pT 5]), (8, .int .u64 2), (12, .pointer none)]) rfl (by kernel_rfl) ?_
  refine EV.done rfl ?_
  refine V.sr ?_
  refine EV.runS (hcS K w0) 9 [3, 6, 7, 8, 12, 55] (S2 := [(3, pT 3), (6, pT 5), (7, .func (.func 29) #[] #[pT 5]), (8, .int .u64 2), (12, .pointer none), (55, .bool false)]) rfl (by kernel_rfl) ?_
  refine EV.done rfl ?_
  refine V.cond false (by kernel_rfl) (fun h => Bool.noConfusion h) (fun _ => ?_)
  refine V.skip ?_
  refine thenV_n ?_
  refine V.sr ?_
  refine EV.runS (hcS K w0) 6 [3, 6, 7, 8, 67] (S2 := [(3, pT 3), (6, pT 5), (7, .func (.func 29) #[] #[pT 5]), (8, .int .u64 2), (67, .bool p.ht)]) rfl (by kernel_rfl) ?_
  refine EV.done rfl ?_
  refine V.cond (p.ht) (by kernel_rfl) (fun h5 => ?_) (fun h5 => ?_)
  ·
   refine V.region ?_
   refine EV.runS (hcS K w0) 4 [3, 6, 7, 8, 68, 69, 71] (S2 := [(3, pT 3), (6, pT 5), (7, .func (.func 29) #[] #[pT 5]), (8, .int .u64 2), (68, .func (.func 29) #[] #[pT 5]), (69, .int .u64 2), (71, .slice (some ⟨3, 12, none⟩) 16 16)]) rfl (by kernel_rfl) ?_
   refine EV.callh (fs := #[]) (vs := [.int .u64 2, .slice (some ⟨3, 12, none⟩) 16 16]) (cs := #[pT 5]) [1, 2, 3, 5, 4] (f29t_fh (zs := zs) (zv := p.tok) hro hrc p rfl 2 hzsb hpo.tok (by omega) (by simp [PN.tok]) (by omega) (by simp [PN.tok])) rfl rfl rfl (by kernel_rfl) (by kernel_rfl) (by kernel_rfl) (by kernel_rfl) (argsCons (σ := sigma [1, 2, 3, 5, 4] (N + 64)) (a := .int .u64 2) (xs := [.slice (some ⟨2, 12, none⟩) 16 16, pT 3]) rfl (argsCons (σ := sigma [1, 2, 3, 5, 4] (N + 64)) (a := .slice (some ⟨2, 12, none⟩) 16 16) (xs := [pT 3]) rfl (argsCons (σ := sigma [1, 2, 3, 5, 4] (N + 64)) (a := pT 3) (xs := []) rfl rfl))).symm (by kernel_rfl) ⟨view_row _ hro rfl (bl rfl), view_row _ hrc rfl (bl rfl), .inr ⟨(bl rfl), rfl, .inr ⟨_, _, _, rfl, (ren_pcl (τ := sigma [1, 2, 3, 5, 4] (N + 64)) (vo := .slice (fo 0) zo.length co) (vc := .slice (fc 1) zc.length cc) (p := p) (ro := false) (opn := false) (esz := 1) (hro.ren _ 0) (hrc.ren _ 1)).symm⟩⟩, .inr ⟨(bl rfl), rfl, .inl (ren_cells (argsCons (a := outV 4 zs) (xs := []) (ren_outV (sigma [1, 2, 3, 5, 4] (N + 64)) 4 zs) rfl)).symm⟩, part_out _ rfl (bl rfl), trivial⟩ ?_
   rintro v s1 ⟨rfl, rfl⟩
   refine ⟨_, .tuple #[], ⟨[r0, r1, .cells (pcl (.slice (fo 0) zo.length co) (.slice (fc 1) zc.length cc) p) true false 1, .cells [outV 5 (zs ++ encL [2, ((p.tok).length : Int)] ++ p.tok)] false false 1, deadO zs], [outO (zs ++ encL [2, ((p.tok).length : Int)] ++ p.tok)], [none, none, none, some (.cells [outV 6 (zs ++ encL [2, ((p.tok).length : Int)] ++ p.tok)] false false 1), deadU zs], [outO (zs ++ encL [2, ((p.tok).length : Int)] ++ p.tok)], rfl, by kernel_rfl, ⟨start_row hro, start_row hrc, .inr (.inl ⟨⟨_, _, _, rfl⟩, rfl⟩), .inr (.inr ⟨rfl, _, rfl, .inl ⟨fun h => Bool.noConfusion h, (ren_cells (argsCons (a := outV 5 (zs ++ encL [2, ((p.tok).length : Int)] ++ p.tok)) (xs := []) (ren_outV (sigma1 [1, 2, 3, 5, 4] N 5 6) 5 (zs ++ encL [2, ((p.tok).length : Int)] ++ p.tok)) rfl)).symm⟩⟩), start_out zs, trivial⟩, ⟨new_out _ _, trivial⟩, rfl⟩, rfl, ?_⟩
   refine EV.norm [3, 6, 7, 8] (S2 := [(3, pT 3), (6, pT 5), (7, .func (.func 29) #[] #[pT 5]), (8, .int .u64 2)]) (A2 := hp [rb, r0, r1, pO fo fc zo zc co cc p 1 2, deadO zs, .cells [outV 6 (zs ++ encL [2, ((p.tok).length : Int)] ++ p.tok)] false false 1, outO (zs ++ encL [2, ((p.tok).length : Int)] ++ p.tok)] g N) (by kernel_rfl) (congrArg (fun q => hp (q ++ [outO (zs ++ encL [2, ((p.tok).length : Int)] ++ p.tok)]) g N) (upd_dead (s := [rb, r0, r1, pO fo fc zo zc co cc p 1 2, outO zs, .cells [outV 6 (zs ++ encL [2, ((p.tok).length : Int)] ++ p.tok)] false false 1]) (k := 4) (l := []) (us := []) (zs := zs) rfl (bl rfl))) ?_
   refine EV.reng hB [0, 1, 2, 3, 64, 5, 4] [0, 1, 2, 3, 6, 5] [3, 6, 7, 8] (S2 := [(3, pT 3), (6, pT 5), (7, .func (.func 29) #[] #[pT 5]), (8, .int .u64 2)]) (s2 := [rb, r0, r1, pO fo fc zo zc co cc p 1 2, outO (zs ++ encL [2, ((p.tok).length : Int)] ++ p.tok), .cells [outV 4 (zs ++ encL [2, ((p.tok).length : Int)] ++ p.tok)] false false 1]) (by kernel_rfl) (by kernel_rfl) ⟨.inr ⟨(bl rfl), .inl ((hrb.obj _).symm)⟩, .inr ⟨(bl rfl), .inl ((hro.obj _).symm)⟩, .inr ⟨(bl rfl), .inl ((hrc.obj _).symm)⟩, .inr ⟨(bl rfl), .inl ((ren_pcl (τ := tau [0, 1, 2, 3, 64, 5, 4] N) (vo := .slice (fo 1) zo.length co) (vc := .slice (fc 2) zc.length cc) (hro.ren _ 1) (hrc.ren _ 2)).symm)⟩, .inl (by decide), .inr ⟨(bl rfl), .inl ((ren_cells (argsCons (a := outV 6 (zs ++ encL [2, ((p.tok).length : Int)] ++ p.tok)) (xs := []) (ren_outV (tau [0, 1, 2, 3, 64, 5, 4] N) 6 (zs ++ encL [2, ((p.tok).length : Int)] ++ p.tok)) rfl)).symm)⟩, .inr ⟨(bl rfl), .inl ((renO_outO _ _).symm)⟩, trivial⟩ (renS_cons (rfl) (renS_cons (rfl) (renS_cons (rfl) (renS_cons (rfl) rfl)))) ?_
   intro g N hB
   refine EV.done rfl ?_
   refine blockQ_n ?_
   refine thenV_n ?_
   refine V.region ?_
   refine EV.run (hcS K w0) 3 [3, 6, 7, 8] (S2 := [(3, pT 3), (6, pT 5), (7, .func (.func 29) #[] #[pT 5]), (8, .int .u64 3)]) (A2 := hp [rb, r0, r1, pO fo fc zo zc co cc p 1 2, outO (zs ++ encL [2, ((p.tok).length : Int)] ++ p.tok), .cells [outV 4 (zs ++ encL [2, ((p.tok).length : Int)] ++ p.tok)] false false 1] g N) rfl (by kernel_rfl) ?_
   refine EV.done rfl ?_
   exact loopV_n 14 (by decide) ⟨3, (zs ++ encL [2, ((p.tok).length : Int)] ++ p.tok), g, N, rfl, by decide, by rw [hinv]; simp [upB, itemB, putB, h5], hB, rfl, rfl⟩
  ·
   refine V.skip ?_
   refine blockQ_n ?_
   refine thenV_n ?_
   refine V.region ?_
   refine EV.runS (hcS K w0) 3 [3, 6, 7, 8] (S2 := [(3, pT 3), (6, pT 5), (7, .func (.func 29) #[] #[pT 5]), (8, .int .u64 3)]) rfl (by kernel_rfl) ?_
   refine EV.done rfl ?_
   exact loopV_n 14 (by decide) ⟨3, zs, g, N, rfl, by decide, by rw [hinv]; simp [upB, itemB, putB, h5], hB, rfl, rfl⟩
 ·
  obtain rfl : k = 14 := by omega
  refine V.seq ?_
  refine V.sr ?_
  refine EV.run (hcS K w0) 2 [3, 6, 7, 8, 20] (S2 := [(3, pT 3), (6, pT 5), (7, .func (.func 29) #[] #[pT 5]), (8, .int .u64 3), (20, .bool true)]) (A2 := hp [rb, r0, r1, pO fo fc zo zc co cc p 1 2, outO zs, .cells [outV 4 zs] false false 1] g N) rfl (by kernel_rfl) ?_
  refine EV.done rfl ?_
  refine V.cond true (by kernel_rfl) (fun _ => ?_) (fun h => Bool.noConfusion h)
  refine V.skip ?_
  refine thenV_n ?_
  refine V.seq ?_
  refine V.block ?_
  refine V.seq ?_
  refine V.sr ?_
  refine EV.runS (hcS K w0) 3 [3, 6, 7, 8, 9] (S2 := [(3, pT 3), (6, pT 5), (7, .func (.func 29) #[] #[pT 5]), (8, .int .u64 3), (9, .pointer none)]) rfl (by kernel_rfl) ?_
  refine EV.done rfl ?_
  refine V.sr ?_
  refine EV.runS (hcS K w0) 8 [3, 6, 7, 8, 9, 32] (S2 := [(3, pT 3), (6, pT 5), (7, .func (.func 29) #[] #[pT 5]), (8, .int .u64 3), (9, .pointer none), (32, .bool false)]) rfl (by kernel_rfl) ?_
  refine EV.done rfl ?_
  refine V.cond false (by kernel_rfl) (fun h => Bool.noConfusion h) (fun _ => ?_)
  refine V.skip ?_
  refine thenV_n ?_
  refine V.seq ?_
  refine V.sr ?_
  refine EV.runS (hcS K w0) 3 [3, 6, 7, 8, 12] (S2 := [(3, pT 3), (6, pT 5), (7, .func (.func 29) #[] #[pT 5]), (8, .int .u64 3), (12, .pointer none)]) rfl (by kernel_rfl) ?_
  refine EV.done rfl ?_
  refine V.sr ?_
  refine EV.runS (hcS K w0) 9 [3, 6, 7, 8, 12, 55] (S2 := [(3, pT 3), (6, pT 5), (7, .func (.func 29) #[] #[pT 5]), (8, .int .u64 3), (12, .pointer none), (55, .bool false)]) rfl (by kernel_rfl) ?_
  refine EV.done rfl ?_
  refine V.cond false (by kernel_rfl) (fun h => Bool.noConfusion h) (fun _ => ?_)
  refine V.skip ?_
  refine thenV_n ?_
  refine V.sr ?_
  refine EV.runS (hcS K w0) 6 [3, 6, 7, 8, 67] (S2 := [(3, pT 3), (6, pT 5), (7, .func (.func 29) #[] #[pT 5]), (8, .int .u64 3), (67, .bool false)]) rfl (by kernel_rfl) ?_
  refine EV.done rfl ?_
  refine V.cond false (by kernel_rfl) (fun h => Bool.noConfusion h) (fun _ => ?_)
  refine V.skip ?_
  refine blockQ_n ?_
  refine thenV_n ?_
  refine V.region ?_
  refine EV.runS (hcS K w0) 3 [3, 6, 7, 8] (S2 := [(3, pT 3), (6, pT 5), (7, .func (.func 29) #[] #[pT 5]), (8, .int .u64 4)]) rfl (by kernel_rfl) ?_
  refine EV.done rfl ?_
  exact loopV_n 13 (by decide) ⟨4, zs, g, N, rfl, by decide, by rw [hinv]; simp [upB, itemB, PN.num], hB, rfl, rfl⟩
 ·
  obtain rfl : k = 13 := by omega
  refine V.seq ?_
  refine V.sr ?_
  refine EV.run (hcS K w0) 2 [3, 6, 7, 8, 20] (S2 := [(3, pT 3), (6, pT 5), (7, .func (.func 29) #[] #[pT 5]), (8, .int .u64 4), (20, .bool true)]) (A2 := hp [rb, r0, r1, pO fo fc zo zc co cc p 1 2, outO zs, .cells [outV 4 zs] false false 1] g N) rfl (by kernel_rfl) ?_
  refine EV.done rfl ?_
  refine V.cond true (by kernel_rfl) (fun _ => ?_) (fun h => Bool.noConfusion h)
  refine V.skip ?_
  refine thenV_n ?_
  refine V.seq ?_
  refine V.block ?_
  refine V.seq ?_
  refine V.sr ?_
  refine EV.runS (hcS K w0) 3 [3, 6, 7, 8, 9] (S2 := [(3, pT 3), (6, pT 5), (7, .func (.func 29) #[] #[pT 5]), (8, .int .u64 4), (9, .pointer (some ⟨3, 3, none⟩))]) rfl (by kernel_rfl) ?_
  refine EV.done rfl ?_
  refine V.sr ?_
  refine EV.runS (hcS K w0) 8 [3, 6, 7, 8, 9, 32] (S2 := [(3, pT 3), (6, pT 5), (7, .func (.func 29) #[] #[pT 5]), (8, .int .u64 4), (9, .pointer (some ⟨3, 3, none⟩)), (32, .bool (decide (p.i4 > 0)))]) rfl (by kernel_rfl) ?_
  refine EV.done rfl ?_
  refine V.cond (decide (p.i4 > 0)) (by kernel_rfl) (fun h6 => ?_) (fun h6 => ?_)
  ·
   refine V.sr ?_
   refine EV.run (hcS K w0) 4 [3, 6, 7, 8, 37] (S2 := [(3, pT 3), (6, pT 5), (7, .func (.func 29) #[] #[pT 5]), (8, .int .u64 4), (37, .slice (some ⟨6, 0, none⟩) 1 1)]) (A2 := hp [rb, r0, r1, pO fo fc zo zc co cc p 1 2, outO zs, .cells [outV 4 zs] false false 1, .cells [.int .u64 p.i4] false false 1] g N) rfl (by kernel_rfl) ?_
   refine EV.callh (fs := #[]) (vs := [.slice none 0 0, .slice (some ⟨6, 0, none⟩) 1 1]) (cs := #[]) [6] (f17n_fh p.i4 hn4) rfl rfl rfl (by kernel_rfl) (by kernel_rfl) (by kernel_rfl) (by kernel_rfl) (argsCons (σ := sigma [6] (N + 64)) (a := .slice none 0 0) (xs := [.slice (some ⟨0, 0, none⟩) 1 1]) rfl (argsCons (σ := sigma [6] (N + 64)) (a := .slice (some ⟨0, 0, none⟩) 1 1) (xs := []) rfl rfl)).symm (by kernel_rfl) ⟨.inr ⟨(bl rfl), rfl, .inr ⟨_, _, _, rfl, rfl⟩⟩, trivial⟩ ?_
   rintro v s1 ⟨rfl, rfl⟩
   refine ⟨_, .tuple #[outV 7 (shortOf p.i4), .int .i64 0], ⟨[.cells [.int .u64 p.i4] true false 1], [outO (shortOf p.i4)], [none], [outO (shortOf p.i4)], rfl, by kernel_rfl, ⟨.inr (.inl ⟨⟨_, _, _, rfl⟩, rfl⟩), trivial⟩, ⟨new_out _ _, trivial⟩, rfl⟩, (congrArg (fun q => Value.tuple #[q, .int .i64 0]) (ren_outV (sigma1 [6] N 1 7) 1 (shortOf p.i4))).symm, ?_⟩
   refine EV.norm [3, 6, 7, 8, 38] (S2 := [(3, pT 3), (6, pT 5), (7, .func (.func 29) #[] #[pT 5]), (8, .int .u64 4), (38, .tuple #[outV 7 (shortOf p.i4), .int .i64 0])]) (A2 := hp [rb, r0, r1, pO fo fc zo zc co cc p 1 2, outO zs, .cells [outV 4 zs] false false 1, .cells [.int .u64 p.i4] false false 1, outO (shortOf p.i4)] g N) (by kernel_rfl) (by kernel_rfl) ?_
   refine EV.runS (hcS K w0) 10 [3, 6, 7, 8, 10] (S2 := [(3, pT 3), (6, pT 5), (7, .func (.func 29) #[] #[pT 5]), (8, .int .u64 4), (10, outV 7 (shortOf p.i4))]) rfl (by kernel_rfl) ?_
   refine EV.done rfl ?_
   refine V.region ?_
   refine EV.runS (hcS K w0) 3 [3, 6, 7, 8, 41, 42, 43] (S2 := [(3, pT 3), (6, pT 5), (7, .func (.func 29) #[] #[pT 5]), (8, .int .u64 4), (41, .func (.func 29) #[] #[pT 5]), (42, .int .u64 4), (43, outV 7 (shortOf p.i4))]) rfl (by kernel_rfl) ?_
   refine EV.callh (fs := #[]) (vs := [.int .u64 4, outV 7 (shortOf p.i4)]) (cs := #[pT 5]) [7, 5, 4] (f29_fh (zs := zs) (zv := shortOf p.i4) (rowF_out (shortOf_byte _ hn4.1)) 4 hzsb (shortOf_byte _ hn4.1) (by omega) (shortOf_ne (clsN_small hn4.2)) (by omega) (by have := shortOf_le p.i4; omega)) rfl rfl rfl (by kernel_rfl) (by kernel_rfl) (by kernel_rfl) (by kernel_rfl) (argsCons (σ := sigma [7, 5, 4] (N + 64)) (a := .int .u64 4) (xs := [outV 0 (shortOf p.i4), pT 1]) rfl (argsCons (σ := sigma [7, 5, 4] (N + 64)) (a := outV 0 (shortOf p.i4)) (xs := [pT 1]) (ren_outV (sigma [7, 5, 4] (N + 64)) 0 (shortOf p.i4)) (argsCons (σ := sigma [7, 5, 4] (N + 64)) (a := pT 1) (xs := []) rfl rfl))).symm (by kernel_rfl) ⟨view_out _ rfl (bl rfl), .inr ⟨(bl rfl), rfl, .inl (ren_cells (argsCons (a := outV 2 zs) (xs := []) (ren_outV (sigma [7, 5, 4] (N + 64)) 2 zs) rfl)).symm⟩, part_out _ rfl (bl rfl), trivial⟩ ?_
   rintro v s1 ⟨rfl, rfl⟩
   refine ⟨_, .tuple #[], ⟨[outR (shortOf p.i4), .cells [outV 3 (zs ++ encL [4, ((shortOf p.i4).length : Int)] ++ shortOf p.i4)] false false 1, deadO zs], [outO (zs ++ encL [4, ((shortOf p.i4).length : Int)] ++ shortOf p.i4)], [none, some (.cells [outV 8 (zs ++ encL [4, ((shortOf p.i4).length : Int)] ++ shortOf p.i4)] false false 1), deadU zs], [outO (zs ++ encL [4, ((shortOf p.i4).length : Int)] ++ shortOf p.i4)], rfl, by kernel_rfl, ⟨start_row (rowF_out (shortOf_byte _ hn4.1)), .inr (.inr ⟨rfl, _, rfl, .inl ⟨fun h => Bool.noConfusion h, (ren_cells (argsCons (a := outV 3 (zs ++ encL [4, ((shortOf p.i4).length : Int)] ++ shortOf p.i4)) (xs := []) (ren_outV (sigma1 [7, 5, 4] N 3 8) 3 (zs ++ encL [4, ((shortOf p.i4).length : Int)] ++ shortOf p.i4)) rfl)).symm⟩⟩), start_out zs, trivial⟩, ⟨new_out _ _, trivial⟩, rfl⟩, rfl, ?_⟩
   refine EV.norm [3, 6, 7, 8] (S2 := [(3, pT 3), (6, pT 5), (7, .func (.func 29) #[] #[pT 5]), (8, .int .u64 4)]) (A2 := hp [rb, r0, r1, pO fo fc zo zc co cc p 1 2, deadO zs, .cells [outV 8 (zs ++ encL [4, ((shortOf p.i4).length : Int)] ++ shortOf p.i4)] false false 1, .cells [.int .u64 p.i4] false false 1, outO (shortOf p.i4), outO (zs ++ encL [4, ((shortOf p.i4).length : Int)] ++ shortOf p.i4)] g N) (by kernel_rfl) (congrArg (fun q => hp (q ++ [outO (zs ++ encL [4, ((shortOf p.i4).length : Int)] ++ shortOf p.i4)]) g N) (upd_dead (s := [rb, r0, r1, pO fo fc zo zc co cc p 1 2, outO zs, .cells [outV 8 (zs ++ encL [4, ((shortOf p.i4).length : Int)] ++ shortOf p.i4)] false false 1, .cells [.int .u64 p.i4] false false 1, outO (shortOf p.i4)]) (k := 4) (l := []) (us := []) (zs := zs) rfl (bl rfl))) ?_
   refine EV.reng hB [0, 1, 2, 3, 64, 5, 64, 64, 4] [0, 1, 2, 3, 8, 5] [3, 6, 7, 8] (S2 := [(3, pT 3), (6, pT 5), (7, .func (.func 29) #[] #[pT 5]), (8, .int .u64 4)]) (s2 := [rb, r0, r1, pO fo fc zo zc co cc p 1 2, outO (zs ++ encL [4, ((shortOf p.i4).length : Int)] ++ shortOf p.i4), .cells [outV 4 (zs ++ encL [4, ((shortOf p.i4).length : Int)] ++ shortOf p.i4)] false false 1]) (by kernel_rfl) (by kernel_rfl) ⟨.inr ⟨(bl rfl), .inl ((hrb.obj _).symm)⟩, .inr ⟨(bl rfl), .inl ((hro.obj _).symm)⟩, .inr ⟨(bl rfl), .inl ((hrc.obj _).symm)⟩, .inr ⟨(bl rfl), .inl ((ren_pcl (τ := tau [0, 1, 2, 3, 64, 5, 64, 64, 4] N) (vo := .slice (fo 1) zo.length co) (vc := .slice (fc 2) zc.length cc) (hro.ren _ 1) (hrc.ren _ 2)).symm)⟩, .inl (by decide), .inr ⟨(bl rfl), .inl ((ren_cells (argsCons (a := outV 8 (zs ++ encL [4, ((shortOf p.i4).length : Int)] ++ shortOf p.i4)) (xs := []) (ren_outV (tau [0, 1, 2, 3, 64, 5, 64, 64, 4] N) 8 (zs ++ encL [4, ((shortOf p.i4).length : Int)] ++ shortOf p.i4)) rfl)).symm)⟩, .inl (by decide), .inl (by decide), .inr ⟨(bl rfl), .inl ((renO_outO _ _).symm)⟩, trivial⟩ (renS_cons (rfl) (renS_cons (rfl) (renS_cons (rfl) (renS_cons (rfl) rfl)))) ?_
   intro g N hB
   refine EV.done rfl ?_
   refine thenV_n ?_
   refine V.seq ?_
   refine V.sr ?_
   refine EV.run (hcS K w0) 3 [3, 6, 7, 8, 12] (S2 := [(3, pT 3), (6, pT 5), (7, .func (.func 29) #[] #[pT 5]), (8, .int .u64 4), (12, .pointer none)]) (A2 := hp [rb, r0, r1, pO fo fc zo zc co cc p 1 2, outO (zs ++ encL [4, ((shortOf p.i4).length : Int)] ++ shortOf p.i4), .cells [outV 4 (zs ++ encL [4, ((shortOf p.i4).length : Int)] ++ shortOf p.i4)] false false 1] g N) rfl (by kernel_rfl) ?_
   refine EV.done rfl ?_
   refine V.sr ?_
   refine EV.runS (hcS K w0) 9 [3, 6, 7, 8, 12, 55] (S2 := [(3, pT 3), (6, pT 5), (7, .func (.func 29) #[] #[pT 5]), (8, .int .u64 4), (12, .pointer none), (55, .bool false)]) rfl (by kernel_rfl) ?_
   refine EV.done rfl ?_
   refine V.cond false (by kernel_rfl) (fun h => Bool.noConfusion h) (fun _ => ?_)
   refine V.skip ?_
   refine thenV_n ?_
   refine V.sr ?_
   refine EV.runS (hcS K w0) 6 [3, 6, 7, 8, 67] (S2 := [(3, pT 3), (6, pT 5), (7, .func (.func 29) #[] #[pT 5]), (8, .int .u64 4), (67, .bool false)]) rfl (by kernel_rfl) ?_
   refine EV.done rfl ?_
   refine V.cond false (by kernel_rfl) (fun h => Bool.noConfusion h) (fun _ => ?_)
   refine V.skip ?_
   refine blockQ_n ?_
   refine thenV_n ?_
   refine V.region ?_
   refine EV.runS (hcS K w0) 3 [3, 6, 7, 8] (S2 := [(3, pT 3), (6, pT 5), (7, .func (.func 29) #[] #[pT 5]), (8, .int .u64 5)]) rfl (by kernel_rfl) ?_
   refine EV.done rfl ?_
   exact loopV_n 12 (by decide) ⟨5, (zs ++ encL [4, ((shortOf p.i4).length : Int)] ++ shortOf p.i4), g, N, rfl, by decide, by rw [hinv]; (have hz : ¬ p.i4 = 0 := by (simp at h6; omega)); simp [upB, itemB, putB, hz, PN.num], hB, rfl, rfl⟩
  ·
   refine V.skip ?_
   refine thenV_n ?_
   refine V.seq ?_
   refine V.sr ?_
   refine EV.runS (hcS K w0) 3 [3, 6, 7, 8, 12] (S2 := [(3, pT 3), (6, pT 5), (7, .func (.func 29) #[] #[pT 5]), (8, .int .u64 4), (12, .pointer none)]) rfl (by kernel_rfl) ?_
   refine EV.done rfl ?_
   refine V.sr ?_
   refine EV.runS (hcS K w0) 9 [3, 6, 7, 8, 12, 55] (S2 := [(3, pT 3), (6, pT 5), (7, .func (.func 29) #[] #[pT 5]), (8, .int .u64 4), (12, .pointer none), (55, .bool false)]) rfl (by kernel_rfl) ?_
   refine EV.done rfl ?_
   refine V.cond false (by kernel_rfl) (fun h => Bool.noConfusion h) (fun _ => ?_)
   refine V.skip ?_
   refine thenV_n ?_
   refine V.sr ?_
   refine EV.runS (hcS K w0) 6 [3, 6, 7, 8, 67] (S2 := [(3, pT 3), (6, pT 5), (7, .func (.func 29) #[] #[pT 5]), (8, .int .u64 4), (67, .bool false)]) rfl (by kernel_rfl) ?_
   refine EV.done rfl ?_
   refine V.cond false (by kernel_rfl) (fun h => Bool.noConfusion h) (fun _ => ?_)
   refine V.skip ?_
   refine blockQ_n ?_
   refine thenV_n ?_
   refine V.region ?_
   refine EV.runS (hcS K w0) 3 [3, 6, 7, 8] (S2 := [(3, pT 3), (6, pT 5), (7, .func (.func 29) #[] #[pT 5]), (8, .int .u64 5)]) rfl (by kernel_rfl) ?_
   refine EV.done rfl ?_
   exact loopV_n 12 (by decide) ⟨5, zs, g, N, rfl, by decide, by rw [hinv]; (have hz : p.num 4 = 0 := by (show p.i4 = 0; have := hn4.1; simp at h6; omega)); simp [upB, itemB, hz], hB, rfl, rfl⟩
 ·
  obtain rfl : k = 12 := by omega
  refine V.seq ?_
  refine V.sr ?_
  refine EV.run (hcS K w0) 2 [3, 6, 7, 8, 20] (S2 := [(3, pT 3), (6, pT 5), (7, .func (.func 29) #[] #[pT 5]), (8, .int .u64 5), (20, .bool true)]) (A2 := hp [rb, r0, r1, pO fo fc zo zc co cc p 1 2, outO zs, .cells [outV 4 zs] false false 1] g N) rfl (by kernel_rfl) ?_
  refine EV.done rfl ?_
  refine V.cond true (by kernel_rfl) (fun _ => ?_) (fun h => Bool.noConfusion h)
  refine V.skip ?_
  refine thenV_n ?_
  refine V.seq ?_
  refine V.block ?_
  refine V.seq ?_
  refine V.sr ?_
  refine EV.runS (hcS K w0) 3 [3, 6, 7, 8, 9] (S2 := [(3, pT 3), (6, pT 5), (7, .func (.func 29) #[] #[pT 5]), (8, .int .u64 5), (9, .pointer (some ⟨3, 4, none⟩))]) rfl (by kernel_rfl) ?_
  refine EV.done rfl ?_
  refine V.sr ?_
  refine EV.runS (hcS K w0) 8 [3, 6, 7, 8, 9, 32] (S2 := [(3, pT 3), (6, pT 5), (7, .func (.func 29) #[] #[pT 5]), (8, .int .u64 5), (9, .pointer (some ⟨3, 4, none⟩)), (32, .bool (decide (p.i5 > 0)))]) rfl (by kernel_rfl) ?_
  refine EV.done rfl ?_
  refine V.cond (decide (p.i5 > 0)) (by kernel_rfl) (fun h7 => ?_) (fun h7 => ?_)
  ·
   refine V.sr ?_
   refine EV.run (hcS K w0) 4 [3, 6, 7, 8, 37] (S2 := [(3, pT 3), (6, pT 5), (7, .func (.func 29) #[] #[pT 5]), (8, .int .u64 5), (37, .slice (some ⟨6, 0, none⟩) 1 1)]) (A2 := hp [rb, r0, r1, pO fo fc zo zc co cc p 1 2, outO zs, .cells [outV 4 zs] false false 1, .cells [.int .u64 p.i5] false false 1] g N) rfl (by kernel_rfl) ?_
   refine EV.callh (fs := #[]) (vs := [.slice none 0 0, .slice (some ⟨6, 0, none⟩) 1 1]) (cs := #[]) [6] (f17n_fh p.i5 hn5) rfl rfl rfl (by kernel_rfl) (by kernel_rfl) (by kernel_rfl) (by kernel_rfl) (argsCons (σ := sigma [6] (N + 64)) (a := .slice none 0 0) (xs := [.slice (some ⟨0, 0, none⟩) 1 1]) rfl (argsCons (σ := sigma [6] (N + 64)) (a := .slice (some ⟨0, 0, none⟩) 1 1) (xs := []) rfl rfl)).symm (by kernel_rfl) ⟨.inr ⟨(bl rfl), rfl, .inr ⟨_, _, _, rfl, rfl⟩⟩, trivial⟩ ?_
   rintro v s1 ⟨rfl, rfl⟩
   refine ⟨_, .tuple #[outV 7 (shortOf p.i5), .int .i64 0], ⟨[.cells [.int .u64 p.i5] true false 1], [outO (shortOf p.i5)], [none], [outO (shortOf p.i5)], rfl, by kernel_rfl, ⟨.inr (.inl ⟨⟨_, _, _, rfl⟩, rfl⟩), trivial⟩, ⟨new_out _ _, trivial⟩, rfl⟩, (congrArg (fun q => Value.tuple #[q, .int .i64 0]) (ren_outV (sigma1 [6] N 1 7) 1 (shortOf p.i5))).symm, ?_⟩
   refine EV.norm [3, 6, 7, 8, 38] (S2 := [(3, pT 3), (6, pT 5), (7, .func (.func 29) #[] #[pT 5]), (8, .int .u64 5), (38, .tuple #[outV 7 (shortOf p.i5), .int .i64 0])]) (A2 := hp [rb, r0, r1, pO fo fc zo zc co cc p 1 2, outO zs, .cells [outV 4 zs] false false 1, .cells [.int .u64 p.i5] false false 1, outO (shortOf p.i5)] g N) (by kernel_rfl) (by kernel_rfl) ?_
   refine EV.runS (hcS K w0) 10 [3, 6, 7, 8, 10] (S2 := [(3, pT 3), (6, pT 5), (7, .func (.func 29) #[] #[pT 5]), (8, .int .u64 5), (10, outV 7 (shortOf p.i5))]) rfl (by kernel_rfl) ?_
   refine EV.done rfl ?_
   refine V.region ?_
   refine EV.runS (hcS K w0) 3 [3, 6, 7, 8, 41, 42, 43] (S2 := [(3, pT 3), (6, pT 5), (7, .func (.func 29) #[] #[pT 5]), (8, .int .u64 5), (41, .func (.func 29) #[] #[pT 5]), (42, .int .u64 5), (43, outV 7 (shortOf p.i5))]) rfl (by kernel_rfl) ?_
   refine EV.callh (fs := #[]) (vs := [.int .u64 5, outV 7 (shortOf p.i5)]) (cs := #[pT 5]) [7, 5, 4] (f29_fh (zs := zs) (zv := shortOf p.i5) (rowF_out (shortOf_byte _ hn5.1)) 5 hzsb (shortOf_byte _ hn5.1) (by omega) (shortOf_ne (clsN_small hn5.2)) (by omega) (by have := shortOf_le p.i5; omega)) rfl rfl rfl (by kernel_rfl) (by kernel_rfl) (by kernel_rfl) (by kernel_rfl) (argsCons (σ := sigma [7, 5, 4] (N + 64)) (a := .int .u64 5) (xs := [outV 0 (shortOf p.i5), pT 1]) rfl (argsCons (σ := sigma [7, 5, 4] (N + 64)) (a := outV 0 (shortOf p.i5)) (xs := [pT 1]) (ren_outV (sigma [7, 5, 4] (N + 64)) 0 (shortOf p.i5)) (argsCons (σ := sigma [7, 5, 4] (N + 64)) (a := pT 1) (xs := []) rfl rfl))).symm (by kernel_rfl) ⟨view_out _ rfl (bl rfl), .inr ⟨(bl rfl), rfl, .inl (ren_cells (argsCons (a := outV 2 zs) (xs := []) (ren_outV (sigma [7, 5, 4] (N + 64)) 2 zs) rfl)).symm⟩, part_out _ rfl (bl rfl), trivial⟩ ?_
   rintro v s1 ⟨rfl, rfl⟩
   refine ⟨_, .tuple #[], ⟨[outR (shortOf p.i5), .cells [outV 3 (zs ++ encL [5, ((shortOf p.i5).length : Int)] ++ shortOf p.i5)] false false 1, deadO zs], [outO (zs ++ encL [5, ((shortOf p.i5).length : Int)] ++ shortOf p.i5)], [none, some (.cells [outV 8 (zs ++ encL [5, ((shortOf p.i5).length : Int)] ++ shortOf p.i5)] false false 1), deadU zs], [outO (zs ++ encL [5, ((shortOf p.i5).length : Int)] ++ shortOf p.i5)], rfl, by kernel_rfl, ⟨start_row (rowF_out (shortOf_byte _ hn5.1)), .inr (.inr ⟨rfl, _, rfl, .inl ⟨fun h => Bool.noConfusion h, (ren_cells (argsCons (a := outV 3 (zs ++ encL [5, ((shortOf p.i5).length : Int)] ++ shortOf p.i5)) (xs := []) (ren_outV (sigma1 [7, 5, 4] N 3 8) 3 (zs ++ encL [5, ((shortOf p.i5).length : Int)] ++ shortOf p.i5)) rfl)).symm⟩⟩), start_out zs, trivial⟩, ⟨new_out _ _, trivial⟩, rfl⟩, rfl, ?_⟩
   refine EV.norm [3, 6, 7, 8] (S2 := [(3, pT 3), (6, pT 5), (7, .func (.func 29) #[] #[pT 5]), (8, .int .u64 5)]) (A2 := hp [rb, r0, r1, pO fo fc zo zc co cc p 1 2, deadO zs, .cells [outV 8 (zs ++ encL [5, ((shortOf p.i5).length : Int)] ++ shortOf p.i5)] false false 1, .cells [.int .u64 p.i5] false false 1, outO (shortOf p.i5), outO (zs ++ encL [5, ((shortOf p.i5).length : Int)] ++ shortOf p.i5)] g N) (by kernel_rfl) (congrArg (fun q => hp (q ++ [outO (zs ++ encL [5, ((shortOf p.i5).length : Int)] ++ shortOf p.i5)]) g N) (upd_dead (s := [rb, r0, r1, pO fo fc zo zc co cc p 1 2, outO zs, .cells [outV 8 (zs ++ encL [5, ((shortOf p.i5).length : Int)] ++ shortOf p.i5)] false false 1, .cells [.int .u64 p.i5] false false 1, outO (shortOf p.i5)]) (k := 4) (l := []) (us := []) (zs := zs) rfl (bl rfl))) ?_
   refine EV.reng hB [0, 1, 2, 3, 64, 5, 64, 64, 4] [0, 1, 2, 3, 8, 5] [3, 6, 7, 8] (S2 := [(3, pT 3), (6, pT 5), (7, .func (.func 29) #[] #[pT 5]), (8, .int .u64 5)]) (s2 := [rb, r0, r1, pO fo fc zo zc co cc p 1 2, outO (zs ++ encL [5, ((shortOf p.i5).length : Int)] ++ shortOf p.i5), .cells [outV 4 (zs ++ encL [5, ((shortOf p.i5).length : Int)] ++ shortOf p.i5)] false false 1]) (by kernel_rfl) (by kernel_rfl) ⟨.inr ⟨(bl rfl), .inl ((hrb.obj _).symm)⟩, .inr ⟨(bl rfl), .inl ((hro.obj _).symm)⟩, .inr ⟨(bl rfl), .inl ((hrc.obj _).symm)⟩, .inr ⟨(bl rfl), .inl ((ren_pcl (τ := tau [0, 1, 2, 3, 64, 5, 64, 64, 4] N) (vo := .slice (fo 1) zo.length co) (vc := .slice (fc 2) zc.length cc) (hro.ren _ 1) (hrc.ren _ 2)).symm)⟩, .inl (by decide), .inr ⟨(bl rfl), .inl ((ren_cells (argsCons (a := outV 8 (zs ++ encL [5, ((shortOf p.i5).length : Int)] ++ shortOf p.i5)) (xs := []) (ren_outV (tau [0, 1, 2, 3, 64, 5, 64, 64, 4] N) 8 (zs ++ encL [5, ((shortOf p.i5).length : Int)] ++ shortOf p.i5)) rfl)).symm)⟩, .inl (by decide), .inl (by decide), .inr ⟨(bl rfl), .inl ((renO_outO _ _).symm)⟩, trivial⟩ (renS_cons (rfl) (renS_cons (rfl) (renS_cons (rfl) (renS_cons (rfl) rfl)))) ?_
   intro g N hB
   refine EV.done rfl ?_
   refine thenV_n ?_
   refine V.seq ?_
   refine V.sr ?_
   refine EV.run (hcS K w0) 3 [3, 6, 7, 8, 12] (S2 := [(3, pT 3), (6, pT 5), (7, .func (.func 29) #[] #[pT 5]), (8, .int .u64 5), (12, .pointer none)]) (A2 := hp [rb, r0, r1, pO fo fc zo zc co cc p 1 2, outO (zs ++ encL [5, ((shortOf p.i5).length : Int)] ++ shortOf p.i5), .cells [outV 4 (zs ++ encL [5, ((shortOf p.i5).length : Int)] ++ shortOf p.i5)] false false 1] g N) rfl (by kernel_rfl) ?_
   refine EV.done rfl ?_
   refine V.sr ?_
   refine EV.runS (hcS K w0) 9 [3, 6, 7, 8, 12, 55] (S2 := [(3, pT 3), (6, pT 5), (7, .func (.func 29) #[] #[pT 5]), (8, .int .u64 5), (12, .pointer none), (55, .bool false)]) rfl (by kernel_rfl) ?_
   refine EV.done rfl ?_
   refine V.cond false (by kernel_rfl) (fun h => Bool.noConfusion h) (fun _ => ?_)
   refine V.skip ?_
   refine thenV_n ?_
   refine V.sr ?_
   refine EV.runS (hcS K w0) 6 [3, 6, 7, 8, 67] (S2 := [(3, pT 3), (6, pT 5), (7, .func (.func 29) #[] #[pT 5]), (8, .int .u64 5), (67, .bool false)]) rfl (by kernel_rfl) ?_
   refine EV.done rfl ?_
   refine V.cond false (by kernel_rfl) (fun h => Bool.noConfusion h) (fun _ => ?_)
   refine V.skip ?_
   refine blockQ_n ?_
   refine thenV_n ?_
   refine V.region ?_
   refine EV.runS (hcS K w0) 3 [3, 6, 7, 8] (S2 := [(3, pT 3), (6, pT 5), (7, .func (.func 29) #[] #[pT 5]), (8, .int .u64 6)]) rfl (by kernel_rfl) ?_
   refine EV.done rfl ?_
   exact loopV_n 11 (by decide) ⟨6, (zs ++ encL [5, ((shortOf p.i5).length : Int)] ++ shortOf p.i5), g, N, rfl, by decide, by rw [hinv]; (have hz : ¬ p.i5 = 0 := by (simp at h7; omega)); simp [upB, itemB, putB, hz, PN.num], hB, rfl, rfl⟩
  ·
   refine V.skip ?_
   refine thenV_n ?_
   refine V.seq ?_
   refine V.sr ?_
   refine EV.runS (hcS K w0) 3 [3, 6, 7, 8, 12] (S2 := [(3, pT 3), (6, pT 5), (7, .func (.func 29) #[] #[pT 5]), (8, .int .u64 5), (12, .pointer none)]) rfl (by kernel_rfl) ?_
   refine EV.done rfl ?_
   refine V.sr ?_
   refine EV.runS (hcS K w0) 9 [3, 6, 7, 8, 12, 55] (S2 := [(3, pT 3), (6, pT 5), (7, .func (.func 29) #[] #[pT 5]), (8, .int .u64 5), (12, .pointer none), (55, .bool false)]) rfl (by kernel_rfl) ?_
   refine EV.done rfl ?_
   refine V.cond false (by kernel_rfl) (fun h => Bool.noConfusion h) (fun _ => ?_)
   refine V.skip ?_
   refine thenV_n ?_
   refine V.sr ?_
   refine EV.runS (hcS K w0) 6 [3, 6, 7, 8, 67] (S2 := [(3, pT 3), (6, pT 5), (7, .func (.func 29) #[] #[pT 5]), (8, .int .u64 5), (67, .bool false)]) rfl (by kernel_rfl) ?_
   refine EV.done rfl ?_
   refine V.cond false (by kernel_rfl) (fun h => Bool.noConfusion h) (fun _ => ?_)
   refine V.skip ?_
   refine blockQ_n ?_
   refine thenV_n ?_
   refine V.region ?_
   refine EV.runS (hcS K w0) 3 [3, 6, 7, 8] (S2 := [(3, pT 3), (6, pT 5), (7, .func (.func 29) #[] #[pT 5]), (8, .int .u64 6)]) rfl (by kernel_rfl) ?_
   refine EV.done rfl ?_
   exact loopV_n 11 (by decide) ⟨6, zs, g, N, rfl, by decide, by rw [hinv]; (have hz : p.num 5 = 0 := by (show p.i5 = 0; have := hn5.1; simp at h7; omega)); simp [upB, itemB, hz], hB, rfl, rfl⟩
 ·
  obtain rfl : k = 11 := by omega
  refine V.seq ?_
  refine V.sr ?_
  refine EV.run (hcS K w0) 2 [3, 6, 7, 8, 20] (S2 := [(3, pT 3), (6, pT 5), (7, .func (.func 29) #[] #[pT 5]), (8, .int .u64 6), (20, .bool true)]) (A2 := hp [rb, r0, r1, pO fo fc zo zc co cc p 1 2, outO zs, .cells [outV 4 zs] false false 1] g N) rfl (by kernel_rfl) ?_
  refine EV.done rfl ?_
  refine V.cond true (by kernel_rfl) (fun _ => ?_) (fun h => Bool.noConfusion h)
  refine V.skip ?_
  refine thenV_n ?_
  refine V.seq ?_
  refine V.block ?_
  refine V.seq ?_
  refine V.sr ?_
  refine EV.runS (hcS K w0) 3 [3, 6, 7, 8, 9] (S2 := [(3, pT 3), (6, pT 5), (7, .func (.func 29) #[] #[pT 5]), (8, .int .u64 6), (9, .pointer (some ⟨3, 5, none⟩))]) rfl (by kernel_rfl) ?_
  refine EV.done rfl ?_
  refine V.sr ?_
  refine EV.runS (hcS K w0) 8 [3, 6, 7, 8, 9, 32] (S2 := [(3, pT 3), (6, pT 5), (7, .func (.func 29) #[] #[pT 5]), (8, .int .u64 6), (9, .pointer (some ⟨3, 5, none⟩)), (32, .bool (decide (p.i6 > 0)))]) rfl (by kernel_rfl) ?_
  refine EV.done rfl ?_
  refine V.cond (decide (p.i6 > 0)) (by kernel_rfl) (fun h8 => ?_) (fun h8 => ?_)
  ·
   refine V.sr ?_
   refine EV.run (hcS K w0) 4 [3, 6, 7, 8, 37] (S2 := [(3, pT 3), (6, pT 5), (7, .func (.func 29) #[] #[pT 5]), (8, .int .u64 6), (37, .slice (some ⟨6, 0, none⟩) 1 1)]) (A2 := hp [rb, r0, r1, pO fo fc zo zc co cc p 1 2, outO zs, .cells [outV 4 zs] false false 1, .cells [.int .u64 p.i6] false false 1] g N) rfl (by kernel_rfl) ?_
   refine EV.callh (fs := #[]) (vs := [.slice none 0 0, .slice (some ⟨6, 0, none⟩) 1 1]) (cs := #[]) [6] (f17n_fh p.i6 hn6) rfl rfl rfl (by kernel_rfl) (by kernel_rfl) (by kernel_rfl) (by kernel_rfl) (argsCons (σ := sigma [6] (N + 64)) (a := .slice none 0 0) (xs := [.slice (some ⟨0, 0, none⟩) 1 1]) rfl (argsCons (σ := sigma [6] (N + 64)) (a := .slice (some ⟨0, 0, none⟩) 1 1) (xs := []) rfl rfl)).symm (by kernel_rfl) ⟨.inr ⟨(bl rfl), rfl, .inr ⟨_, _, _, rfl, rfl⟩⟩, trivial⟩ ?_
   rintro v s1 ⟨rfl, rfl⟩
   refine ⟨_, .tuple #[outV 7 (shortOf p.i6), .int .i64 0], ⟨[.cells [.int .u64 p.i6] true false 1], [outO (shortOf p.i6)], [none], [outO (shortOf p.i6)], rfl, by kernel_rfl, ⟨.inr (.inl ⟨⟨_, _, _, rfl⟩, rfl⟩), trivial⟩, ⟨new_out _ _, trivial⟩, rfl⟩, (congrArg (fun q => Value.tuple #[q, .int .i64 0]) (ren_outV (sigma1 [6] N 1 7) 1 (shortOf p.i6))).symm, ?_⟩
   refine EV.norm [3, 6, 7, 8, 38] (S2 := [(3, pT 3), (6, pT 5), (7, .func (.func 29) #[] #[pT 5]), (8, .int .u64 6), (38, .tuple #[outV 7 (shortOf p.i6), .int .i64 0])]) (A2 := hp [rb, r0, r1, pO fo fc zo zc co cc p 1 2, outO zs, .cells [outV 4 zs] false false 1, .cells [.int .u64 p.i6] false false 1, outO (shortOf p.i6)] g N) (by kernel_rfl) (by kernel_rfl) ?_
   refine EV.runS (hcS K w0) 10 [3, 6, 7, 8, 10] (S2 := [(3, pT 3), (6, pT 5), (7, .func (.func 29) #[] #[pT 5]), (8, .int .u64 6), (10, outV 7 (shortOf p.i6))]) rfl (by kernel_rfl) ?_
   refine EV.done rfl ?_
   refine V.region ?_
   refine EV.runS (hcS K w0) 3 [3, 6, 7, 8, 41, 42, 43] (S2 := [(3, pT 3), (6, pT 5), (7, .func (.func 29) #[] #[pT 5]), (8, .int .u64 6), (41, .func (.func 29) #[] #[pT 5]), (42, .int .u64 6), (43, outV 7 (shortOf p.i6))]) rfl (by kernel_rfl) ?_
   refine EV.callh (fs := #[]) (vs := [.int .u64 6, outV 7 (shortOf p.i6)]) (cs := #[pT 5]) [7, 5, 4] (f29_fh (zs := zs) (zv := shortOf p.i6) (rowF_out (shortOf_byte _ hn6.1)) 6 hzsb (shortOf_byte _ hn6.1) (by omega) (shortOf_ne (clsN_small hn6.2)) (by omega) (by have := shortOf_le p.i6; omega)) rfl rfl rfl (by kernel_rfl) (by kernel_rfl) (by kernel_rfl) (by kernel_rfl) (argsCons (σ := sigma [7, 5, 4] (N + 64)) (a := .int .u64 6) (xs := [outV 0 (shortOf p.i6), pT 1]) rfl (argsCons (σ := sigma [7, 5, 4] (N + 64)) (a := outV 0 (shortOf p.i6)) (xs := [pT 1]) (ren_outV (sigma [7, 5, 4] (N + 64)) 0 (shortOf p.i6)) (argsCons (σ := sigma [7, 5, 4] (N + 64)) (a := pT 1) (xs := []) rfl rfl))).symm (by kernel_rfl) ⟨view_out _ rfl (bl rfl), .inr ⟨(bl rfl), rfl, .inl (ren_cells (argsCons (a := outV 2 zs) (xs := []) (ren_outV (sigma [7, 5, 4] (N + 64)) 2 zs) rfl)).symm⟩, part_out _ rfl (bl rfl), trivial⟩ ?_
   rintro v s1 ⟨rfl, rfl⟩
   refine ⟨_, .tuple #[], ⟨[outR (shortOf p.i6), .cells [outV 3 (zs ++ encL [6, ((shortOf p.i6).length : Int)] ++ shortOf p.i6)] false false 1, deadO zs], [outO (zs ++ encL [6, ((shortOf p.i6).length : Int)] ++ shortOf p.i6)], [none, some (.cells [outV 8 (zs ++ encL [6, ((shortOf p.i6).length : Int)] ++ shortOf p.i6)] false false 1), deadU zs], [outO (zs ++ encL [6, ((shortOf p.i6).length : Int)] ++ shortOf p.i6)], rfl, by kernel_rfl, ⟨start_row (rowF_out (shortOf_byte _ hn6.1)), .inr (.inr ⟨rfl, _, rfl, .inl ⟨fun h => Bool.noConfusion h, (ren_cells (argsCons (a := outV 3 (zs ++ encL [6, ((shortOf p.i6).length : Int)] ++ shortOf p.i6)) (xs := []) (ren_outV (sigma1 [7, 5, 4] N 3 8) 3 (zs ++ encL [6, ((shortOf p.i6).length : Int)] ++ shortOf p.i6)) rfl)).symm⟩⟩), start_out zs, trivial⟩, ⟨new_out _ _, trivial⟩, rfl⟩, rfl, ?_⟩
   refine EV.norm [3, 6, 7, 8] (S2 := [(3, pT 3), (6, pT 5), (7, .func (.func 29) #[] #[pT 5]), (8, .int .u64 6)]) (A2 := hp [rb, r0, r1, pO fo fc zo zc co cc p 1 2, deadO zs, .cells [outV 8 (zs ++ encL [6, ((shortOf p.i6).length : Int)] ++ shortOf p.i6)] false false 1, .cells [.int .u64 p.i6] false false 1, outO (shortOf p.i6), outO (zs ++ encL [6, ((shortOf p.i6).length : Int)] ++ shortOf p.i6)] g N) (by kernel_rfl) (congrArg (fun q => hp (q ++ [outO (zs ++ encL [6, ((shortOf p.i6).length : Int)] ++ shortOf p.i6)]) g N) (upd_dead (s := [rb, r0, r1, pO fo fc zo zc co cc p 1 2, outO zs, .cells [outV 8 (zs ++ encL [6, ((shortOf p.i6).length : Int)] ++ shortOf p.i6)] false false 1, .cells [.int .u64 p.i6] false false 1, outO (shortOf p.i6)]) (k := 4) (l := []) (us := []) (zs := zs) rfl (bl rfl))) ?_
   refine EV.reng hB [0, 1, 2, 3, 64, 5, 64, 64, 4] [0, 1, 2, 3, 8, 5] [3, 6, 7, 8] (S2 := [(3, pT 3), (6, pT 5), (7, .func (.func 29) #[] #[pT 5]), (8, .int .u64 6)]) (s2 := [rb, r0, r1, pO fo fc zo zc co cc p 1 2, outO (zs ++ encL [6, ((shortOf p.i6).length : Int)] ++ shortOf p.i6), .cells [outV 4 (zs ++ encL [6, ((shortOf p.i6).length : Int)] ++ shortOf p.i6)] false false 1]) (by kernel_rfl) (by kernel_rfl) ⟨.inr ⟨(bl rfl), .inl ((hrb.obj _).symm)⟩, .inr ⟨(bl rfl), .inl ((hro.obj _).symm)⟩, .inr ⟨(bl rfl), .inl ((hrc.obj _).symm)⟩, .inr ⟨(bl rfl), .inl ((ren_pcl (τ := tau [0, 1, 2, 3, 64, 5, 64, 64, 4] N) (vo := .slice (fo 1) zo.length co) (vc := .slice (fc 2) zc.length cc) (hro.ren _ 1) (hrc.ren _ 2)).symm)⟩, .inl (by decide), .inr ⟨(bl rfl), .inl ((ren_cells (argsCons (a := outV 8 (zs ++ encL [6, ((shortOf p.i6).length : Int)] ++ shortOf p.i6)) (xs := []) (ren_outV (tau [0, 1, 2, 3, 64, 5, 64, 64, 4] N) 8 (zs ++ encL [6, ((shortOf p.i6).length : Int)] ++ shortOf p.i6)) rfl)).symm)⟩, .inl (by decide), .inl (by decide), .inr ⟨(bl rfl), .inl ((renO_outO _ _).symm)⟩, trivial⟩ (renS_cons (rfl) (renS_cons (rfl) (renS_cons (rfl) (renS_cons (rfl) rfl)))) ?_
   intro g N hB
   refine EV.done rfl ?_
   refine thenV_n ?_
   refine V.seq ?_
   refine V.sr ?_
   refine EV.run (hcS K w0) 3 [3, 6, 7, 8, 12] (S2 := [(3, pT 3), (6, pT 5), (7, .func (.func 29) #[] #[pT 5]), (8, .int .u64 6), (12, .pointer none)]) (A2 := hp [rb, r0, r1, pO fo fc zo zc co cc p 1 2, outO (zs ++ encL [6, ((shortOf p.i6).length : Int)] ++ shortOf p.i6), .cells [outV 4 (zs ++ encL [6, ((shortOf p.i6).length : Int)] ++ shortOf p.i6)] false false 1] g N) rfl (by kernel_rfl) ?_
   refine EV.done rfl ?_
   refine V.sr ?_
   refine EV.runS (hcS K w0) 9 [3, 6, 7, 8, 12, 55] (S2 := [(3, pT 3), (6, pT 5), (7, .func (.func 29) #[] #[pT 5]), (8, .int .u64 6), (12, .pointer none), (55, .bool false)]) rfl (by kernel_rfl) ?_
   refine EV.done rfl ?_
   refine V.cond false (by kernel_rfl) (fun h => Bool.noConfusion h) (fun _ => ?_)
   refine V.skip ?_
   refine thenV_n ?_
   refine V.sr ?_
   refine EV.runS (hcS K w0) 6 [3, 6, 7, 8, 67] (S2 := [(3, pT 3), (6, pT 5), (7, .func (.func 29) #[] #[pT 5]), (8, .int .u64 6), (67, .bool false)]) rfl (by kernel_rfl) ?_
   refine EV.done rfl ?_
   refine V.cond false (by kernel_rfl) (fun h => Bool.noConfusion h) (fun _ => ?_)
   refine V.skip ?_
   refine blockQ_n ?_
   refine thenV_n ?_
   refine V.region ?_
   refine EV.runS (hcS K w0) 3 [3, 6, 7, 8] (S2 := [(3, pT 3), (6, pT 5), (7, .func (.func 29) #[] #[pT 5]), (8, .int .u64 7)]) rfl (by kernel_rfl) ?_
   refine EV.done rfl ?_
   exact loopV_n 10 (by decide) ⟨7, (zs ++ encL [6, ((shortOf p.i6).length : Int)] ++ shortOf p.i6), g, N, rfl, by decide, by rw [hinv]; (have hz : ¬ p.i6 = 0 := by (simp at h8; omega)); simp [upB, itemB, putB, hz, PN.num], hB, rfl, rfl⟩
  ·
   refine V.skip ?_
   refine thenV_n ?_
   refine V.seq ?_
   refine V.sr ?_
   refine EV.runS (hcS K w0) 3 [3, 6, 7, 8, 12] (S2 := [(3, pT 3), (6, pT 5), (7, .func (.func 29) #[] #[pT 5]), (8, .int .u64 6), (12, .pointer none)]) rfl (by kernel_rfl) ?_
   refine EV.done rfl ?_
   refine V.sr ?_
   refine EV.runS (hcS K w0) 9 [3, 6, 7, 8, 12, 55] (S2 := [(3, pT 3), (6, pT 5), (7, .func (.func 29) #[] #[pT 5]), (8, .int .u64 6), (12, .pointer none), (55, .bool false)]) rfl (by kernel_rfl) ?_
   refine EV.done rfl ?_
   refine V.cond false (by kernel_rfl) (fun h => Bool.noConfusion h) (fun _ => ?_)
   refine V.skip ?_
   refine thenV_n ?_
   refine V.sr ?_
   refine EV.runS (hcS K w0) 6 [3, 6, 7, 8, 67] (S2 := [(3, pT 3), (6, pT 5), (7, .func (.func 29) #[] #[pT 5]), (8, .int .u64 6), (67, .bool false)]) rfl (by kernel_rfl) ?_
   refine EV.done rfl ?_
   refine V.cond false (by kernel_rfl) (fun h => Bool.noConfusion h) (fun _ => ?_)
   refine V.skip ?_
   refine blockQ_n ?_
   refine thenV_n ?_
   refine V.region ?_
   refine EV.runS (hcS K w0) 3 [3, 6, 7, 8] (S2 := [(3, pT 3), (6, pT 5), (7, .func (.func 29) #[] #[pT 5]), (8, .int .u64 7)]) rfl (by kernel_rfl) ?_
   refine EV.done rfl ?_
   exact loopV_n 10 (by decide) ⟨7, zs, g, N, rfl, by decide, by rw [hinv]; (have hz : p.num 6 = 0 := by (show p.i6 = 0; have := hn6.1; simp at h8; omega)); simp [upB, itemB, hz], hB, rfl, rfl⟩
 ·
  obtain rfl : k = 10 := by omega
  refine V.seq ?_
  refine V.sr ?_
  refine EV.run (hcS K w0) 2 [3, 6, 7, 8, 20] (S2 := [(3, pT 3), (6, pT 5), (7, .func (.func 29) #[] #[pT 5]), (8, .int .u64 7), (20, .bool true)]) (A2 := hp [rb, r0, r1, pO fo fc zo zc co cc p 1 2, outO zs, .cells [outV 4 zs] false false 1] g N) rfl (by kernel_rfl) ?_
  refine EV.done rfl ?_
  refine V.cond true (by kernel_rfl) (fun _ => ?_) (fun h => Bool.noConfusion h)
  refine V.skip ?_
  refine thenV_n ?_
  refine V.seq ?_
  refine V.block ?_
  refine V.seq ?_
  refine V.sr ?_
  refine EV.runS (hcS K w0) 3 [3, 6, 7, 8, 9] (S2 := [(3, pT 3), (6, pT 5), (7, .func (.func 29) #[] #[pT 5]), (8, .int .u64 7), (9, .pointer (some ⟨3, 6, none⟩))]) rfl (by kernel_rfl) ?_
  refine EV.done rfl ?_
  refine V.sr ?_
  refine EV.runS (hcS K w0) 8 [3, 6, 7, 8, 9, 32] (S2 := [(3, pT 3), (6, pT 5), (7, .func (.func 29) #[] #[pT 5]), (8, .int .u64 7), (9, .pointer (some ⟨3, 6, none⟩)), (32, .bool (decide (p.i7 > 0)))]) rfl (by kernel_rfl) ?_
  refine EV.done rfl ?_
  refine V.cond (decide (p.i7 > 0)) (by kernel_rfl) (fun h9 => ?_) (fun h9 => ?_)
  ·
   refine V.sr ?_
   refine EV.run (hcS K w0) 4 [3, 6, 7, 8, 37] (S2 := [(3, pT 3), (6, pT 5), (7, .func (.func 29) #[] #[pT 5]), (8, .int .u64 7), (37, .slice (some ⟨6, 0, none⟩) 1 1)]) (A2 := hp [rb, r0, r1, pO fo fc zo zc co cc p 1 2, outO zs, .cells [outV 4 zs] false false 1, .cells [.int .u64 p.i7] false false 1] g N) rfl (by kernel_rfl) ?_
   refine EV.callh (fs := #[]) (vs := [.slice none 0 0, .slice (some ⟨6, 0, none⟩) 1 1]) (cs := #[]) [6] (f17n_fh p.i7 hn7) rfl rfl rfl (by kernel_rfl) (by kernel_rfl) (by kernel_rfl) (by kernel_rfl) (argsCons (σ := sigma [6] (N + 64)) (a := .slice none 0 0) (xs := [.slice (some ⟨0, 0, none⟩) 1 1]) rfl (argsCons (σ := sigma [6] (N + 64)) (a := .slice (some ⟨0, 0, none⟩) 1 1) (xs := []) rfl rfl)).symm (by kernel_rfl) ⟨.inr ⟨(bl rfl), rfl, .inr ⟨_, _, _, rfl, rfl⟩⟩, trivial⟩ ?_
   rintro v s1 ⟨rfl, rfl⟩
   refine ⟨_, .tuple #[outV 7 (shortOf p.i7), .int .i64 0], ⟨[.cells [.int .u64 p.i7] true false 1], [outO (shortOf p.i7)], [none], [outO (shortOf p.i7)], rfl, by kernel_rfl, ⟨.inr (.inl ⟨⟨_, _, _, rfl⟩, rfl⟩), trivial⟩, ⟨new_out _ _, trivial⟩, rfl⟩, (congrArg (fun q => Value.tuple #[q, .int .i64 0]) (ren_outV (sigma1 [6] N 1 7) 1 (shortOf p.i7))).symm, ?_⟩
   refine EV.norm [3, 6, 7, 8, 38] (S2 := [(3, pT 3), (6, pT 5), (7, .func (.func 29) #[] #[pT 5]), (8, .int .u64 7), (38, .tuple #[outV 7 (shortOf p.i7), .int .i64 0])]) (A2 := hp [rb, r0, r1, pO fo fc zo zc co cc p 1 2, outO zs, .cells [outV 4 zs] false false 1, .cells [.int .u64 p.i7] false false 1, outO (shortOf p.i7)] g N) (by kernel_rfl) (by kernel_rfl) ?_
   refine EV.runS (hcS K w0) 10 [3, 6, 7, 8, 10] (S2 := [(3, pT 3), (6, pT 5), (7, .func (.func 29) #[] #[pT 5]), (8, .int .u64 7), (10, outV 7 (shortOf p.i7))]) rfl (by kernel_rfl) ?_
   refine EV.done rfl ?_
   refine V.region ?_
   refine EV.runS (hcS K w0) 3 [3, 6, 7, 8, 41, 42, 43] (S2 := [(3, pT 3), (6, pT 5), (7, .func (.func 29) #[] #[pT 5]), (8, .int .u64 7), (41, .func (.func 29) #[] #[pT 5]), (42, .int .u64 7), (43, outV 7 (shortOf p.i7))]) rfl (by kernel_rfl) ?_
   refine EV.callh (fs := #[]) (vs := [.int .u64 7, outV 7 (shortOf p.i7)]) (cs := #[pT 5]) [7, 5, 4] (f29_fh (zs := zs) (zv := shortOf p.i7) (rowF_out (shortOf_byte _ hn7.1)) 7 hzsb (shortOf_byte _ hn7.1) (by omega) (shortOf_ne (clsN_small hn7.2)) (by omega) (by have := shortOf_le p.i7; omega)) rfl rfl rfl (by kernel_rfl) (by kernel_rfl) (by kernel_rfl) (by kernel_rfl) (argsCons (σ := sigma [7, 5, 4] (N + 64)) (a := .int .u64 7) (xs := [outV 0 (shortOf p.i7), pT 1]) rfl (argsCons (σ := sigma [7, 5, 4] (N + 64)) (a := outV 0 (shortOf p.i7)) (xs := [pT 1]) (ren_outV (sigma [7, 5, 4] (N + 64)) 0 (shortOf p.i7)) (argsCons (σ := sigma [7, 5, 4] (N + 64)) (a := pT 1) (xs := []) rfl rfl))).symm (by kernel_rfl) ⟨view_out _ rfl (bl rfl), .inr ⟨(bl rfl), rfl, .inl (ren_cells (argsCons (a := outV 2 zs) (xs := []) (ren_outV (sigma [7, 5, 4] (N + 64)) 2 zs) rfl)).symm⟩, part_out _ rfl (bl rfl), trivial⟩ ?_
   rintro v s1 ⟨rfl, rfl⟩
   refine ⟨_, .tuple #[], ⟨[outR (shortOf p.i7), .cells [outV 3 (zs ++ encL [7, ((shortOf p.i7).length : Int)] ++ shortOf p.i7)] false false 1, deadO zs], [outO (zs ++ encL [7, ((shortOf p.i7).length : Int)] ++ shortOf p.i7)], [none, some (.cells [outV 8 (zs ++ encL [7, ((shortOf p.i7).length : Int)] ++ shortOf p.i7)] false false 1), deadU zs], [outO (zs ++ encL [7, ((shortOf p.i7).length : Int)] ++ shortOf p.i7)], rfl, by kernel_rfl, ⟨start_row (rowF_out (shortOf_byte _ hn7.1)), .inr (.inr ⟨rfl, _, rfl, .inl ⟨fun h => Bool.noConfusion h, (ren_cells (argsCons (a := outV 3 (zs ++ encL [7, ((shortOf p.i7).length : Int)] ++ shortOf p.i7)) (xs := []) (ren_outV (sigma1 [7, 5, 4] N 3 8) 3 (zs ++ encL [7, ((shortOf p.i7).length : Int)] ++ shortOf p.i7)) rfl)).symm⟩⟩), start_out zs, trivial⟩, ⟨new_out _ _, trivial⟩, rfl⟩, rfl, ?_⟩
   refine EV.norm [3, 6, 7, 8] (S2 := [(3, pT 3), (6, pT 5), (7, .func (.func 29) #[] #[pT 5]), (8, .int .u64 7)]) (A2 := hp [rb, r0, r1, pO fo fc zo zc co cc p 1 2, deadO zs, .cells [outV 8 (zs ++ encL [7, ((shortOf p.i7).length : Int)] ++ shortOf p.i7)] false false 1, .cells [.int .u64 p.i7] false false 1, outO (shortOf p.i7), outO (zs ++ encL [7, ((shortOf p.i7).length : Int)] ++ shortOf p.i7)] g N) (by kernel_rfl) (congrArg (fun q => hp (q ++ [outO (zs ++ encL [7, ((shortOf p.i7).length : Int)] ++ shortOf p.i7)]) g N) (upd_dead (s := [rb, r0, r1, pO fo fc zo zc co cc p 1 2, outO zs, .cells [outV 8 (zs ++ encL [7, ((shortOf p.i7).length : Int)] ++ shortOf p.i7)] false false 1, .cells [.int .u64 p.i7] false false 1, outO (shortOf p.i7)]) (k := 4) (l := []) (us := []) (zs := zs) rfl (bl rfl))) ?_
   refine EV.reng hB [0, 1, 2, 3, 64, 5, 64, 64, 4] [0, 1, 2, 3, 8, 5] [3, 6, 7, 8] (S2 := [(3, pT 3), (6, pT 5), (7, .func (.func 29) #[] #[pT 5]), (8, .int .u64 7)]) (s2 := [rb, r0, r1, pO fo fc zo zc co cc p 1 2, outO (zs ++ encL [7, ((shortOf p.i7).length : Int)] ++ shortOf p.i7), .cells [outV 4 (zs ++ encL [7, ((shortOf p.i7).length : Int)] ++ shortOf p.i7)] false false 1]) (by kernel_rfl) (by kernel_rfl) ⟨.inr ⟨(bl rfl), .inl ((hrb.obj _).symm)⟩, .inr ⟨(bl rfl), .inl ((hro.obj _).symm)⟩, .inr ⟨(bl rfl), .inl ((hrc.obj _).symm)⟩, .inr ⟨(bl rfl), .inl ((ren_pcl (τ := tau [0, 1, 2, 3, 64, 5, 64, 64, 4] N) (vo := .slice (fo 1) zo.length co) (vc := .slice (fc 2) zc.length cc) (hro.ren _ 1) (hrc.ren _ 2)).symm)⟩, .inl (by decide), .inr ⟨(bl rfl), .inl ((ren_cells (argsCons (a := outV 8 (zs ++ encL [7, ((shortOf p.i7).length : Int)] ++ shortOf p.i7)) (xs := []) (ren_outV (tau [0, 1, 2, 3, 64, 5, 64, 64, 4] N) 8 (zs ++ encL [7, ((shortOf p.i7).length : Int)] ++ shortOf p.i7)) rfl)).symm)⟩, .inl (by decide), .inl (by decide), .inr ⟨(bl rfl), .inl ((renO_outO _ _).symm)⟩, trivial⟩ (renS_cons (rfl) (renS_cons (rfl) (renS_cons (rfl) (renS_cons (rfl) rfl)))) ?_
   intro g N hB
   refine EV.done rfl ?_
   refine thenV_n ?_
   refine V.seq ?_
   refine V.sr ?_
   refine EV.run (hcS K w0) 3 [3, 6, 7, 8, 12] (S2 := [(3, pT 3), (6, pT 5), (7, .func (.func 29) #[] #[pT 5]), (8, .int .u64 7), (12, .pointer none)]) (A2 := hp [rb, r0, r1, pO fo fc zo zc co cc p 1 2, outO (zs ++ encL [7, ((shortOf p.i7).length : Int)] ++ shortOf p.i7), .cells [outV 4 (zs ++ encL [7, ((shortOf p.i7).length : Int)] ++ shortOf p.i7)] false false 1] g N) rfl (by kernel_rfl) ?_
   refine EV.done rfl ?_
   refine V.sr ?_
   refine EV.runS (hcS K w0) 9 [3, 6, 7, 8, 12, 55] (S2 := [(3, pT 3), (6, pT 5), (7, .func (.func 29) #[] #[pT 5]), (8, .int .u64 7), (12, .pointer none), (55, .bool false)]) rfl (by kernel_rfl) ?_
   refine EV.done rfl ?_
   refine V.cond false (by kernel_rfl) (fun h => Bool.noConfusion h) (fun _ => ?_)
   refine V.skip ?_
   refine thenV_n ?_
   refine V.sr ?_
   refine EV.runS (hcS K w0) 6 [3, 6, 7, 8, 67] (S2 := [(3, pT 3), (6, pT 5), (7, .func (.func 29) #[] #[pT 5]), (8, .int .u64 7), (67, .bool false)]) rfl (by kernel_rfl) ?_
   refine EV.done rfl ?_
   refine V.cond false (by kernel_rfl) (fun h => Bool.noConfusion h) (fun _ => ?_)
   refine V.skip ?_
   refine blockQ_n ?_
   refine thenV_n ?_
   refine V.region ?_
   refine EV.runS (hcS K w0) 3 [3, 6, 7, 8] (S2 := [(3, pT 3), (6, pT 5), (7, .func (.func 29) #[] #[pT 5]), (8, .int .u64 8)]) rfl (by kernel_rfl) ?_
   refine EV.done rfl ?_
   exact loopV_n 9 (by decide) ⟨8, (zs ++ encL [7, ((shortOf p.i7).length : Int)] ++ shortOf p.i7), g, N, rfl, by decide, by rw [hinv]; (have hz : ¬ p.i7 = 0 := by (simp at h9; omega)); simp [upB, itemB, putB, hz, PN.num], hB, rfl, rfl⟩
  ·
   refine V.skip ?_
   refine thenV_n ?_
   refine V.seq ?_
   refine V.sr ?_
   refine EV.runS (hcS K w0) 3 [3, 6, 7, 8, 12] (S2 := [(3, pT 3), (6, pT 5), (7, .func (.func 29) #[] #[pT 5]), (8, .int .u64 7), (12, .pointer none)]) rfl (by kernel_rfl) ?_
   refine EV.done rfl ?_
   refine V.sr ?_
   refine EV.runS (hcS K w0) 9 [3, 6, 7, 8, 12, 55] (S2 := [(3, pT 3), (6, pT 5), (7, .func (.func 29) #[] #[pT 5]), (8, .int .u64 7), (12, .pointer none), (55, .bool false)]) rfl (by kernel_rfl) ?_
   refine EV.done rfl ?_
   refine V.cond false (by kernel_rfl) (fun h => Bool.noConfusion h) (fun _ => ?_)
   refine V.skip ?_
   refine thenV_n ?_
   refine V.sr ?_
   refine EV.runS (hcS K w0) 6 [3, 6, 7, 8, 67] (S2 := [(3, pT 3), (6, pT 5), (7, .func (.func 29) #[] #[pT 5]), (8, .int .u64 7), (67, .bool false)]) rfl (by kernel_rfl) ?_
   refine EV.done rfl ?_
   refine V.cond false (by kernel_rfl) (fun h => Bool.noConfusion h) (fun _ => ?_)
   refine V.skip ?_
   refine blockQ_n ?_
   refine thenV_n ?_
   refine V.region ?_
   refine EV.runS (hcS K w0) 3 [3, 6, 7, 8] (S2 := [(3, pT 3), (6, pT 5), (7, .func (.func 29) #[] #[pT 5]), (8, .int .u64 8)]) rfl (by kernel_rfl) ?_
   refine EV.done rfl ?_
   exact loopV_n 9 (by decide) ⟨8, zs, g, N, rfl, by decide, by rw [hinv]; (have hz : p.num 7 = 0 := by (show p.i7 = 0; have := hn7.1; simp at h9; omega)); simp [upB, itemB, hz], hB, rfl, rfl⟩
 ·
  obtain rfl : k = 9 := by omega
  refine V.seq ?_
  refine V.sr ?_
  refine EV.run (hcS K w0) 2 [3, 6, 7, 8, 20] (S2 := [(3, pT 3), (6, pT 5), (7, .func (.func 29) #[] #[pT 5]), (8, .int .u64 8), (20, .bool true)]) (A2 := hp [rb, r0, r1, pO fo fc zo zc co cc p 1 2, outO zs, .cells [outV 4 zs] false false 1] g N) rfl (by kernel_rfl) ?_
  refine EV.done rfl ?_
  refine V.cond true (by kernel_rfl) (fun _ => ?_) (fun h => Bool.noConfusion h)
  refine V.skip ?_
  refine thenV_n ?_
  refine V.seq ?_
  refine V.block ?_
  refine V.seq ?_
  refine V.sr ?_
  refine EV.runS (hcS K w0) 3 [3, 6, 7, 8, 9] (S2 := [(3, pT 3), (6, pT 5), (7, .func (.func 29) #[] #[pT 5]), (8, .int .u64 8), (9, .pointer (some ⟨3, 7, none⟩))]) rfl (by kernel_rfl) ?_
  refine EV.done rfl ?_
  refine V.sr ?_
  refine EV.runS (hcS K w0) 8 [3, 6, 7, 8, 9, 32] (S2 := [(3, pT 3), (6, pT 5), (7, .func (.func 29) #[] #[pT 5]), (8, .int .u64 8), (9, .pointer (some ⟨3, 7, none⟩)), (32, .bool (decide (p.i8 > 0)))]) rfl (by kernel_rfl) ?_
  refine EV.done rfl ?_
  refine V.cond (decide (p.i8 > 0)) (by kernel_rfl) (fun h10 => ?_) (fun h10 => ?_)
  ·
   refine V.sr ?_
   refine EV.run (hcS K w0) 4 [3, 6, 7, 8, 37] (S2 := [(3, pT 3), (6, pT 5), (7, .func (.func 29) #[] #[pT 5]), (8, .int .u64 8), (37, .slice (some ⟨6, 0, none⟩) 1 1)]) (A2 := hp [rb, r0, r1, pO fo fc zo zc co cc p 1 2, outO zs, .cells [outV 4 zs] false false 1, .cells [.int .u64 p.i8] false false 1] g N) rfl (by kernel_rfl) ?_
   refine EV.callh (fs := #[]) (vs := [.slice none 0 0, .slice (some ⟨6, 0, none⟩) 1 1]) (cs := #[]) [6] (f17n_fh p.i8 hn8) rfl rfl rfl (by kernel_rfl) (by kernel_rfl) (by kernel_rfl) (by kernel_rfl) (argsCons (σ := sigma [6] (N + 64)) (a := .slice none 0 0) (xs := [.slice (some ⟨0, 0, none⟩) 1 1]) rfl (argsCons (σ := sigma [6] (N + 64)) (a := .slice (some ⟨0, 0, none⟩) 1 1) (xs := []) rfl rfl)).symm (by kernel_rfl) ⟨.inr ⟨(bl rfl), rfl, .inr ⟨_, _, _, rfl, rfl⟩⟩, trivial⟩ ?_
   rintro v s1 ⟨rfl, rfl⟩
   refine ⟨_, .tuple #[outV 7 (shortOf p.i8), .int .i64 0], ⟨[.cells [.int .u64 p.i8] true false 1], [outO (shortOf p.i8)], [none], [outO (shortOf p.i8)], rfl, by kernel_rfl, ⟨.inr (.inl ⟨⟨_, _, _, rfl⟩, rfl⟩), trivial⟩, ⟨new_out _ _, trivial⟩, rfl⟩, (congrArg (fun q => Value.tuple #[q, .int .i64 0]) (ren_outV (sigma1 [6] N 1 7) 1 (shortOf p.i8))).symm, ?_⟩
   refine EV.norm [3, 6, 7, 8, 38] (S2 := [(3, pT 3), (6, pT 5), (7, .func (.func 29) #[] #[pT 5]), (8, .int .u64 8), (38, .tuple #[outV 7 (shortOf p.i8), .int .i64 0])]) (A2 := hp [rb, r0, r1, pO fo fc zo zc co cc p 1 2, outO zs, .cells [outV 4 zs] false false 1, .cells [.int .u64 p.i8] false false 1, outO (shortOf p.i8)] g N) (by kernel_rfl) (by kernel_rfl) ?_
   refine EV.runS (hcS K w0) 10 [3, 6, 7, 8, 10] (S2 := [(3, pT 3), (6, pT 5), (7, .func (.func 29) #[] #[pT 5]), (8, .int .u64 8), (10, outV 7 (shortOf p.i8))]) rfl (by kernel_rfl) ?_
   refine EV.done rfl ?_
   refine V.region ?_
   refine EV.runS (hcS K w0) 3 [3, 6, 7, 8, 41, 42, 43] (S2 := [(3, pT 3), (6, pT 5), (7, .func (.func 29) #[] #[pT 5]), (8, .int .u64 8), (41, .func (.func 29) #[] #[pT 5]), (42, .int .u64 8), (43, outV 7 (shortOf p.i8))]) rfl (by kernel_rfl) ?_
   refine EV.callh (fs := #[]) (vs := [.int .u64 8, outV 7 (shortOf p.i8)]) (cs := #[pT 5]) [7, 5, 4] (f29_fh (zs := zs) (zv := shortOf p.i8) (rowF_out (shortOf_byte _ hn8.1)) 8 hzsb (shortOf_byte _ hn8.1) (by omega) (shortOf_ne (clsN_small hn8.2)) (by omega) (by have := shortOf_le p.i8; omega)) rfl rfl rfl (by kernel_rfl) (by kernel_rfl) (by kernel_rfl) (by kernel_rfl) (argsCons (σ := sigma [7, 5, 4] (N + 64)) (a := .int .u64 8) (xs := [outV 0 (shortOf p.i8), pT 1]) rfl (argsCons (σ := sigma [7, 5, 4] (N + 64)) (a := outV 0 (shortOf p.i8)) (xs := [pT 1]) (ren_outV (sigma [7, 5, 4] (N + 64)) 0 (shortOf p.i8)) (argsCons (σ := sigma [7, 5, 4] (N + 64)) (a := pT 1) (xs := []) rfl rfl))).symm (by kernel_rfl) ⟨view_out _ rfl (bl rfl), .inr ⟨(bl rfl), rfl, .inl (ren_cells (argsCons (a := outV 2 zs) (xs := []) (ren_outV (sigma [7, 5, 4] (N + 64)) 2 zs) rfl)).symm⟩, part_out _ rfl (bl rfl), trivial⟩ ?_
   rintro v s1 ⟨rfl, rfl⟩
   refine ⟨_, .tuple #[], ⟨[outR (shortOf p.i8), .cells [outV 3 (zs ++ encL [8, ((shortOf p.i8).length : Int)] ++ shortOf p.i8)] false false 1, deadO zs], [outO (zs ++ encL [8, ((shortOf p.i8).length : Int)] ++ shortOf p.i8)], [none, some (.cells [outV 8 (zs ++ encL [8, ((shortOf p.i8).length : Int)] ++ shortOf p.i8)] false false 1), deadU zs], [outO (zs ++ encL [8, ((shortOf p.i8).length : Int)] ++ shortOf p.i8)], rfl, by kernel_rfl, ⟨start_row (rowF_out (shortOf_byte _ hn8.1)), .inr (.inr ⟨rfl, _, rfl, .inl ⟨fun h => Bool.noConfusion h, (ren_cells (argsCons (a := outV 3 (zs ++ encL [8, ((shortOf p.i8).length : Int)] ++ shortOf p.i8)) (xs := []) (ren_outV (sigma1 [7, 5, 4] N 3 8) 3 (zs ++ encL [8, ((shortOf p.i8).length : Int)] ++ shortOf p.i8)) rfl)).symm⟩⟩), start_out zs, trivial⟩, ⟨new_out _ _, trivial⟩, rfl⟩, rfl, ?_⟩
   refine EV.norm [3, 6, 7, 8] (S2 := [(3, pT 3), (6, pT 5), (7, .func (.func 29) #[] #[pT 5]), (8, .int .u64 8)]) (A2 := hp [rb, r0, r1, pO fo fc zo zc co cc p 1 2, deadO zs, .cells [outV 8 (zs ++ encL [8, ((shortOf p.i8).length : Int)] ++ shortOf p.i8)] false false 1, .cells [.int .u64 p.i8] false false 1, outO (shortOf p.i8), outO (zs ++ encL [8, ((shortOf p.i8).length : Int)] ++ shortOf p.i8)] g N) (by kernel_rfl) (congrArg (fun q => hp (q ++ [outO (zs ++ encL [8, ((shortOf p.i8).length : Int)] ++ shortOf p.i8)]) g N) (upd_dead (s := [rb, r0, r1, pO fo fc zo zc co cc p 1 2, outO zs, .cells [outV 8 (zs ++ encL [8, ((shortOf p.i8).length : Int)] ++ shortOf p.i8)] false false 1, .cells [.int .u64 p.i8] false false 1, outO (shortOf p.i8)]) (k := 4) (l := []) (us := []) (zs := zs) rfl (bl rfl))) ?_
   refine EV.reng hB [0, 1, 2, 3, 64, 5, 64, 64, 4] [0, 1, 2, 3, 8, 5] [3, 6, 7, 8] (S2 := [(3, pT 3), (6, pT 5), (7, .func (.func 29) #[] #[pT 5]), (8, .int .u64 8)]) (s2 := [rb, r0, r1, pO fo fc zo zc co cc p 1 2, outO (zs ++ encL [8, ((shortOf p.i8).length : Int)] ++ shortOf p.i8), .cells [outV 4 (zs ++ encL [8, ((shortOf p.i8).length : Int)] ++ shortOf p.i8)] false false 1]) (by kernel_rfl) (by kernel_rfl) ⟨.inr ⟨(bl rfl), .inl ((hrb.obj _).symm)⟩, .inr ⟨(bl rfl), .inl ((hro.obj _).symm)⟩, .inr ⟨(bl rfl), .inl ((hrc.obj _).symm)⟩, .inr ⟨(bl rfl), .inl ((ren_pcl (τ := tau [0, 1, 2, 3, 64, 5, 64, 64, 4] N) (vo := .slice (fo 1) zo.length co) (vc := .slice (fc 2) zc.length cc) (hro.ren _ 1) (hrc.ren _ 2)).symm)⟩, .inl (by decide), .inr ⟨(bl rfl), .inl ((ren_cells (argsCons (a := outV 8 (zs ++ encL [8, ((shortOf p.i8).length : Int)] ++ shortOf p.i8)) (xs := []) (ren_outV (tau [0, 1, 2, 3, 64, 5, 64, 64, 4] N) 8 (zs ++ encL [8, ((shortOf p.i8).length : Int)] ++ shortOf p.i8)) rfl)).symm)⟩, .inl (by decide), .inl (by decide), .inr ⟨(bl rfl), .inl ((renO_outO _ _).symm)⟩, trivial⟩ (renS_cons (rfl) (renS_cons (rfl) (renS_cons (rfl) (renS_cons (rfl) rfl)))) ?_
   intro g N hB
   refine EV.done rfl ?_
   refine thenV_n ?_
   refine V.seq ?_
   refine V.sr ?_
   refine EV.run (hcS K w0) 3 [3, 6, 7, 8, 12] (S2 := [(3, pT 3), (6, pT 5), (7, .func (.func 29) #[] #[pT 5]), (8, .int .u64 8), (12, .pointer none)]) (A2 := hp [rb, r0, r1, pO fo fc zo zc co cc p 1 2, outO (zs ++ encL [8, ((shortOf p.i8).length : Int)] ++ shortOf p.i8), .cells [outV 4 (zs ++ encL [8, ((shortOf p.i8).length : Int)] ++ shortOf p.i8)] false false 1] g N) rfl (by kernel_rfl) ?_
   refine EV.done rfl ?_
   refine V.sr ?_
   refine EV.runS (hcS K w0) 9 [3, 6, 7, 8, 12, 55] (S2 := [(3, pT 3), (6, pT 5), (7, .func (.func 29) #[] #[pT 5]), (8, .int .u64 8), (12, .pointer none), (55, .bool false)]) rfl (by kernel_rfl) ?_
   refine EV.done rfl ?_
   refine V.cond false (by kernel_rfl) (fun h => Bool.noConfusion h) (fun _ => ?_)
   refine V.skip ?_
   refine thenV_n ?_
   refine V.sr ?_
   refine EV.runS (hcS K w0) 6 [3, 6, 7, 8, 67] (S2 := [(3, pT 3), (6, pT 5), (7, .func (.func 29) #[] #[pT 5]), (8, .int .u64 8), (67, .bool false)]) rfl (by kernel_rfl) ?_
   refine EV.done rfl ?_
   refine V.cond false (by kernel_rfl) (fun h => Bool.noConfusion h) (fun _ => ?_)
   refine V.skip ?_
   refine blockQ_n ?_
   refine thenV_n ?_
   refine V.region ?_
   refine EV.runS (hcS K w0) 3 [3, 6, 7, 8] (S2 := [(3, pT 3), (6, pT 5), (7, .func (.func 29) #[] #[pT 5]), (8, .int .u64 9)]) rfl (by kernel_rfl) ?_
   refine EV.done rfl ?_
   exact loopV_n 8 (by decide) ⟨9, (zs ++ encL [8, ((shortOf p.i8).length : Int)] ++ shortOf p.i8), g, N, rfl, by decide, by rw [hinv]; (have hz : ¬ p.i8 = 0 := by (simp at h10; omega)); simp [upB, itemB, putB, hz, PN.num], hB, rfl, rfl⟩
  ·
   refine V.skip ?_
   refine thenV_n ?_
   refine V.seq ?_
   refine V.sr ?_
   refine EV.runS (hcS K w0) 3 [3, 6, 7, 8, 12] (S2 := [(3, pT 3), (6, pT 5), (7, .func (.func 29) #[] #[pT 5]), (8, .int .u64 8), (12, .pointer none)]) rfl (by kernel_rfl) ?_
   refine EV.done rfl ?_
   refine V.sr ?_
   refine EV.runS (hcS K w0) 9 [3, 6, 7, 8, 12, 55] (S2 := [(3, pT 3), (6, pT 5), (7, .func (.func 29) #[] #[pT 5]), (8, .int .u64 8), (12, .pointer none), (55, .bool false)]) rfl (by kernel_rfl) ?_
   refine EV.done rfl ?_
   refine V.cond false (by kernel_rfl) (fun h => Bool.noConfusion h) (fun _ => ?_)
   refine V.skip ?_
   refine thenV_n ?_
   refine V.sr ?_
   refine EV.runS (hcS K w0) 6 [3, 6, 7, 8, 67] (S2 := [(3, pT 3), (6, pT 5), (7, .func (.func 29) #[] #[pT 5]), (8, .int .u64 8), (67, .bool false)]) rfl (by kernel_rfl) ?_
   refine EV.done rfl ?_
   refine V.cond false (by kernel_rfl) (fun h => Bool.noConfusion h) (fun _ => ?_)
   refine V.skip ?_
   refine blockQ_n ?_
   refine thenV_n ?_
   refine V.region ?_
   refine EV.runS (hcS K w0) 3 [3, 6, 7, 8] (S2 := [(3, pT 3), (6, pT 5), (7, .func (.func 29) #[] #[pT 5]), (8, .int .u64 9)]) rfl (by kernel_rfl) ?_
   refine EV.done rfl ?_
   exact loopV_n 8 (by decide) ⟨9, zs, g, N, rfl, by decide, by rw [hinv]; (have hz : p.num 8 = 0 := by (show p.i8 = 0; have := hn8.1; simp at h10; omega)); simp [upB, itemB, hz], hB, rfl, rfl⟩
 ·
  obtain rfl : k = 8 := by omega
  refine V.seq ?_
  refine V.sr ?_
  refine EV.run (hcS K w0) 2 [3, 6, 7, 8, 20] (S2 := [(3, pT 3), (6, pT 5), (7, .func (.func 29) #[] #[pT 5]), (8, .int .u64 9), (20, .bool true)]) (A2 := hp [rb, r0, r1, pO fo fc zo zc co cc p 1 2, outO zs, .cells [outV 4 zs] false false 1] g N) rfl (by kernel_rfl) ?_
  refine EV.done rfl ?_
  refine V.cond true (by kernel_rfl) (fun _ => ?_) (fun h => Bool.noConfusion h)
  refine V.skip ?_
  refine thenV_n ?_
  refine V.seq ?_
  refine V.block ?_
  refine V.seq ?_
  refine V.sr ?_
  refine EV.runS (hcS K w0) 3 [3, 6, 7, 8, 9] (S2 := [(3, pT 3), (6, pT 5), (7, .func (.func 29) #[] #[pT 5]), (8, .int .u64 9), (9, .pointer (some ⟨3, 8, none⟩))]) rfl (by kernel_rfl) ?_
  refine EV.done rfl ?_
  refine V.sr ?_
  refine EV.runS (hcS K w0) 8 [3, 6, 7, 8, 9, 32] (S2 := [(3, pT 3), (6, pT 5), (7, .func (.func 29) #[] #[pT 5]), (8, .int .u64 9), (9, .pointer (some ⟨3, 8, none⟩)), (32, .bool (decide (p.i9 > 0)))]) rfl (by kernel_rfl) ?_
  refine EV.done rfl ?_
  refine V.cond (decide (p.i9 > 0)) (by kernel_rfl) (fun h11 => ?_) (fun h11 => ?_)
  ·
   refine V.sr ?_
   refine EV.run (hcS K w0) 4 [3, 6, 7, 8, 37] (S2 := [(3, pT 3), (6, pT 5), (7, .func (.func 29) #[] #[pT 5]), (8, .int .u64 9), (37, .slice (some ⟨6, 0, none⟩) 1 1)]) (A2 := hp [rb, r0, r1, pO fo fc zo zc co cc p 1 2, outO zs, .cells [outV 4 zs] false false 1, .cells [.int .u64 p.i9] false false 1] g N) rfl (by kernel_rfl) ?_
   refine EV.callh (fs := #[]) (vs := [.slice none 0 0, .slice (some ⟨6, 0, none⟩) 1 1]) (cs := #[]) [6] (f17n_fh p.i9 hn9) rfl rfl rfl (by kernel_rfl) (by kernel_rfl) (by kernel_rfl) (by kernel_rfl) (argsCons (σ := sigma [6] (N + 64)) (a := .slice none 0 0) (xs := [.slice (some ⟨0, 0, none⟩) 1 1]) rfl (argsCons (σ := sigma [6] (N + 64)) (a := .slice (some ⟨0, 0, none⟩) 1 1) (xs := []) rfl rfl)).symm (by kernel_rfl) ⟨.inr ⟨(bl rfl), rfl, .inr ⟨_, _, _, rfl, rfl⟩⟩, trivial⟩ ?_
   rintro v s1 ⟨rfl, rfl⟩
   refine ⟨_, .tuple #[outV 7 (shortOf p.i9), .int .i64 0], ⟨[.cells [.int .u64 p.i9] true false 1], [outO (shortOf p.i9)], [none], [outO (shortOf p.i9)], rfl, by kernel_rfl, ⟨.inr (.inl ⟨⟨_, _, _, rfl⟩, rfl⟩), trivial⟩, ⟨new_out _ _, trivial⟩, rfl⟩, (congrArg (fun q => Value.tuple #[q, .int .i64 0]) (ren_outV (sigma1 [6] N 1 7) 1 (shortOf p.i9))).symm, ?_⟩
   refine EV.norm [3, 6, 7, 8, 38] (S2 := [(3, pT 3), (6, pT 5), (7, .func (.func 29) #[] #[pT 5]), (8, .int .u64 9), (38, .tuple #[outV 7 (shortOf p.i9), .int .i64 0])]) (A2 := hp [rb, r0, r1, pO fo fc zo zc co cc p 1 2, outO zs, .cells [outV 4 zs] false false 1, .cells [.int .u64 p.i9] false false 1, outO (shortOf p.i9)] g N) (by kernel_rfl) (by kernel_rfl) ?_
   refine EV.runS (hcS K w0) 10 [3, 6, 7, 8, 10] (S2 := [(3, pT 3), (6, pT 5), (7, .func (.func 29) #[] #[pT 5]), (8, .int .u64 9), (10, outV 7 (shortOf p.i9))]) rfl (by kernel_rfl) ?_
   refine EV.done rfl ?_
   refine V.region ?_
   refine EV.runS (hcS K w0) 3 [3, 6, 7, 8, 41, 42, 43] (S2 := [(3, pT 3), (6, pT 5), (7, .func (.func 29) #[] #[pT 5]), (8, .int .u64 9), (41, .func (.func 29) #[] #[pT 5]), (42, .int .u64 9), (43, outV 7 (shortOf p.i9))]) rfl (by kernel_rfl) ?_
   refine EV.callh (fs := #[]) (vs := [.int .u64 9, outV 7 (shortOf p.i9)]) (cs := #[pT 5]) [7, 5, 4] (f29_fh (zs := zs) (zv := shortOf p.i9) (rowF_out (shortOf_byte _ hn9.1)) 9 hzsb (shortOf_byte _ hn9.1) (by omega) (shortOf_ne (clsN_small hn9.2)) (by omega) (by have := shortOf_le p.i9; omega)) rfl rfl rfl (by kernel_rfl) (by kernel_rfl) (by kernel_rfl) (by kernel_rfl) (argsCons (σ := sigma [7, 5, 4] (N + 64)) (a := .int .u64 9) (xs := [outV 0 (shortOf p.i9), pT 1]) rfl (argsCons (σ := sigma [7, 5, 4] (N + 64)) (a := outV 0 (shortOf p.i9)) (xs := [pT 1]) (ren_outV (sigma [7, 5, 4] (N + 64)) 0 (shortOf p.i9)) (argsCons (σ := sigma [7, 5, 4] (N + 64)) (a := pT 1) (xs := []) rfl rfl))).symm (by kernel_rfl) ⟨view_out _ rfl (bl rfl), .inr ⟨(bl rfl), rfl, .inl (ren_cells (argsCons (a := outV 2 zs) (xs := []) (ren_outV (sigma [7, 5, 4] (N + 64)) 2 zs) rfl)).symm⟩, part_out _ rfl (bl rfl), trivial⟩ ?_
   rintro v s1 ⟨rfl, rfl⟩
   refine ⟨_, .tuple #[], ⟨[outR (shortOf p.i9), .cells [outV 3 (zs ++ encL [9, ((shortOf p.i9).length : Int)] ++ shortOf p.i9)] false false 1, deadO zs], [outO (zs ++ encL [9, ((shortOf p.i9).length : Int)] ++ shortOf p.i9)], [none, some (.cells [outV 8 (zs ++ encL [9, ((shortOf p.i9).length : Int)] ++ shortOf p.i9)] false false 1), deadU zs], [outO (zs ++ encL [9, ((shortOf p.i9).length : Int)] ++ shortOf p.i9)], rfl, by kernel_rfl, ⟨start_row (rowF_out (shortOf_byte _ hn9.1)), .inr (.inr ⟨rfl, _, rfl, .inl ⟨fun h => Bool.noConfusion h, (ren_cells (argsCons (a := outV 3 (zs ++ encL [9, ((shortOf p.i9).length : Int)] ++ shortOf p.i9)) (xs := []) (ren_outV (sigma1 [7, 5, 4] N 3 8) 3 (zs ++ encL [9, ((shortOf p.i9).length : Int)] ++ shortOf p.i9)) rfl)).symm⟩⟩), start_out zs, trivial⟩, ⟨new_out _ _, trivial⟩, rfl⟩, rfl, ?_⟩
   refine EV.norm [3, 6, 7, 8] (S2 := [(3, pT 3), (6, pT 5), (7, .func (.func 29) #[] #[pT 5]), (8, .int .u64 9)]) (A2 := hp [rb, r0, r1, pO fo fc zo zc co cc p 1 2, deadO zs, .cells [outV 8 (zs ++ encL [9, ((shortOf p.i9).length : Int)] ++ shortOf p.i9)] false false 1, .cells [.int .u64 p.i9] false false 1, outO (shortOf p.i9), outO (zs ++ encL [9, ((shortOf p.i9).length : Int)] ++ shortOf p.i9)] g N) (by kernel_rfl) (congrArg (fun q => hp (q ++ [outO (zs ++ encL [9, ((shortOf p.i9).length : Int)] ++ shortOf p.i9)]) g N) (upd_dead (s := [rb, r0, r1, pO fo fc zo zc co cc p 1 2, outO zs, .cells [outV 8 (zs ++ encL [9, ((shortOf p.i9).length : Int)] ++ shortOf p.i9)] false false 1, .cells [.int .u64 p.i9] false false 1, outO (shortOf p.i9)]) (k := 4) (l := []) (us := []) (zs := zs) rfl (bl rfl))) ?_
   refine EV.reng hB [0, 1, 2, 3, 64, 5, 64, 64, 4] [0, 1, 2, 3, 8, 5] [3, 6, 7, 8] (S2 := [(3, pT 3), (6, pT 5), (7, .func (.func 29) #[] #[pT 5]), (8, .int .u64 9)]) (s2 := [rb, r0, r1, pO fo fc zo zc co cc p 1 2, outO (zs ++ encL [9, ((shortOf p.i9).length : Int)] ++ shortOf p.i9), .cells [outV 4 (zs ++ encL [9, ((shortOf p.i9).length : Int)] ++ shortOf p.i9)] false false 1]) (by kernel_rfl) (by kernel_rfl) ⟨.inr ⟨(bl rfl), .inl ((hrb.obj _).symm)⟩, .inr ⟨(bl rfl), .inl ((hro.obj _).symm)⟩, .inr ⟨(bl rfl), .inl ((hrc.obj _).symm)⟩, .inr ⟨(bl rfl), .inl ((ren_pcl (τ := tau [0, 1, 2, 3, 64, 5, 64, 64, 4] N) (vo := .slice (fo 1) zo.length co) (vc := .slice (fc 2) zc.length cc) (hro.ren _ 1) (hrc.ren _ 2)).symm)⟩, .inl (by decide), .inr ⟨(bl rfl), .inl ((ren_cells (argsCons (a := outV 8 (zs ++ encL [9, ((shortOf p.i9).length : Int)] ++ shortOf p.i9)) (xs := []) (ren_outV (tau [0, 1, 2, 3, 64, 5, 64, 64, 4] N) 8 (zs ++ encL [9, ((shortOf p.i9).length : Int)] ++ shortOf p.i9)) rfl)).symm)⟩, .inl (by decide), .inl (by decide), .inr ⟨(bl rfl), .inl ((renO_outO _ _).symm)⟩, trivial⟩ (renS_cons (rfl) (renS_cons (rfl) (renS_cons (rfl) (renS_cons (rfl) rfl)))) ?_
   intro g N hB
   refine EV.done rfl ?_
   refine thenV_n ?_
   refine V.seq ?_
   refine V.sr ?_
   refine EV.run (hcS K w0) 3 [3, 6, 7, 8, 12] (S2 := [(3, pT 3), (6, pT 5), (7, .func (.func 29) #[] #[pT 5]), (8, .int .u64 9), (12, .pointer none)]) (A2 := hp [rb, r0, r1, pO fo fc zo zc co cc p 1 2, outO (zs ++ encL [9, ((shortOf p.i9).length : Int)] ++ shortOf p.i9), .cells [outV 4 (zs ++ encL [9, ((shortOf p.i9).length : Int)] ++ shortOf p.i9)] false false 1] g N) rfl (by kernel_rfl) ?_
   refine EV.done rfl ?_
   refine V.sr ?_
   refine EV.runS (hcS K w0) 9 [3, 6, 7, 8, 12, 55] (S2 := [(3, pT 3), (6, pT 5), (7, .func (.func 29) #[] #[pT 5]), (8, .int .u64 9), (12, .pointer none), (55, .bool false)]) rfl (by kernel_rfl) ?_
   refine EV.done rfl ?_
   refine V.cond false (by kernel_rfl) (fun h => Bool.noConfusion h) (fun _ => ?_)
   refine V.skip ?_
   refine thenV_n ?_
   refine V.sr ?_
   refine EV.runS (hcS K w0) 6 [3, 6, 7, 8, 67] (S2 := [(3, pT 3), (6, pT 5), (7, .func (.func 29) #[] #[pT 5]), (8, .int .u64 9), (67, .bool false)]) rfl (by kernel_rfl) ?_
   refine EV.done rfl ?_
   refine V.cond false (by kernel_rfl) (fun h => Bool.noConfusion h) (fun _ => ?_)
   refine V.skip ?_
   refine blockQ_n ?_
   refine thenV_n ?_
   refine V.region ?_
   refine EV.runS (hcS K w0) 3 [3, 6, 7, 8] (S2 := [(3, pT 3), (6, pT 5), (7, .func (.func 29) #[] #[pT 5]), (8, .int .u64 10)]) rfl (by kernel_rfl) ?_
   refine EV.done rfl ?_
   exact loopV_n 7 (by decide) ⟨10, (zs ++ encL [9, ((shortOf p.i9).length : Int)] ++ shortOf p.i9), g, N, rfl, by decide, by rw [hinv]; (have hz : ¬ p.i9 = 0 := by (simp at h11; omega)); simp [upB, itemB, putB, hz, PN.num], hB, rfl, rfl⟩
  ·
   refine V.skip ?_
   refine thenV_n ?_
   refine V.seq ?_
   refine V.sr ?_
   refine EV.runS (hcS K w0) 3 [3, 6, 7, 8, 12] (S2 := [(3, pT 3), (6, pT 5), (7, .func (.func 29) #[] #[pT 5]), (8, .int .u64 9), (12, .pointer none)]) rfl (by kernel_rfl) ?_
   refine EV.done rfl ?_
   refine V.sr ?_
   refine EV.runS (hcS K w0) 9 [3, 6, 7, 8, 12, 55] (S2 := [(3, pT 3), (6, pT 5), (7, .func (.func 29) #[] #[pT 5]), (8, .int .u64 9), (12, .pointer none), (55, .bool false)]) rfl (by kernel_rfl) ?_
   refine EV.done rfl ?_
   refine V.cond false (by kernel_rfl) (fun h => Bool.noConfusion h) (fun _ => ?_)
   refine V.skip ?_
   refine thenV_n ?_
   refine V.sr ?_
   refine EV.runS (hcS K w0) 6 [3, 6, 7, 8, 67] (S2 := [(3, pT 3), (6, pT 5), (7, .func (.func 29) #[] #[pT 5]), (8, .int .u64 9), (67, .bool false)]) rfl (by kernel_rfl) ?_
   refine EV.done rfl ?_
   refine V.cond false (by kernel_rfl) (fun h => Bool.noConfusion h) (fun _ => ?_)
   refine V.skip ?_
   refine blockQ_n ?_
   refine thenV_n ?_
   refine V.region ?_
   refine EV.runS (hcS K w0) 3 [3, 6, 7, 8] (S2 := [(3, pT 3), (6, pT 5), (7, .func (.func 29) #[] #[pT 5]), (8, .int .u64 10)]) rfl (by kernel_rfl) ?_
   refine EV.done rfl ?_
   exact loopV_n 7 (by decide) ⟨10, zs, g, N, rfl, by decide, by rw [hinv]; (have hz : p.num 9 = 0 := by (show p.i9 = 0; have := hn9.1; simp at h11; omega)); simp [upB, itemB, hz], hB, rfl, rfl⟩
 ·
  obtain rfl : k = 7 := by omega
  refine V.seq ?_
  refine V.sr ?_
  refine EV.run (hcS K w0) 2 [3, 6, 7, 8, 20] (S2 := [(3, pT 3), (6, pT 5), (7, .func (.func 29) #[] #[pT 5]), (8, .int .u64 10), (20, .bool true)]) (A2 := hp [rb, r0, r1, pO fo fc zo zc co cc p 1 2, outO zs, .cells [outV 4 zs] false false 1] g N) rfl (by kernel_rfl) ?_
  refine EV.done rfl ?_
  refine V.cond true (by kernel_rfl) (fun _ => ?_) (fun h => Bool.noConfusion h)
  refine V.skip ?_
  refine thenV_n ?_
  refine V.seq ?_
  refine V.block ?_
  refine V.seq ?_
  refine V.sr ?_
  refine EV.runS (hcS K w0) 3 [3, 6, 7, 8, 9] (S2 := [(3, pT 3), (6, pT 5), (7, .func (.func 29) #[] #[pT 5]), (8, .int .u64 10), (9, .pointer none)]) rfl (by kernel_rfl) ?_
  refine EV.done rfl ?_
  refine V.sr ?_
  refine EV.runS (hcS K w0) 8 [3, 6, 7, 8, 9, 32] (S2 := [(3, pT 3), (6, pT 5), (7, .func (.func 29) #[] #[pT 5]), (8, .int .u64 10), (9, .pointer none), (32, .bool false)]) rfl (by kernel_rfl) ?_
  refine EV.done rfl ?_
  refine V.cond false (by kernel_rfl) (fun h => Bool.noConfusion h) (fun _ => ?_)
  refine V.skip ?_
  refine thenV_n ?_
  refine V.seq ?_
  refine V.sr ?_
  refine EV.runS (hcS K w0) 3 [3, 6, 7, 8, 12] (S2 := [(3, pT 3), (6, pT 5), (7, .func (.func 29) #[] #[pT 5]), (8, .int .u64 10), (12, .pointer none)]) rfl (by kernel_rfl) ?_
  refine EV.done rfl ?_
  refine V.sr ?_
  refine EV.runS (hcS K w0) 9 [3, 6, 7, 8, 12, 55] (S2 := [(3, pT 3), (6, pT 5), (7, .func (.func 29) #[] #[pT 5]), (8, .int .u64 10), (12, .pointer none), (55, .bool false)]) rfl (by kernel_rfl) ?_
  refine EV.done rfl ?_
  refine V.cond false (by kernel_rfl) (fun h => Bool.noConfusion h) (fun _ => ?_)
  refine V.skip ?_
  refine thenV_n ?_
  refine V.sr ?_
  refine EV.runS (hcS K w0) 6 [3, 6, 7, 8, 67] (S2 := [(3, pT 3), (6, pT 5), (7, .func (.func 29) #[] #[pT 5]), (8, .int .u64 10), (67, .bool false)]) rfl (by kernel_rfl) ?_
  refine EV.done rfl ?_
  refine V.cond false (by kernel_rfl) (fun h => Bool.noConfusion h) (fun _ => ?_)
  refine V.skip ?_
  refine blockQ_n ?_
  refine thenV_n ?_
  refine V.region ?_
  refine EV.runS (hcS K w0) 3 [3, 6, 7, 8] (S2 := [(3, pT 3), (6, pT 5), (7, .func (.func 29) #[] #[pT 5]), (8, .int .u64 11)]) rfl (by kernel_rfl) ?_
  refine EV.done rfl ?_
  exact loopV_n 6 (by decide) ⟨11, zs, g, N, rfl, by decide, by rw [hinv]; simp [upB, itemB, PN.num], hB, rfl, rfl⟩
 ·
  obtain rfl : k = 6 := by omega
  refine V.seq ?_
  refine V.sr ?_
  refine EV.run (hcS K w0) 2 [3, 6, 7, 8, 20] (S2 := [(3, pT 3), (6, pT 5), (7, .func (.func 29) #[] #[pT 5]), (8, .int .u64 11), (20, .bool true)]) (A2 := hp [rb, r0, r1, pO fo fc zo zc co cc p 1 2, outO zs, .cells [outV 4 zs] false false 1] g N) rfl (by kernel_rfl) ?_
  refine EV.done rfl ?_
  refine V.cond true (by kernel_rfl) (fun _ => ?_) (fun h => Bool.noConfusion h)
  refine V.skip ?_
  refine thenV_n ?_
  refine V.seq ?_
  refine V.block ?_
  refine V.seq ?_
  refine V.sr ?_
  refine EV.runS (hcS K w0) 3 [3, 6, 7, 8, 9] (S2 := [(3, pT 3), (6, pT 5), (7, .func (.func 29) #[] #[pT 5]), (8, .int .u64 11), (9, .pointer (some ⟨3, 9, none⟩))]) rfl (by kernel_rfl) ?_
  refine EV.done rfl ?_
  refine V.sr ?_
  refine EV.runS (hcS K w0) 8 [3, 6, 7, 8, 9, 32] (S2 := [(3, pT 3), (6, pT 5), (7, .func (.func 29) #[] #[pT 5]), (8, .int .u64 11), (9, .pointer (some ⟨3, 9, none⟩)), (32, .bool (decide (p.i11 > 0)))]) rfl (by kernel_rfl) ?_
  refine EV.done rfl ?_
  refine V.cond (decide (p.i11 > 0)) (by kernel_rfl) (fun h12 => ?_) (fun h12 => ?_)
  ·
   refine V.sr ?_
   refine EV.run (hcS K w0) 4 [3, 6, 7, 8, 37] (S2 := [(3, pT 3), (6, pT 5), (7, .func (.func 29) #[] #[pT 5]), (8, .int .u64 11), (37, .slice (some ⟨6, 0, none⟩) 1 1)]) (A2 := hp [rb, r0, r1, pO fo fc zo zc co cc p 1 2, outO zs, .cells [outV 4 zs] false false 1, .cells [.int .u64 p.i11] false false 1] g N) rfl (by kernel_rfl) ?_
   refine EV.callh (fs := #[]) (vs := [.slice none 0 0, .slice (some ⟨6, 0, none⟩) 1 1]) (cs := #[]) [6] (f17n_fh p.i11 hn11) rfl rfl rfl (by kernel_rfl) (by kernel_rfl) (by kernel_rfl) (by kernel_rfl) (argsCons (σ := sigma [6] (N + 64)) (a := .slice none 0 0) (xs := [.slice (some ⟨0, 0, none⟩) 1 1]) rfl (argsCons (σ := sigma [6] (N + 64)) (a := .slice (some ⟨0, 0, none⟩) 1 1) (xs := []) rfl rfl)).symm (by kernel_rfl) ⟨.inr ⟨(bl rfl), rfl, .inr ⟨_, _, _, rfl, rfl⟩⟩, trivial⟩ ?_
   rintro v s1 ⟨rfl, rfl⟩
   refine ⟨_, .tuple #[outV 7 (shortOf p.i11), .int .i64 0], ⟨[.cells [.int .u64 p.i11] true false 1], [outO (shortOf p.i11)], [none], [outO (shortOf p.i11)], rfl, by kernel_rfl, ⟨.inr (.inl ⟨⟨_, _, _, rfl⟩, rfl⟩), trivial⟩, ⟨new_out _ _, trivial⟩, rfl⟩, (congrArg (fun q => Value.tuple #[q, .int .i64 0]) (ren_outV (sigma1 [6] N 1 7) 1 (shortOf p.i11))).symm, ?_⟩
   refine EV.norm [3, 6, 7, 8, 38] (S2 := [(3, pT 3), (6, pT 5), (7, .func (.func 29) #[] #[pT 5]), (8, .int .u64 11), (38, .tuple #[outV 7 (shortOf p.i11), .int .i64 0])]) (A2 := hp [rb, r0, r1, pO fo fc zo zc co cc p 1 2, outO zs, .cells [outV 4 zs] false false 1, .cells [.int .u64 p.i11] false false 1, outO (shortOf p.i11)] g N) (by kernel_rfl) (by kernel_rfl) ?_
   refine EV.runS (hcS K w0) 10 [3, 6, 7, 8, 10] (S2 := [(3, pT 3), (6, pT 5), (7, .func (.func 29) #[] #[pT 5]), (8, .int .u64 11), (10, outV 7 (shortOf p.i11))]) rfl (by kernel_rfl) ?_
   refine EV.done rfl ?_
   refine V.region ?_
   refine EV.runS (hcS K w0) 3 [3, 6, 7, 8, 41, 42, 43] (S2 := [(3, pT 3), (6, pT 5), (7, .func (.func 29) #[] #[pT 5]), (8, .int .u64 11), (41, .func (.func 29) #[] #[pT 5]), (42, .int .u64 11), (43, outV 7 (shortOf p.i11))]) rfl (by kernel_rfl) ?_
   refine EV.callh (fs := #[]) (vs := [.int .u64 11, outV 7 (shortOf p.i11)]) (cs := #[pT 5]) [7, 5, 4] (f29_fh (zs := zs) (zv := shortOf p.i11) (rowF_out (shortOf_byte _ hn11.1)) 11 hzsb (shortOf_byte _ hn11.1) (by omega) (shortOf_ne (clsN_small hn11.2)) (by omega) (by have := shortOf_le p.i11; omega)) rfl rfl rfl (by kernel_rfl) (by kernel_rfl) (by kernel_rfl) (by kernel_rfl) (argsCons (σ := sigma [7, 5, 4] (N + 64)) (a := .int .u64 11) (xs := [outV 0 (shortOf p.i11), pT 1]) rfl (argsCons (σ := sigma [7, 5, 4] (N + 64)) (a := outV 0 (shortOf p.i11)) (xs := [pT 1]) (ren_outV (sigma [7, 5, 4] (N + 64)) 0 (shortOf p.i11)) (argsCons (σ := sigma [7, 5, 4] (N + 64)) (a := pT 1) (xs := []) rfl rfl))).symm (by kernel_rfl) ⟨view_out _ rfl (bl rfl), .inr ⟨(bl rfl), rfl, .inl (ren_cells (argsCons (a := outV 2 zs) (xs := []) (ren_outV (sigma [7, 5, 4] (N + 64)) 2 zs) rfl)).symm⟩, part_out _ rfl (bl rfl), trivial⟩ ?_
   rintro v s1 ⟨rfl, rfl⟩
   refine ⟨_, .tuple #[], ⟨[outR (shortOf p.i11), .cells [outV 3 (zs ++ encL [11, ((shortOf p.i11).length : Int)] ++ shortOf p.i11)] false false 1, deadO zs], [outO (zs ++ encL [11, ((shortOf p.i11).length : Int)] ++ shortOf p.i11)], [none, some (.cells [outV 8 (zs ++ encL [11, ((shortOf p.i11).length : Int)] ++ shortOf p.i11)] false false 1), deadU zs], [outO (zs ++ encL [11, ((shortOf p.i11).length : Int)] ++ shortOf p.i11)], rfl, by kernel_rfl, ⟨start_row (rowF_out (shortOf_byte _ hn11.1)), .inr (.inr ⟨rfl, _, rfl, .inl ⟨fun h => Bool.noConfusion h, (ren_cells (argsCons (a := outV 3 (zs ++ encL [11, ((shortOf p.i11).length : Int)] ++ shortOf p.i11)) (xs := []) (ren_outV (sigma1 [7, 5, 4] N 3 8) 3 (zs ++ encL [11, ((shortOf p.i11).length : Int)] ++ shortOf p.i11)) rfl)).symm⟩⟩), start_out zs, trivial⟩, ⟨new_out _ _, trivial⟩, rfl⟩, rfl, ?_⟩
   refine EV.norm [3, 6, 7, 8] (S2 := [(3, pT 3), (6, pT 5), (7, .func (.func 29) #[] #[pT 5]), (8, .int .u64 11)]) (A2 := hp [rb, r0, r1, pO fo fc zo zc co cc p 1 2, deadO zs, .cells [outV 8 (zs ++ encL [11, ((shortOf p.i11).length : Int)] ++ shortOf p.i11)] false false 1, .cells [.int .u64 p.i11] false false 1, outO (shortOf p.i11), outO (zs ++ encL [11, ((shortOf p.i11).length : Int)] ++ shortOf p.i11)] g N) (by kernel_rfl) (congrArg (fun q => hp (q ++ [outO (zs ++ encL [11, ((shortOf p.i11).length : Int)] ++ shortOf p.i11)]) g N) (upd_dead (s := [rb, r0, r1, pO fo fc zo zc co cc p 1 2, outO zs, .cells [outV 8 (zs ++ encL [11, ((shortOf p.i11).length : Int)] ++ shortOf p.i11)] false false 1, .cells [.int .u64 p.i11] false false 1, outO (shortOf p.i11)]) (k := 4) (l := []) (us := []) (zs := zs) rfl (bl rfl))) ?_
   refine EV.reng hB [0, 1, 2, 3, 64, 5, 64, 64, 4] [0, 1, 2, 3, 8, 5] [3, 6, 7, 8] (S2 := [(3, pT 3), (6, pT 5), (7, .func (.func 29) #[] #[pT 5]), (8, .int .u64 11)]) (s2 := [rb, r0, r1, pO fo fc zo zc co cc p 1 2, outO (zs ++ encL [11, ((shortOf p.i11).length : Int)] ++ shortOf p.i11), .cells [outV 4 (zs ++ encL [11, ((shortOf p.i11).length : Int)] ++ shortOf p.i11)] false false 1]) (by kernel_rfl) (by kernel_rfl) ⟨.inr ⟨(bl rfl), .inl ((hrb.obj _).symm)⟩, .inr ⟨(bl rfl), .inl ((hro.obj _).symm)⟩, .inr ⟨(bl rfl), .inl ((hrc.obj _).symm)⟩, .inr ⟨(bl rfl), .inl ((ren_pcl (τ := tau [0, 1, 2, 3, 64, 5, 64, 64, 4] N) (vo := .slice (fo 1) zo.length co) (vc := .slice (fc 2) zc.length cc) (hro.ren _ 1) (hrc.ren _ 2)).symm)⟩, .inl (by decide), .inr ⟨(bl rfl), .inl ((ren_cells (argsCons (a := outV 8 (zs ++ encL [11, ((shortOf p.i11).length : Int)] ++ shortOf p.i11)) (xs := []) (ren_outV (tau [0, 1, 2, 3, 64, 5, 64, 64, 4] N) 8 (zs ++ encL [11, ((shortOf p.i11).length : Int)] ++ shortOf p.i11)) rfl)).symm)⟩, .inl (by decide), .inl (by decide), .inr ⟨(bl rfl), .inl ((renO_outO _ _).symm)⟩, trivial⟩ (renS_cons (rfl) (renS_cons (rfl) (renS_cons (rfl) (renS_cons (rfl) rfl)))) ?_
   intro g N hB
   refine EV.done rfl ?_
   refine thenV_n ?_
   refine V.seq ?_
   refine V.sr ?_
   refine EV.run (hcS K w0) 3 [3, 6, 7, 8, 12] (S2 := [(3, pT 3), (6, pT 5), (7, .func (.func 29) #[] #[pT 5]), (8, .int .u64 11), (12, .pointer none)]) (A2 := hp [rb, r0, r1, pO fo fc zo zc co cc p 1 2, outO (zs ++ encL [11, ((shortOf p.i11).length : Int)] ++ shortOf p.i11), .cells [outV 4 (zs ++ encL [11, ((shortOf p.i11).length : Int)] ++ shortOf p.i11)] false false 1] g N) rfl (by kernel_rfl) ?_
   refine EV.done rfl ?_
   refine V.sr ?_
   refine EV.runS (hcS K w0) 9 [3, 6, 7, 8, 12, 55] (S2 := [(3, pT 3), (6, pT 5), (7, .func (.func 29) #[] #[pT 5]), (8, .int .u64 11), (12, .pointer none), (55, .bool false)]) rfl (by kernel_rfl) ?_
   refine EV.done rfl ?_
   refine V.cond false (by kernel_rfl) (fun h => Bool.noConfusion h) (fun _ => ?_)
   refine V.skip ?_
   refine thenV_n ?_
   refine V.sr ?_
   refine EV.runS (hcS K w0) 6 [3, 6, 7, 8, 67] (S2 := [(3, pT 3), (6, pT 5), (7, .func (.func 29) #[] #[pT 5]), (8, .int .u64 11), (67, .bool false)]) rfl (by kernel_rfl) ?_
   refine EV.done rfl ?_
   refine V.cond false (by kernel_rfl) (fun h => Bool.noConfusion h) (fun _ => ?_)
   refine V.skip ?_
   refine blockQ_n ?_
   refine thenV_n ?_
   refine V.region ?_
   refine EV.runS (hcS K w0) 3 [3, 6, 7, 8] (S2 := [(3, pT 3), (6, pT 5), (7, .func (.func 29) #[] #[pT 5]), (8, .int .u64 12)]) rfl (by kernel_rfl) ?_
   refine EV.done rfl ?_
   exact loopV_n 5 (by decide) ⟨12, (zs ++ encL [11, ((shortOf p.i11).length : Int)] ++ shortOf p.i11), g, N, rfl, by decide, by rw [hinv]; (have hz : ¬ p.i11 = 0 := by (simp at h12; omega)); simp [upB, itemB, putB, hz, PN.num], hB, rfl, rfl⟩
  ·
   refine V.skip ?_
   refine thenV_n ?_
   refine V.seq ?_
   refine V.sr ?_
   refine EV.runS (hcS K w0) 3 [3, 6, 7, 8, 12] (S2 := [(3, pT 3), (6, pT 5), (7, .func (.func 29) #[] #[pT 5]), (8, .int .u64 11), (12, .pointer none)]) rfl (by kernel_rfl) ?_
   refine EV.done rfl ?_
   refine V.sr ?_
   refine EV.runS (hcS K w0) 9 [3, 6, 7, 8, 12, 55] (S2 := [(3, pT 3), (6, pT 5), (7, .func (.func 29) #[] #[pT 5]), (8, .int .u64 11), (12, .pointer none), (55, .bool false)]) rfl (by kernel_rfl) ?_
   refine EV.done rfl ?_
   refine V.cond false (by kernel_rfl) (fun h => Bool.noConfusion h) (fun _ => ?_)
   refine V.skip ?_
   refine thenV_n ?_
   refine V.sr ?_
   refine EV.runS (hcS K w0) 6 [3, 6, 7, 8, 67] (S2 := [(3, pT 3), (6, pT 5), (7, .func (.func 29) #[] #[pT 5]), (8, .int .u64 11), (67, .bool false)]) rfl (by kernel_rfl) ?_
   refine EV.done rfl ?_
   refine V.cond false (by kernel_rfl) (fun h => Bool.noConfusion h) (fun _ => ?_)
   refine V.skip ?_
   refine blockQ_n ?_
   refine thenV_n ?_
   refine V.region ?_
   refine EV.runS (hcS K w0) 3 [3, 6, 7, 8] (S2 := [(3, pT 3), (6, pT 5), (7, .func (.func 29) #[] #[pT 5]), (8, .int .u64 12)]) rfl (by kernel_rfl) ?_
   refine EV.done rfl ?_
   exact loopV_n 5 (by decide) ⟨12, zs, g, N, rfl, by decide, by rw [hinv]; (have hz : p.num 11 = 0 := by (show p.i11 = 0; have := hn11.1; simp at h12; omega)); simp [upB, itemB, hz], hB, rfl, rfl⟩
 ·
  obtain rfl : k = 5 := by omega
  refine V.seq ?_
  refine V.sr ?_
  refine EV.run (hcS K w0) 2 [3, 6, 7, 8, 20] (S2 := [(3, pT 3), (6, pT 5), (7, .func (.func 29) #[] #[pT 5]), (8, .int .u64 12), (20, .bool true)]) (A2 := hp [rb, r0, r1, pO fo fc zo zc co cc p 1 2, outO zs, .cells [outV 4 zs] false false 1] g N) rfl (by kernel_rfl) ?_
  refine EV.done rfl ?_
  refine V.cond true (by kernel_rfl) (fun _ => ?_) (fun h => Bool.noConfusion h)
  refine V.skip ?_
  refine thenV_n ?_
  refine V.seq ?_
  refine V.block ?_
  refine V.seq ?_
  refine V.sr ?_
  refine EV.runS (hcS K w0) 3 [3, 6, 7, 8, 9] (S2 := [(3, pT 3), (6, pT 5), (7, .func (.func 29) #[] #[pT 5]), (8, .int .u64 12), (9, .pointer none)]) rfl (by kernel_rfl) ?_
  refine EV.done rfl ?_
  refine V.sr ?_
  refine EV.runS (hcS K w0) 8 [3, 6, 7, 8, 9, 32] (S2 := [(3, pT 3), (6, pT 5), (7, .func (.func 29) #[] #[pT 5]), (8, .int .u64 12), (9, .pointer none), (32, .bool false)]) rfl (by kernel_rfl) ?_
  refine EV.done rfl ?_
  refine V.cond false (by kernel_rfl) (fun h => Bool.noConfusion h) (fun _ => ?_)
  refine V.skip ?_
  refine thenV_n ?_
  refine V.seq ?_
  refine V.sr ?_
  refine EV.runS (hcS K w0) 3 [3, 6, 7, 8, 12] (S2 := [(3, pT 3), (6, pT 5), (7, .func (.func 29) #[] #[pT 5]), (8, .int .u64 12), (12, .pointer none)]) rfl (by kernel_rfl) ?_
  refine EV.done rfl ?_
  refine V.sr ?_
  refine EV.runS (hcS K w0) 9 [3, 6, 7, 8, 12, 55] (S2 := [(3, pT 3), (6, pT 5), (7, .func (.func 29) #[] #[pT 5]), (8, .int .u64 12), (12, .pointer none), (55, .bool false)]) rfl (by kernel_rfl) ?_
  refine EV.done rfl ?_
  refine V.cond false (by kernel_rfl) (fun h => Bool.noConfusion h) (fun _ => ?_)
  refine V.skip ?_
  refine thenV_n ?_
  refine V.sr ?_
  refine EV.runS (hcS K w0) 6 [3, 6, 7, 8, 67] (S2 := [(3, pT 3), (6, pT 5), (7, .func (.func 29) #[] #[pT 5]), (8, .int .u64 12), (67, .bool false)]) rfl (by kernel_rfl) ?_
  refine EV.done rfl ?_
  refine V.cond false (by kernel_rfl) (fun h => Bool.noConfusion h) (fun _ => ?_)
  refine V.skip ?_
  refine blockQ_n ?_
  refine thenV_n ?_
  refine V.region ?_
  refine EV.runS (hcS K w0) 3 [3, 6, 7, 8] (S2 := [(3, pT 3), (6, pT 5), (7, .func (.func 29) #[] #[pT 5]), (8, .int .u64 13)]) rfl (by kernel_rfl) ?_
  refine EV.done rfl ?_
  exact loopV_n 4 (by decide) ⟨13, zs, g, N, rfl, by decide, by rw [hinv]; simp [upB, itemB, PN.num], hB, rfl, rfl⟩
 ·
  obtain rfl : k = 4 := by omega
  refine V.seq ?_
  refine V.sr ?_
  refine EV.run (hcS K w0) 2 [3, 6, 7, 8, 20] (S2 := [(3, pT 3), (6, pT 5), (7, .func (.func 29) #[] #[pT 5]), (8, .int .u64 13), (20, .bool true)]) (A2 := hp [rb, r0, r1, pO fo fc zo zc co cc p 1 2, outO zs, .cells [outV 4 zs] false false 1] g N) rfl (by kernel_rfl) ?_
  refine EV.done rfl ?_
  refine V.cond true (by kernel_rfl) (fun _ => ?_) (fun h => Bool.noConfusion h)
  refine V.skip ?_
  refine thenV_n ?_
  refine V.seq ?_
  refine V.block ?_
  refine V.seq ?_
  refine V.sr ?_
  refine EV.runS (hcS K w0) 3 [3, 6, 7, 8, 9] (S2 := [(3, pT 3), (6, pT 5), (7, .func (.func 29) #[] #[pT 5]), (8, .int .u64 13), (9, .pointer none)]) rfl (by kernel_rfl) ?_
  refine EV.done rfl ?_
  refine V.sr ?_
  refine EV.runS (hcS K w0) 8 [3, 6, 7, 8, 9, 32] (S2 := [(3, pT 3), (6, pT 5), (7, .func (.func 29) #[] #[pT 5]), (8, .int .u64 13), (9, .pointer none), (32, .bool false)]) rfl (by kernel_rfl) ?_
  refine EV.done rfl ?_
  refine V.cond false (by kernel_rfl) (fun h => Bool.noConfusion h) (fun _ => ?_)
  refine V.skip ?_
  refine thenV_n ?_
  refine V.seq ?_
  refine V.sr ?_
  refine EV.runS (hcS K w0) 3 [3, 6, 7, 8, 12] (S2 := [(3, pT 3), (6, pT 5), (7, .func (.func 29) #[] #[pT 5]), (8, .int .u64 13), (12, .pointer none)]) rfl (by kernel_rfl) ?_
  refine EV.done rfl ?_
  refine V.sr ?_
  refine EV.runS (hcS K w0) 9 [3, 6, 7, 8, 12, 55] (S2 := [(3, pT 3), (6, pT 5), (7, .func (.func 29) #[] #[pT 5]), (8, .int .u64 13), (12, .pointer none), (55, .bool false)]) rfl (by kernel_rfl) ?_
  refine EV.done rfl ?_
  refine V.cond false (by kernel_rfl) (fun h => Bool.noConfusion h) (fun _ => ?_)
  refine V.skip ?_
  refine thenV_n ?_
  refine V.sr ?_
  refine EV.runS (hcS K w0) 6 [3, 6, 7, 8, 67] (S2 := [(3, pT 3), (6, pT 5), (7, .func (.func 29) #[] #[pT 5]), (8, .int .u64 13), (67, .bool false)]) rfl (by kernel_rfl) ?_
  refine EV.done rfl ?_
  refine V.cond false (by kernel_rfl) (fun h => Bool.noConfusion h) (fun _ => ?_)
  refine V.skip ?_
  refine blockQ_n ?_
  refine thenV_n ?_
  refine V.region ?_
  refine EV.runS (hcS K w0) 3 [3, 6, 7, 8] (S2 := [(3, pT 3), (6, pT 5), (7, .func (.func 29) #[] #[pT 5]), (8, .int .u64 14)]) rfl (by kernel_rfl) ?_
  refine EV.done rfl ?_
  exact loopV_n 3 (by decide) ⟨14, zs, g, N, rfl, by decide, by rw [hinv]; simp [upB, itemB, PN.num], hB, rfl, rfl⟩
 ·
  obtain rfl : k = 3 := by omega
  refine V.seq ?_
  refine V.sr ?_
  refine EV.run (hcS K w0) 2 [3, 6, 7, 8, 20] (S2 := [(3, pT 3), (6, pT 5), (7, .func (.func 29) #[] #[pT 5]), (8, .int .u64 14), (20, .bool true)]) (A2 := hp [rb, r0, r1, pO fo fc zo zc co cc p 1 2, outO zs, .cells [outV 4 zs] false false 1] g N) rfl (by kernel_rfl) ?_
  refine EV.done rfl ?_
  refine V.cond true (by kernel_rfl) (fun _ => ?_) (fun h => Bool.noConfusion h)
  refine V.skip ?_
  refine thenV_n ?_
  refine V.seq ?_
  refine V.block ?_
  refine V.seq ?_
  refine V.sr ?_
  refine EV.runS (hcS K w0) 3 [3, 6, 7, 8, 9] (S2 := [(3, pT 3), (6, pT 5), (7, .func (.func 29) #[] #[pT 5]), (8, .int .u64 14), (9, .pointer (some ⟨3, 10, none⟩))]) rfl (by kernel_rfl) ?_
  refine EV.done rfl ?_
  refine V.sr ?_
  refine EV.runS (hcS K w0) 8 [3, 6, 7, 8, 9, 32] (S2 := [(3, pT 3), (6, pT 5), (7, .func (.func 29) #[] #[pT 5]), (8, .int .u64 14), (9, .pointer (some ⟨3, 10, none⟩)), (32, .bool (decide (p.i14 > 0)))]) rfl (by kernel_rfl) ?_
  refine EV.done rfl ?_
  refine V.cond (decide (p.i14 > 0)) (by kernel_rfl) (fun h13 => ?_) (fun h13 => ?_)
  ·
   refine V.sr ?_
   refine EV.run (hcS K w0) 4 [3, 6, 7, 8, 37] (S2 := [(3, pT 3), (6, pT 5), (7, .func (.func 29) #[] #[pT 5]), (8, .int .u64 14), (37, .slice (some ⟨6, 0, none⟩) 1 1)]) (A2 := hp [rb, r0, r1, pO fo fc zo zc co cc p 1 2, outO zs, .cells [outV 4 zs] false false 1, .cells [.int .u64 p.i14] false false 1] g N) rfl (by kernel_rfl) ?_
   refine EV.callh (fs := #[]) (vs := [.slice none 0 0, .slice (some ⟨6, 0, none⟩) 1 1]) (cs := #[]) [6] (f17n_fh p.i14 hn14) rfl rfl rfl (by kernel_rfl) (by kernel_rfl) (by kernel_rfl) (by kernel_rfl) (argsCons (σ := sigma [6] (N + 64)) (a := .slice none 0 0) (xs := [.slice (some ⟨0, 0, none⟩) 1 1]) rfl (argsCons (σ := sigma [6] (N + 64)) (a := .slice (some ⟨0, 0, none⟩) 1 1) (xs := []) rfl rfl)).symm (by kernel_rfl) ⟨.inr ⟨(bl rfl), rfl, .inr ⟨_, _, _, rfl, rfl⟩⟩, trivial⟩ ?_
   rintro v s1 ⟨rfl, rfl⟩
   refine ⟨_, .tuple #[outV 7 (shortOf p.i14), .int .i64 0], ⟨[.cells [.int .u64 p.i14] true false 1], [outO (shortOf p.i14)], [none], [outO (shortOf p.i14)], rfl, by kernel_rfl, ⟨.inr (.inl ⟨⟨_, _, _, rfl⟩, rfl⟩), trivial⟩, ⟨new_out _ _, trivial⟩, rfl⟩, (congrArg (fun q => Value.tuple #[q, .int .i64 0]) (ren_outV (sigma1 [6] N 1 7) 1 (shortOf p.i14))).symm, ?_⟩
   refine EV.norm [3, 6, 7, 8, 38] (S2 := [(3, pT 3), (6, pT 5), (7, .func (.func 29) #[] #[pT 5]), (8, .int .u64 14), (38, .tuple #[outV 7 (shortOf p.i14), .int .i64 0])]) (A2 := hp [rb, r0, r1, pO fo fc zo zc co cc p 1 2, outO zs, .cells [outV 4 zs] false false 1, .cells [.int .u64 p.i14] false false 1, outO (shortOf p.i14)] g N) (by kernel_rfl) (by kernel_rfl) ?_
   refine EV.runS (hcS K w0) 10 [3, 6, 7, 8, 10] (S2 := [(3, pT 3), (6, pT 5), (7, .func (.func 29) #[] #[pT 5]), (8, .int .u64 14), (10, outV 7 (shortOf p.i14))]) rfl (by kernel_rfl) ?_
   refine EV.done rfl ?_
   refine V.region ?_
   refine EV.runS (hcS K w0) 3 [3, 6, 7, 8, 41, 42, 43] (S2 := [(3, pT 3), (6, pT 5), (7, .func (.func 29) #[] #[pT 5]), (8, .int .u64 14), (41, .func (.func 29) #[] #[pT 5]), (42, .int .u64 14), (43, outV 7 (shortOf p.i14))]) rfl (by kernel_rfl) ?_
   refine EV.callh (fs := #[]) (vs := [.int .u64 14, outV 7 (shortOf p.i14)]) (cs := #[pT 5]) [7, 5, 4] (f29_fh (zs := zs) (zv := shortOf p.i14) (rowF_out (shortOf_byte _ hn14.1)) 14 hzsb (shortOf_byte _ hn14.1) (by omega) (shortOf_ne (clsN_small hn14.2)) (by omega) (by have := shortOf_le p.i14; omega)) rfl rfl rfl (by kernel_rfl) (by kernel_rfl) (by kernel_rfl) (by kernel_rfl) (argsCons (σ := sigma [7, 5, 4] (N + 64)) (a := .int .u64 14) (xs := [outV 0 (shortOf p.i14), pT 1]) rfl (argsCons (σ := sigma [7, 5, 4] (N + 64)) (a := outV 0 (shortOf p.i14)) (xs := [pT 1]) (ren_outV (sigma [7, 5, 4] (N + 64)) 0 (shortOf p.i14)) (argsCons (σ := sigma [7, 5, 4] (N + 64)) (a := pT 1) (xs := []) rfl rfl))).symm (by kernel_rfl) ⟨view_out _ rfl (bl rfl), .inr ⟨(bl rfl), rfl, .inl (ren_cells (argsCons (a := outV 2 zs) (xs := []) (ren_outV (sigma [7, 5, 4] (N + 64)) 2 zs) rfl)).symm⟩, part_out _ rfl (bl rfl), trivial⟩ ?_
   rintro v s1 ⟨rfl, rfl⟩
   refine ⟨_, .tuple #[], ⟨[outR (shortOf p.i14), .cells [outV 3 (zs ++ encL [14, ((shortOf p.i14).length : Int)] ++ shortOf p.i14)] false false 1, deadO zs], [outO (zs ++ encL [14, ((shortOf p.i14).length : Int)] ++ shortOf p.i14)], [none, some (.cells [outV 8 (zs ++ encL [14, ((shortOf p.i14).length : Int)] ++ shortOf p.i14)] false false 1), deadU zs], [outO (zs ++ encL [14, ((shortOf p.i14).length : Int)] ++ shortOf p.i14)], rfl, by kernel_rfl, ⟨start_row (rowF_out (shortOf_byte _ hn14.1)), .inr (.inr ⟨rfl, _, rfl, .inl ⟨fun h => Bool.noConfusion h, (ren_cells (argsCons (a := outV 3 (zs ++ encL [14, ((shortOf p.i14).length : Int)] ++ shortOf p.i14)) (xs := []) (ren_outV (sigma1 [7, 5, 4] N 3 8) 3 (zs ++ encL [14, ((shortOf p.i14).length : Int)] ++ shortOf p.i14)) rfl)).symm⟩⟩), start_out zs, trivial⟩, ⟨new_out _ _, trivial⟩, rfl⟩, rfl, ?_⟩
   refine EV.norm [3, 6, 7, 8] (S2 := [(3, pT 3), (6, pT 5), (7, .func (.func 29) #[] #[pT 5]), (8, .int .u64 14)]) (A2 := hp [rb, r0, r1, pO fo fc zo zc co cc p 1 2, deadO zs, .cells [outV 8 (zs ++ encL [14, ((shortOf p.i14).length : Int)] ++ shortOf p.i14)] false false 1, .cells [.int .u64 p.i14] false false 1, outO (shortOf p.i14), outO (zs ++ encL [14, ((shortOf p.i14).length : Int)] ++ shortOf p.i14)] g N) (by kernel_rfl) (congrArg (fun q => hp (q ++ [outO (zs ++ encL [14, ((shortOf p.i14).length : Int)] ++ shortOf p.i14)]) g N) (upd_dead (s := [rb, r0, r1, pO fo fc zo zc co cc p 1 2, outO zs, .cells [outV 8 (zs ++ encL [14, ((shortOf p.i14).length : Int)] ++ shortOf p.i14)] false false 1, .cells [.int .u64 p.i14] false false 1, outO (shortOf p.i14)]) (k := 4) (l := []) (us := []) (zs := zs) rfl (bl rfl))) ?_
   refine EV.reng hB [0, 1, 2, 3, 64, 5, 64, 64, 4] [0, 1, 2, 3, 8, 5] [3, 6, 7, 8] (S2 := [(3, pT 3), (6, pT 5), (7, .func (.func 29) #[] #[pT 5]), (8, .int .u64 14)]) (s2 := [rb, r0, r1, pO fo fc zo zc co cc p 1 2, outO (zs ++ encL [14, ((shortOf p.i14).length : Int)] ++ shortOf p.i14), .cells [outV 4 (zs ++ encL [14, ((shortOf p.i14).length : Int)] ++ shortOf p.i14)] false false 1]) (by kernel_rfl) (by kernel_rfl) ⟨.inr ⟨(bl rfl), .inl ((hrb.obj _).symm)⟩, .inr ⟨(bl rfl), .inl ((hro.obj _).symm)⟩, .inr ⟨(bl rfl), .inl ((hrc.obj _).symm)⟩, .inr ⟨(bl rfl), .inl ((ren_pcl (τ := tau [0, 1, 2, 3, 64, 5, 64, 64, 4] N) (vo := .slice (fo 1) zo.length co) (vc := .slice (fc 2) zc.length cc) (hro.ren _ 1) (hrc.ren _ 2)).symm)⟩, .inl (by decide), .inr ⟨(bl rfl), .inl ((ren_cells (argsCons (a := outV 8 (zs ++ encL [14, ((shortOf p.i14).length : Int)] ++ shortOf p.i14)) (xs := []) (ren_outV (tau [0, 1, 2, 3, 64, 5, 64, 64, 4] N) 8 (zs ++ encL [14, ((shortOf p.i14).length : Int)] ++ shortOf p.i14)) rfl)).symm)⟩, .inl (by decide), .inl (by decide), .inr ⟨(bl rfl), .inl ((renO_outO _ _).symm)⟩, trivial⟩ (renS_cons (rfl) (renS_cons (rfl) (renS_cons (rfl) (renS_cons (rfl) rfl)))) ?_
   intro g N hB
   refine EV.done rfl ?_
   refine thenV_n ?_
   refine V.seq ?_
   refine V.sr ?_
   refine EV.run (hcS K w0) 3 [3, 6, 7, 8, 12] (S2 := [(3, pT 3), (6, pT 5), (7, .func (.func 29) #[] #[pT 5]), (8, .int .u64 14), (12, .pointer none)]) (A2 := hp [rb, r0, r1, pO fo fc zo zc co cc p 1 2, outO (zs ++ encL [14, ((shortOf p.i14).length : Int)] ++ shortOf p.i14), .cells [outV 4 (zs ++ encL [14, ((shortOf p.i14).length : Int)] ++ shortOf p.i14)] false false 1] g N) rfl (by kernel_rfl) ?_
   refine EV.done rfl ?_
   refine V.sr ?_
   refine EV.runS (hcS K w0) 9 [3, 6, 7, 8, 12, 55] (S2 := [(3, pT 3), (6, pT 5), (7, .func (.func 29) #[] #[pT 5]), (8, .int .u64 14), (12, .pointer none), (55, .bool false)]) rfl (by kernel_rfl) ?_
   refine EV.done rfl ?_
   refine V.cond false (by kernel_rfl) (fun h => Bool.noConfusion h) (fun _ => ?_)
   refine V.skip ?_
   refine thenV_n ?_
   refine V.sr ?_
   refine EV.runS (hcS K w0) 6 [3, 6, 7, 8, 67] (S2 := [(3, pT 3), (6, pT 5), (7, .func (.func 29) #[] #[pT 5]), (8, .int .u64 14), (67, .bool false)]) rfl (by kernel_rfl) ?_
   refine EV.done rfl ?_
   refine V.cond false (by kernel_rfl) (fun h => Bool.noConfusion h) (fun _ => ?_)
   refine V.skip ?_
   refine blockQ_n ?_
   refine thenV_n ?_
   refine V.region ?_
   refine EV.runS (hcS K w0) 3 [3, 6, 7, 8] (S2 := [(3, pT 3), (6, pT 5), (7, .func (.func 29) #[] #[pT 5]), (8, .int .u64 15)]) rfl (by kernel_rfl) ?_
   refine EV.done rfl ?_
   exact loopV_n 2 (by decide) ⟨15, (zs ++ encL [14, ((shortOf p.i14).length : Int)] ++ shortOf p.i14), g, N, rfl, by decide, by rw [hinv]; (have hz : ¬ p.i14 = 0 := by (simp at h13; omega)); simp [upB, itemB, putB, hz, PN.num], hB, rfl, rfl⟩
  ·
   refine V.skip ?_
   refine thenV_n ?_
   refine V.seq ?_
   refine V.sr ?_
   refine EV.runS (hcS K w0) 3 [3, 6, 7, 8, 12] (S2 := [(3, pT 3), (6, pT 5), (7, .func (.func 29) #[] #[pT 5]), (8, .int .u64 14), (12, .pointer none)]) rfl (by kernel_rfl) ?_
   refine EV.done rfl ?_
   refine V.sr ?_
   refine EV.runS (hcS K w0) 9 [3, 6, 7, 8, 12, 55] (S2 := [(3, pT 3), (6, pT 5), (7, .func (.func 29) #[] #[pT 5]), (8, .int .u64 14), (12, .pointer none), (55, .bool false)]) rfl (by kernel_rfl) ?_
   refine EV.done rfl ?_
   refine V.cond false (by kernel_rfl) (fun h => Bool.noConfusion h) (fun _ => ?_)
   refine V.skip ?_
   refine thenV_n ?_
   refine V.sr ?_
   refine EV.runS (hcS K w0) 6 [3, 6, 7, 8, 67] (S2 := [(3, pT 3), (6, pT 5), (7, .func (.func 29) #[] #[pT 5]), (8, .int .u64 14), (67, .bool false)]) rfl (by kernel_rfl) ?_
   refine EV.done rfl ?_
   refine V.cond false (by kernel_rfl) (fun h => Bool.noConfusion h) (fun _ => ?_)
   refine V.skip ?_
   refine blockQ_n ?_
   refine thenV_n ?_
   refine V.region ?_
   refine EV.runS (hcS K w0) 3 [3, 6, 7, 8] (S2 := [(3, pT 3), (6, pT 5), (7, .func (.func 29) #[] #[pT 5]), (8, .int .u64 15)]) rfl (by kernel_rfl) ?_
   refine EV.done rfl ?_
   exact loopV_n 2 (by decide) ⟨15, zs, g, N, rfl, by decide, by rw [hinv]; (have hz : p.num 14 = 0 := by (show p.i14 = 0; have := hn14.1; simp at h13; omega)); simp [upB, itemB, hz], hB, rfl, rfl⟩
 ·
  obtain rfl : k = 2 := by omega
  rcases (show zc = [] ∨ ¬ zc = [] from Classical.em _) with hvne | hvne
  ·
   have hlen : decide (((zc.length : Nat) : Int) > 0) = false := by rw [hvne]; rfl
   refine V.seq ?_
   refine V.sr ?_
   refine EV.run (hcS K w0) 2 [3, 6, 7, 8, 20] (S2 := [(3, pT 3), (6, pT 5), (7, .func (.func 29) #[] #[pT 5]), (8, .int .u64 15), (20, .bool true)]) (A2 := hp [rb, r0, r1, pO fo fc zo zc co cc p 1 2, outO zs, .cells [outV 4 zs] false false 1] g N) rfl (by kernel_rfl) ?_
   refine EV.done rfl ?_
   refine V.cond true (by kernel_rfl) (fun _ => ?_) (fun h => Bool.noConfusion h)
   refine V.skip ?_
   refine thenV_n ?_
   refine V.seq ?_
   refine V.block ?_
   refine V.seq ?_
   refine V.sr ?_
   refine EV.runS (hcS K w0) 3 [3, 6, 7, 8, 9] (S2 := [(3, pT 3), (6, pT 5), (7, .func (.func 29) #[] #[pT 5]), (8, .int .u64 15), (9, .pointer none)]) rfl (by kernel_rfl) ?_
   refine EV.done rfl ?_
   refine V.sr ?_
   refine EV.runS (hcS K w0) 8 [3, 6, 7, 8, 9, 32] (S2 := [(3, pT 3), (6, pT 5), (7, .func (.func 29) #[] #[pT 5]), (8, .int .u64 15), (9, .pointer none), (32, .bool false)]) rfl (by kernel_rfl) ?_
   refine EV.done rfl ?_
   refine V.cond false (by kernel_rfl) (fun h => Bool.noConfusion h) (fun _ => ?_)
   refine V.skip ?_
   refine thenV_n ?_
   refine V.seq ?_
   refine V.sr ?_
   refine EV.runS (hcS K w0) 3 [3, 6, 7, 8, 12] (S2 := [(3, pT 3), (6, pT 5), (7, .func (.func 29) #[] #[pT 5]), (8, .int .u64 15), (12, .pointer (some ⟨3, 1, none⟩))]) rfl (by kernel_rfl) ?_
   refine EV.done rfl ?_
   refine V.sr ?_
   refine EV.runS (hcS K w0) 9 [3, 6, 7, 8, 12, 55] (S2 := [(3, pT 3), (6, pT 5), (7, .func (.func 29) #[] #[pT 5]), (8, .int .u64 15), (12, .pointer (some ⟨3, 1, none⟩)), (55, .bool (decide (((zc.length : Nat) : Int) > 0)))]) rfl (by kernel_rfl) ?_
   refine EV.done rfl ?_
   have d14 : (decide (((zc.length : Nat) : Int) > 0)) = false := hlen
   refine V.cast (S2 := [(3, pT 3), (6, pT 5), (7, .func (.func 29) #[] #[pT 5]), (8, .int .u64 15), (12, .pointer (some ⟨3, 1, none⟩)), (55, .bool false)]) (by rw [d14]) rfl ?_
   refine V.cond false (by kernel_rfl) (fun h => Bool.noConfusion h) (fun _ => ?_)
   refine V.skip ?_
   refine thenV_n ?_
   refine V.sr ?_
   refine EV.run (hcS K w0) 6 [3, 6, 7, 8, 67] (S2 := [(3, pT 3), (6, pT 5), (7, .func (.func 29) #[] #[pT 5]), (8, .int .u64 15), (67, .bool false)]) (A2 := hp [rb, r0, r1, pO fo fc zo zc co cc p 1 2, outO zs, .cells [outV 4 zs] false false 1] g N) rfl (by kernel_rfl) ?_
   refine EV.done rfl ?_
   refine V.cond false (by kernel_rfl) (fun h => Bool.noConfusion h) (fun _ => ?_)
   refine V.skip ?_
   refine blockQ_n ?_
   refine thenV_n ?_
   refine V.region ?_
   refine EV.runS (hcS K w0) 3 [3, 6, 7, 8] (S2 := [(3, pT 3), (6, pT 5), (7, .func (.func 29) #[] #[pT 5]), (8, .int .u64 16)]) rfl (by kernel_rfl) ?_
   refine EV.done rfl ?_
   exact loopV_n 1 (by decide) ⟨16, zs, g, N, rfl, by decide, by rw [hinv]; simp [upB, itemB, putB, hvne], hB, rfl, rfl⟩
  ·
   have hlen := lenpos hvne
   refine V.seq ?_
   refine V.sr ?_
   refine EV.run (hcS K w0) 2 [3, 6, 7, 8, 20] (S2 := [(3, pT 3), (6, pT 5), (7, .func (.func 29) #[] #[pT 5]), (8, .int .u64 15), (20, .bool true)]) (A2 := hp [rb, r0, r1, pO fo fc zo zc co cc p 1 2, outO zs, .cells [outV 4 zs] false false 1] g N) rfl (by kernel_rfl) ?_
   refine EV.done rfl ?_
   refine V.cond true (by kernel_rfl) (fun _ => ?_) (fun h => Bool.noConfusion h)
   refine V.skip ?_
   refine thenV_n ?_
   refine V.seq ?_
   refine V.block ?_
   refine V.seq ?_
   refine V.sr ?_
   refine EV.runS (hcS K w0) 3 [3, 6, 7, 8, 9] (S2 := [(3, pT 3), (6, pT 5), (7, .func (.func 29) #[] #[pT 5]), (8, .int .u64 15), (9, .pointer none)]) rfl (by kernel_rfl) ?_
   refine EV.done rfl ?_
   refine V.sr ?_
   refine EV.runS (hcS K w0) 8 [3, 6, 7, 8, 9, 32] (S2 := [(3, pT 3), (6, pT 5), (7, .func (.func 29) #[] #[pT 5]), (8, .int .u64 15), (9, .pointer none), (32, .bool false)]) rfl (by kernel_rfl) ?_
   refine EV.done rfl ?_
   refine V.cond false (by kernel_rfl) (fun h => Bool.noConfusion h) (fun _ => ?_)
   refine V.skip ?_
   refine thenV_n ?_
   refine V.seq ?_
   refine V.sr ?_
   refine EV.runS (hcS K w0) 3 [3, 6, 7, 8, 12] (S2 := [(3, pT 3), (6, pT 5), (7, .func (.func 29) #[] #[pT 5]), (8, .int .u64 15), (12, .pointer (some ⟨3, 1, none⟩))]) rfl (by kernel_rfl) ?_
   refine EV.done rfl ?_
   refine V.sr ?_
   refine EV.runS (hcS K w0) 9 [3, 6, 7, 8, 12, 55] (S2 := [(3, pT 3), (6, pT 5), (7, .func (.func 29) #[] #[pT 5]), (8, .int .u64 15), (12, .pointer (some ⟨3, 1, none⟩)), (55, .bool (decide (((zc.length : Nat) : Int) > 0)))]) rfl (by kernel_rfl) ?_
   refine EV.done rfl ?_
   have d15 : (decide (((zc.length : Nat) : Int) > 0)) = true := hlen
   refine V.cast (S2 := [(3, pT 3), (6, pT 5), (7, .func (.func 29) #[] #[pT 5]), (8, .int .u64 15), (12, .pointer (some ⟨3, 1, none⟩)), (55, .bool true)]) (by rw [d15]) rfl ?_
   refine V.cond true (by kernel_rfl) (fun _ => ?_) (fun h => Bool.noConfusion h)
   refine V.region ?_
   refine EV.run (hcS K w0) 5 [3, 6, 7, 8, 56, 57, 60] (S2 := [(3, pT 3), (6, pT 5), (7, .func (.func 29) #[] #[pT 5]), (8, .int .u64 15), (56, .func (.func 29) #[] #[pT 5]), (57, .int .u64 15), (60, .slice (fc 2) zc.length cc)]) (A2 := hp [rb, r0, r1, pO fo fc zo zc co cc p 1 2, outO zs, .cells [outV 4 zs] false false 1] g N) rfl (by kernel_rfl) ?_
   refine EV.callh (fs := #[]) (vs := [.int .u64 15, .slice (fc 2) zc.length cc]) (cs := #[pT 5]) [2, 5, 4] (f29_fh (zs := zs) (zv := zc) hrc 15 hzsb hzcb (by omega) hvne (by omega) (by omega)) rfl rfl rfl (by kernel_rfl) (by kernel_rfl) (by kernel_rfl) (by kernel_rfl) (argsCons (σ := sigma [2, 5, 4] (N + 64)) (a := .int .u64 15) (xs := [.slice (fc 0) zc.length cc, pT 1]) rfl (argsCons (σ := sigma [2, 5, 4] (N + 64)) (a := .slice (fc 0) zc.length cc) (xs := [pT 1]) (hrc.ren (sigma [2, 5, 4] (N + 64)) 0) (argsCons (σ := sigma [2, 5, 4] (N + 64)) (a := pT 1) (xs := []) rfl rfl))).symm (by kernel_rfl) ⟨view_row _ hrc rfl (bl rfl), .inr ⟨(bl rfl), rfl, .inl (ren_cells (argsCons (a := outV 2 zs) (xs := []) (ren_outV (sigma [2, 5, 4] (N + 64)) 2 zs) rfl)).symm⟩, part_out _ rfl (bl rfl), trivial⟩ ?_
   rintro v s1 ⟨rfl, rfl⟩
   refine ⟨_, .tuple #[], ⟨[r1, .cells [outV 3 (zs ++ encL [15, ((zc).length : Int)] ++ zc)] false false 1, deadO zs], [outO (zs ++ encL [15, ((zc).length : Int)] ++ zc)], [none, some (.cells [outV 6 (zs ++ encL [15, ((zc).length : Int)] ++ zc)] false false 1), deadU zs], [outO (zs ++ encL [15, ((zc).length : Int)] ++ zc)], rfl, by kernel_rfl, ⟨start_row hrc, .inr (.inr ⟨rfl, _, rfl, .inl ⟨fun h => Bool.noConfusion h, (ren_cells (argsCons (a := outV 3 (zs ++ encL [15, ((zc).length : Int)] ++ zc)) (xs := []) (ren_outV (sigma1 [2, 5, 4] N 3 6) 3 (zs ++ encL [15, ((zc).length : Int)] ++ zc)) rfl)).symm⟩⟩), start_out zs, trivial⟩, ⟨new_out _ _, trivial⟩, rfl⟩, rfl, ?_⟩
   refine EV.norm [3, 6, 7, 8] (S2 := [(3, pT 3), (6, pT 5), (7, .func (.func 29) #[] #[pT 5]), (8, .int .u64 15)]) (A2 := hp [rb, r0, r1, pO fo fc zo zc co cc p 1 2, deadO zs, .cells [outV 6 (zs ++ encL [15, ((zc).length : Int)] ++ zc)] false false 1, outO (zs ++ encL [15, ((zc).length : Int)] ++ zc)] g N) (by kernel_rfl) (congrArg (fun q => hp (q ++ [outO (zs ++ encL [15, ((zc).length : Int)] ++ zc)]) g N) (upd_dead (s := [rb, r0, r1, pO fo fc zo zc co cc p 1 2, outO zs, .cells [outV 6 (zs ++ encL [15, ((zc).length : Int)] ++ zc)] false false 1]) (k := 4) (l := []) (us := []) (zs := zs) rfl (bl rfl))) ?_
   refine EV.reng hB [0, 1, 2, 3, 64, 5, 4] [0, 1, 2, 3, 6, 5] [3, 6, 7, 8] (S2 := [(3, pT 3), (6, pT 5), (7, .func (.func 29) #[] #[pT 5]), (8, .int .u64 15)]) (s2 := [rb, r0, r1, pO fo fc zo zc co cc p 1 2, outO (zs ++ encL [15, ((zc).length : Int)] ++ zc), .cells [outV 4 (zs ++ encL [15, ((zc).length : Int)] ++ zc)] false false 1]) (by kernel_rfl) (by kernel_rfl) ⟨.inr ⟨(bl rfl), .inl ((hrb.obj _).symm)⟩, .inr ⟨(bl rfl), .inl ((hro.obj _).symm)⟩, .inr ⟨(bl rfl), .inl ((hrc.obj _).symm)⟩, .inr ⟨(bl rfl), .inl ((ren_pcl (τ := tau [0, 1, 2, 3, 64, 5, 4] N) (vo := .slice (fo 1) zo.length co) (vc := .slice (fc 2) zc.length cc) (hro.ren _ 1) (hrc.ren _ 2)).symm)⟩, .inl (by decide), .inr ⟨(bl rfl), .inl ((ren_cells (argsCons (a := outV 6 (zs ++ encL [15, ((zc).length : Int)] ++ zc)) (xs := []) (ren_outV (tau [0, 1, 2, 3, 64, 5, 4] N) 6 (zs ++ encL [15, ((zc).length : Int)] ++ zc)) rfl)).symm)⟩, .inr ⟨(bl rfl), .inl ((renO_outO _ _).symm)⟩, trivial⟩ (renS_cons (rfl) (renS_cons (rfl) (renS_cons (rfl) (renS_cons (rfl) rfl)))) ?_
   intro g N hB
   refine EV.done rfl ?_
   refine thenV_n ?_
   refine V.sr ?_
   refine EV.run (hcS K w0) 6 [3, 6, 7, 8, 67] (S2 := [(3, pT 3), (6, pT 5), (7, .func (.func 29) #[] #[pT 5]), (8, .int .u64 15), (67, .bool false)]) (A2 := hp [rb, r0, r1, pO fo fc zo zc co cc p 1 2, outO (zs ++ encL [15, ((zc).length : Int)] ++ zc), .cells [outV 4 (zs ++ encL [15, ((zc).length : Int)] ++ zc)] false false 1] g N) rfl (by kernel_rfl) ?_
   refine EV.done rfl ?_
   refine V.cond false (by kernel_rfl) (fun h => Bool.noConfusion h) (fun _ => ?_)
   refine V.skip ?_
   refine blockQ_n ?_
   refine thenV_n ?_
   refine V.region ?_
   refine EV.runS (hcS K w0) 3 [3, 6, 7, 8] (S2 := [(3, pT 3), (6, pT 5), (7, .func (.func 29) #[] #[pT 5]), (8, .int .u64 16)]) rfl (by kernel_rfl) ?_
   refine EV.done rfl ?_
   exact loopV_n 1 (by decide) ⟨16, (zs ++ encL [15, ((zc).length : Int)] ++ zc), g, N, rfl, by decide, by rw [hinv]; simp [upB, itemB, putB, hvne], hB, rfl, rfl⟩
 ·
  obtain rfl : k = 1 := by omega
  refine V.seq ?_
  refine V.sr ?_
  refine EV.run (hcS K w0) 2 [3, 6, 7, 8, 20] (S2 := [(3, pT 3), (6, pT 5), (7, .func (.func 29) #[] #[pT 5]), (8, .int .u64 16), (20, .bool false)]) (A2 := hp [rb, r0, r1, pO fo fc zo zc co cc p 1 2, outO zs, .cells [outV 4 zs] false false 1] g N) rfl (by kernel_rfl) ?_
  refine EV.done rfl ?_
  refine V.cond false (by kernel_rfl) (fun h => Bool.noConfusion h) (fun _ => ?_)
  refine V.exit ?_
  refine thenV_e ?_
  refine loopV_e ?_
  refine blockQ_hit ?_
  refine thenV_n ?_
  refine V.sr ?_
  refine EV.run (hcS K w0) 3 [4, 5] (S2 := [(4, outV 4 zs), (5, .int .i64 0)]) (A2 := hp [rb, r0, r1, pO fo fc zo zc co cc p 1 2, outO zs, .cells [outV 4 zs] false false 1] g N) rfl (by kernel_rfl) ?_
  refine EV.done rfl ?_
  refine V.ret ?_
  exact EndsH_r hB [outV 4 zs, .int .i64 0] [0, 1, 2, 64, 3, 64] [0, 1, 2, 4] [rb, r0, r1, outO zs] (.tuple #[outV 3 zs, .int .i64 0]) (by kernel_rfl) (by kernel_rfl) (by kernel_rfl) ⟨.inr ⟨(bl rfl), .inl (hrb.obj _).symm⟩, .inr ⟨(bl rfl), .inl (hro.obj _).symm⟩, .inr ⟨(bl rfl), .inl (hrc.obj _).symm⟩, .inl (by decide), .inr ⟨(bl rfl), .inl (renO_outO _ _).symm⟩, .inl (by decide), trivial⟩ (congrArg (fun q => Value.tuple #[q, .int .i64 0]) (ren_outV (tau [0, 1, 2, 64, 3, 64] N) 4 zs)) (shut_intro rfl fun τ hτ => ⟨by show Value.tuple #[ren τ (outV 3 zs), .int .i64 0] = _; rw [ren_outV, hτ 3 (by decide)], .inr (hrb.obj _), .inr (hro.obj _), .inr (hrc.obj _), .inr (renO_outO _ _), trivial⟩) (by rw [hinv]; exact ⟨rfl, rfl⟩)
end Go.Proofs.Ytioggedadamoaaa
