/- param: ParamAppends. -/
import Derived.Test.YtioggedadamoaaaTiPl
import Derived.Test.YtioggedadamoaaaTiPi
set_option autoImplicit false
set_option linter.unusedVariables false
set_option linter.unusedSimpArgs false
namespace Go.Proofs.Ytioggedadamoaaa
open Go.Abs Go.RowKit
theorem small3 {a b c : Nat} (hl : a + b + c < 4611686018427387904) (h : decide (IntKind.wrap .i64 (IntKind.wrap .i64 (((a : Nat) : Int) + ((b : Nat) : Int)) + ((c : Nat) : Int)) > 1000) = false) : a ≤ 1000 := by
  rw [wrap_i64 (x := (a : Int) + (b : Int)) (by omega) (by omega), wrap_i64 (by omega) (by omega)] at h
  simp at h
  omega
set_option maxHeartbeats 8000000 in
theorem f6_bad {rb r0 r1 : AObj} {fb fo fc : Nat → Option Addr} {zb zo zc : List Int} {cb co cc : Nat} (hrb : RowF rb fb zb cb) (hro : RowF r0 fo zo co) (hrc : RowF r1 fc zc cc) (p : PN) (hpo : p.Ok) (hlen3 : zb.length + zo.length + zc.length < 4611686018427387904) (hm : mayP zo zc p = false) : FH Try.prog 6 [rb, r0, r1] [.slice (fb 0) zb.length cb, .agg (pcl (.slice (fo 1) zo.length co) (.slice (fc 2) zc.length cc) p).toArray] (fun v s1 => v = .bool true ∧ s1 = [rb, r0, r1]) := by
  refine V.fnh (fn := Try.f6) Try.func6 (by kernel_rfl) rfl rfl fun K w0 g N hB => ?_
  refine V.sr ?_
  refine EV.run (hcS K w0) 2 [0, 3] (S2 := [(0, .slice (fb 0) zb.length cb), (3, pT 3)]) (A2 := hp [rb, r0, r1, pO fo fc zo zc co cc p 1 2] g N) rfl (by kernel_rfl) ?_
  refine EV.done rfl ?_
  refine V.seq ?_
  refine V.sr ?_
  refine EV.callh (fs := #[]) (vs := []) (cs := #[]) [] (f18_fh) rfl rfl rfl (by kernel_rfl) (by kernel_rfl) (by kernel_rfl) (by kernel_rfl) rfl.symm (by kernel_rfl) trivial ?_
  rintro v s1 ⟨rfl, rfl⟩
  refine ⟨_, .bool true, ⟨[], [], [], [], rfl, by kernel_rfl, trivial, trivial, rfl⟩, rfl, ?_⟩
  refine EV.norm [0, 3, 8] (S2 := [(0, .slice (fb 0) zb.length cb), (3, pT 3), (8, .bool true)]) (A2 := hp [rb, r0, r1, pO fo fc zo zc co cc p 1 2] g N) (by kernel_rfl) (by kernel_rfl) ?_
  refine EV.runS (hcS K w0) 2 [0, 3, 9] (S2 := [(0, .slice (fb 0) zb.length cb), (3, pT 3), (9, .bool false)]) rfl (by kernel_rfl) ?_
  refine EV.done rfl ?_
  refine V.cond false (by kernel_rfl) (fun h => Bool.noConfusion h) (fun _ => ?_)
  refine V.weak [0, 3] (S2 := [(0, .slice (fb 0) zb.length cb), (3, pT 3)]) rfl ?_
  refine V.skip ?_
  refine thenV_n ?_
  refine V.seq ?_
  refine V.sr ?_
  refine EV.runS (hcS K w0) 11 [0, 3, 20] (S2 := [(0, .slice (fb 0) zb.length cb), (3, pT 3), (20, .bool (decide ((IntKind.wrap .i64 ((IntKind.wrap .i64 (((zb.length : Nat) : Int) + ((zo.length : Nat) : Int))) + ((zc.length : Nat) : Int))) > 1000)))]) rfl (by kernel_rfl) ?_
  refine EV.done rfl ?_
  refine V.cond (decide ((IntKind.wrap .i64 ((IntKind.wrap .i64 (((zb.length : Nat) : Int) + ((zo.length : Nat) : Int))) + ((zc.length : Nat) : Int))) > 1000)) (by kernel_rfl) (fun h1 => ?_) (fun h1 => ?_)
  ·
    refine V.weak [] (S2 := []) rfl ?_
    refine V.sr ?_
    refine EV.runS (hcS K w0) 1 [4] (S2 := [(4, .bool true)]) rfl (by kernel_rfl) ?_
    refine EV.done rfl ?_
    refine V.ret ?_
    refine thenV_r ?_
    exact EndsH_r hB [.bool true] [0, 1, 2, 64] [0, 1, 2] [rb, r0, r1] (.bool true) (by kernel_rfl) (by kernel_rfl) (by kernel_rfl) ⟨.inr ⟨(bl rfl), .inl (hrb.obj _).symm⟩, .inr ⟨(bl rfl), .inl (hro.obj _).symm⟩, .inr ⟨(bl rfl), .inl (hrc.obj _).symm⟩, .inl (by decide), trivial⟩ rfl (shut_intro rfl fun τ hτ => ⟨rfl, .inr (hrb.obj _), .inr (hro.obj _), .inr (hrc.obj _), trivial⟩) ⟨rfl, rfl⟩
  ·
    refine V.weak [0, 3] (S2 := [(0, .slice (fb 0) zb.length cb), (3, pT 3)]) rfl ?_
    refine V.skip ?_
    refine thenV_n ?_
    refine V.sr ?_
    refine EV.runS (hcS K w0) 2 [0, 3, 22, 23] (S2 := [(0, .slice (fb 0) zb.length cb), (3, pT 3), (22, .slice (fb 0) zb.length cb), (23, .agg (pcl (.slice (fo 1) zo.length co) (.slice (fc 2) zc.length cc) p).toArray)]) rfl (by kernel_rfl) ?_
    refine EV.callh (fs := #[]) (vs := [.slice (fb 0) zb.length cb, .agg (pcl (.slice (fo 1) zo.length co) (.slice (fc 2) zc.length cc) p).toArray]) (cs := #[]) [0, 1, 2] (f19_bad hrb hro hrc p hpo hm) rfl rfl rfl (by kernel_rfl) (by kernel_rfl) (by kernel_rfl) (by kernel_rfl) (argsCons (σ := sigma [0, 1, 2] (N + 64)) (a := .slice (fb 0) zb.length cb) (xs := [.agg (pcl (.slice (fo 1) zo.length co) (.slice (fc 2) zc.length cc) p).toArray]) (hrb.ren (sigma [0, 1, 2] (N + 64)) 0) (argsCons (σ := sigma [0, 1, 2] (N + 64)) (a := .agg (pcl (.slice (fo 1) zo.length co) (.slice (fc 2) zc.length cc) p).toArray) (xs := []) (ren_pagg (τ := sigma [0, 1, 2] (N + 64)) (vo := .slice (fo 1) zo.length co) (vc := .slice (fc 2) zc.length cc) (hro.ren _ 1) (hrc.ren _ 2)) rfl)).symm (by kernel_rfl) ⟨view_row _ hrb rfl (bl rfl), view_row _ hro rfl (bl rfl), view_row _ hrc rfl (bl rfl), trivial⟩ ?_
    rintro v s1 ⟨rfl, rfl⟩
    refine ⟨_, .tuple #[.slice none 0 0, .int .i64 2], ⟨[rb, r0, r1], [], [none, none, none], [], rfl, by kernel_rfl, ⟨start_row hrb, start_row hro, start_row hrc, trivial⟩, trivial, rfl⟩, rfl, ?_⟩
    refine EV.norm [0, 3, 24] (S2 := [(0, .slice (fb 0) zb.length cb), (3, pT 3), (24, .tuple #[.slice none 0 0, .int .i64 2])]) (A2 := hp [rb, r0, r1, pO fo fc zo zc co cc p 1 2] g N) (by kernel_rfl) (by kernel_rfl) ?_
    refine EV.runS (hcS K w0) 8 [0, 3, 5, 6] (S2 := [(0, .slice (fb 0) zb.length cb), (3, pT 3), (5, .slice none 0 0), (6, .int .i64 2)]) rfl (by kernel_rfl) ?_
    refine EV.done rfl ?_
    refine V.sr ?_
    refine EV.runS (hcS K w0) 1 [0, 3, 5, 6, 27] (S2 := [(0, .slice (fb 0) zb.length cb), (3, pT 3), (5, .slice none 0 0), (6, .int .i64 2), (27, .agg (pcl (.slice (fo 1) zo.length co) (.slice (fc 2) zc.length cc) p).toArray)]) rfl (by kernel_rfl) ?_
    refine EV.callh (fs := #[]) (vs := [.agg (pcl (.slice (fo 1) zo.length co) (.slice (fc 2) zc.length cc) p).toArray]) (cs := #[]) [1, 2] (f20_fh hro hrc p hpo) rfl rfl rfl (by kernel_rfl) (by kernel_rfl) (by kernel_rfl) (by kernel_rfl) (argsCons (σ := sigma [1, 2] (N + 64)) (a := .agg (pcl (.slice (fo 0) zo.length co) (.slice (fc 1) zc.length cc) p).toArray) (xs := []) (ren_pagg (τ := sigma [1, 2] (N + 64)) (vo := .slice (fo 0) zo.length co) (vc := .slice (fc 1) zc.length cc) (hro.ren _ 0) (hrc.ren _ 1)) rfl).symm (by kernel_rfl) ⟨view_row _ hro rfl (bl rfl), view_row _ hrc rfl (bl rfl), trivial⟩ ?_
    rintro v s1 ⟨rfl, rfl⟩
    refine ⟨_, .bool (mayP zo zc p), ⟨[r0, r1], [], [none, none], [], rfl, by kernel_rfl, ⟨start_row hro, start_row hrc, trivial⟩, trivial, rfl⟩, rfl, ?_⟩
    refine EV.norm [0, 3, 5, 6, 28] (S2 := [(0, .slice (fb 0) zb.length cb), (3, pT 3), (5, .slice none 0 0), (6, .int .i64 2), (28, .bool (mayP zo zc p))]) (A2 := hp [rb, r0, r1, pO fo fc zo zc co cc p 1 2] g N) (by kernel_rfl) (by kernel_rfl) ?_
    refine EV.runS (hcS K w0) 3 [0, 3, 5, 6, 7] (S2 := [(0, .slice (fb 0) zb.length cb), (3, pT 3), (5, .slice none 0 0), (6, .int .i64 2), (7, .bool (mayP zo zc p))]) rfl (by kernel_rfl) ?_
    refine EV.done rfl ?_
    refine V.seq ?_
    refine V.sr ?_
    refine EV.runS (hcS K w0) 1 [0, 3, 5, 6, 7, 29] (S2 := [(0, .slice (fb 0) zb.length cb), (3, pT 3), (5, .slice none 0 0), (6, .int .i64 2), (7, .bool (mayP zo zc p)), (29, .agg (pcl (.slice (fo 1) zo.length co) (.slice (fc 2) zc.length cc) p).toArray)]) rfl (by kernel_rfl) ?_
    refine EV.callh (fs := #[]) (vs := [.agg (pcl (.slice (fo 1) zo.length co) (.slice (fc 2) zc.length cc) p).toArray]) (cs := #[]) [1, 2] (f21_fh hro hrc p) rfl rfl rfl (by kernel_rfl) (by kernel_rfl) (by kernel_rfl) (by kernel_rfl) (argsCons (σ := sigma [1, 2] (N + 64)) (a := .agg (pcl (.slice (fo 0) zo.length co) (.slice (fc 1) zc.length cc) p).toArray) (xs := []) (ren_pagg (τ := sigma [1, 2] (N + 64)) (vo := .slice (fo 0) zo.length co) (vc := .slice (fc 1) zc.length cc) (hro.ren _ 0) (hrc.ren _ 1)) rfl).symm (by kernel_rfl) ⟨view_row _ hro rfl (bl rfl), view_row _ hrc rfl (bl rfl), trivial⟩ ?_
    rintro v s1 ⟨rfl, rfl⟩
    refine ⟨_, .bool (mayP zo zc p), ⟨[r0, r1], [], [none, none], [], rfl, by kernel_rfl, ⟨start_row hro, start_row hrc, trivial⟩, trivial, rfl⟩, rfl, ?_⟩
    refine EV.norm [0, 3, 5, 6, 7, 30] (S2 := [(0, .slice (fb 0) zb.length cb), (3, pT 3), (5, .slice none 0 0), (6, .int .i64 2), (7, .bool (mayP zo zc p)), (30, .bool (mayP zo zc p))]) (A2 := hp [rb, r0, r1, pO fo fc zo zc co cc p 1 2] g N) (by kernel_rfl) (by kernel_rfl) ?_
    refine EV.runS (hcS K w0) 4 [0, 3, 5, 6, 7, 32] (S2 := [(0, .slice (fb 0) zb.length cb), (3, pT 3), (5, .slice none 0 0), (6, .int .i64 2), (7, .bool (mayP zo zc p)), (32, .bool ((mayP zo zc p) != (mayP zo zc p)))]) rfl (by kernel_rfl) ?_
    refine EV.done rfl ?_
    have d2 : ((mayP zo zc p) != (mayP zo zc p)) = false := by cases mayP zo zc p <;> rfl
    refine V.cast (S2 := [(0, .slice (fb 0) zb.length cb), (3, pT 3), (5, .slice none 0 0), (6, .int .i64 2), (7, .bool (mayP zo zc p)), (32, .bool false)]) (by rw [d2]) rfl ?_
    refine V.cond false (by kernel_rfl) (fun h => Bool.noConfusion h) (fun _ => ?_)
    refine V.weak [0, 3, 5, 6, 7] (S2 := [(0, .slice (fb 0) zb.length cb), (3, pT 3), (5, .slice none 0 0), (6, .int .i64 2), (7, .bool (mayP zo zc p))]) rfl ?_
    refine V.skip ?_
    refine thenV_n ?_
    refine V.seq ?_
    refine V.sr ?_
    refine EV.run (hcS K w0) 2 [0, 3, 5, 6, 34] (S2 := [(0, .slice (fb 0) zb.length cb), (3, pT 3), (5, .slice none 0 0), (6, .int .i64 2), (34, .bool (!(mayP zo zc p)))]) (A2 := hp [rb, r0, r1, pO fo fc zo zc co cc p 1 2] g N) rfl (by kernel_rfl) ?_
    refine EV.done rfl ?_
    have d3 : (!(mayP zo zc p)) = true := by rw [hm]; rfl
    refine V.cast (S2 := [(0, .slice (fb 0) zb.length cb), (3, pT 3), (5, .slice none 0 0), (6, .int .i64 2), (34, .bool true)]) (by rw [d3]) rfl ?_
    refine V.cond true (by kernel_rfl) (fun _ => ?_) (fun h => Bool.noConfusion h)
    refine V.weak [5, 6] (S2 := [(5, .slice none 0 0), (6, .int .i64 2)]) rfl ?_
    refine V.sr ?_
    refine EV.run (hcS K w0) 8 [4] (S2 := [(4, .bool true)]) (A2 := hp [rb, r0, r1, pO fo fc zo zc co cc p 1 2] g N) rfl (by kernel_rfl) ?_
    refine EV.done rfl ?_
    refine V.ret ?_
    refine thenV_r ?_
    exact EndsH_r hB [.bool true] [0, 1, 2, 64] [0, 1, 2] [rb, r0, r1] (.bool true) (by kernel_rfl) (by kernel_rfl) (by kernel_rfl) ⟨.inr ⟨(bl rfl), .inl (hrb.obj _).symm⟩, .inr ⟨(bl rfl), .inl (hro.obj _).symm⟩, .inr ⟨(bl rfl), .inl (hrc.obj _).symm⟩, .inl (by decide), trivial⟩ rfl (shut_intro rfl fun τ hτ => ⟨rfl, .inr (hrb.obj _), .inr (hro.obj _), .inr (hrc.obj _), trivial⟩) ⟨rfl, rfl⟩
set_option maxHeartbeats 8000000 in
theorem f6_ok {rb r0 r1 : AObj} {fb fo fc : Nat → Option Addr} {zb zo zc : List Int} {cb co cc : Nat} (hrb : RowF rb fb zb cb) (hro : RowF r0 fo zo co) (hrc : RowF r1 fc zc cc) (p : PN) (hpo : p.Ok) (hlen3 : zb.length + zo.length + zc.length < 4611686018427387904) (hm : mayP zo zc p = true) : FH Try.prog 6 [rb, r0, r1] [.slice (fb 0) zb.length cb, .agg (pcl (.slice (fo 1) zo.length co) (.slice (fc 2) zc.length cc) p).toArray] (fun v s1 => v = .bool true ∧ s1 = [rb, r0, r1]) := by
  have hm' := hm
  simp only [mayP, Bool.and_eq_true, decide_eq_true_eq] at hm'
  obtain ⟨⟨⟨hokn, hzo⟩, hzc⟩, _⟩ := hm'
  have hzb := hrb.byte
  have hub := upB_byte hpo hro.byte hrc.byte hokn 16 (Nat.le_refl _)
  have hul := upB_len zo zc p hzo hzc 16
  refine V.fnh (fn := Try.f6) Try.func6 (by kernel_rfl) rfl rfl fun K w0 g N hB => ?_
  refine V.sr ?_
  refine EV.run (hcS K w0) 2 [0, 3] (S2 := [(0, .slice (fb 0) zb.length cb), (3, pT 3)]) (A2 := hp [rb, r0, r1, pO fo fc zo zc co cc p 1 2] g N) rfl (by kernel_rfl) ?_
  refine EV.done rfl ?_
  refine V.seq ?_
  refine V.sr ?_
  refine EV.callh (fs := #[]) (vs := []) (cs := #[]) [] (f18_fh) rfl rfl rfl (by kernel_rfl) (by kernel_rfl) (by kernel_rfl) (by kernel_rfl) rfl.symm (by kernel_rfl) trivial ?_
  rintro v s1 ⟨rfl, rfl⟩
  refine ⟨_, .bool true, ⟨[], [], [], [], rfl, by kernel_rfl, trivial, trivial, rfl⟩, rfl, ?_⟩
  refine EV.norm [0, 3, 8] (S2 := [(0, .slice (fb 0) zb.length cb), (3, pT 3), (8, .bool true)]) (A2 := hp [rb, r0, r1, pO fo fc zo zc co cc p 1 2] g N) (by kernel_rfl) (by kernel_rfl) ?_
  refine EV.runS (hcS K w0) 2 [0, 3, 9] (S2 := [(0, .slice (fb 0) zb.length cb), (3, pT 3), (9, .bool false)]) rfl (by kernel_rfl) ?_
  refine EV.done rfl ?_
  refine V.cond false (by kernel_rfl) (fun h => Bool.noConfusion h) (fun _ => ?_)
  refine V.weak [0, 3] (S2 := [(0, .slice (fb 0) zb.length cb), (3, pT 3)]) rfl ?_
  refine V.skip ?_
  refine thenV_n ?_
  refine V.seq ?_
  refine V.sr ?_
  refine EV.runS (hcS K w0) 11 [0, 3, 20] (S2 := [(0, .slice (fb 0) zb.length cb), (3, pT 3), (20, .bool (decide ((IntKind.wrap .i64 ((IntKind.wrap .i64 (((zb.length : Nat) : Int) + ((zo.length : Nat) : Int))) + ((zc.length : Nat) : Int))) > 1000)))]) rfl (by kernel_rfl) ?_
  refine EV.done rfl ?_
  refine V.cond (decide ((IntKind.wrap .i64 ((IntKind.wrap .i64 (((zb.length : Nat) : Int) + ((zo.length : Nat) : Int))) + ((zc.length : Nat) : Int))) > 1000)) (by kernel_rfl) (fun h1 => ?_) (fun h1 => ?_)
  ·
    refine V.weak [] (S2 := []) rfl ?_
    refine V.sr ?_
    refine EV.runS (hcS K w0) 1 [4] (S2 := [(4, .bool true)]) rfl (by kernel_rfl) ?_
    refine EV.done rfl ?_
    refine V.ret ?_
    refine thenV_r ?_
    exact EndsH_r hB [.bool true] [0, 1, 2, 64] [0, 1, 2] [rb, r0, r1] (.bool true) (by kernel_rfl) (by kernel_rfl) (by kernel_rfl) ⟨.inr ⟨(bl rfl), .inl (hrb.obj _).symm⟩, .inr ⟨(bl rfl), .inl (hro.obj _).symm⟩, .inr ⟨(bl rfl), .inl (hrc.obj _).symm⟩, .inl (by decide), trivial⟩ rfl (shut_intro rfl fun τ hτ => ⟨rfl, .inr (hrb.obj _), .inr (hro.obj _), .inr (hrc.obj _), trivial⟩) ⟨rfl, rfl⟩
  ·
    refine V.weak [0, 3] (S2 := [(0, .slice (fb 0) zb.length cb), (3, pT 3)]) rfl ?_
    refine V.skip ?_
    refine thenV_n ?_
    have hzbl : zb.length ≤ 1000 := small3 hlen3 h1
    refine V.sr ?_
    refine EV.runS (hcS K w0) 2 [0, 3, 22, 23] (S2 := [(0, .slice (fb 0) zb.length cb), (3, pT 3), (22, .slice (fb 0) zb.length cb), (23, .agg (pcl (.slice (fo 1) zo.length co) (.slice (fc 2) zc.length cc) p).toArray)]) rfl (by kernel_rfl) ?_
    refine EV.callh (fs := #[]) (vs := [.slice (fb 0) zb.length cb, .agg (pcl (.slice (fo 1) zo.length co) (.slice (fc 2) zc.length cc) p).toArray]) (cs := #[]) [0, 1, 2] (f19_ok hrb hro hrc p hpo hm (by have := hzbl; omega)) rfl rfl rfl (by kernel_rfl) (by kernel_rfl) (by kernel_rfl) (by kernel_rfl) (argsCons (σ := sigma [0, 1, 2] (N + 64)) (a := .slice (fb 0) zb.length cb) (xs := [.agg (pcl (.slice (fo 1) zo.length co) (.slice (fc 2) zc.length cc) p).toArray]) (hrb.ren (sigma [0, 1, 2] (N + 64)) 0) (argsCons (σ := sigma [0, 1, 2] (N + 64)) (a := .agg (pcl (.slice (fo 1) zo.length co) (.slice (fc 2) zc.length cc) p).toArray) (xs := []) (ren_pagg (τ := sigma [0, 1, 2] (N + 64)) (vo := .slice (fo 1) zo.length co) (vc := .slice (fc 2) zc.length cc) (hro.ren _ 1) (hrc.ren _ 2)) rfl)).symm (by kernel_rfl) ⟨view_row _ hrb rfl (bl rfl), view_row _ hro rfl (bl rfl), view_row _ hrc rfl (bl rfl), trivial⟩ ?_
    rintro v s1 ⟨rfl, rfl⟩
    refine ⟨_, .tuple #[outV 4 (zb ++ upB zo zc p 16), .int .i64 0], ⟨[rb, r0, r1], [outO (zb ++ upB zo zc p 16)], [none, none, none], [outO (zb ++ upB zo zc p 16)], rfl, by kernel_rfl, ⟨start_row hrb, start_row hro, start_row hrc, trivial⟩, ⟨new_out _ _, trivial⟩, rfl⟩, (congrArg (fun q => Value.tuple #[q, .int .i64 0]) (ren_outV (sigma1 [0, 1, 2] N 3 4) 3 (zb ++ upB zo zc p 16))).symm, ?_⟩
    refine EV.norm [0, 3, 24] (S2 := [(0, .slice (fb 0) zb.length cb), (3, pT 3), (24, .tuple #[outV 4 (zb ++ upB zo zc p 16), .int .i64 0])]) (A2 := hp [rb, r0, r1, pO fo fc zo zc co cc p 1 2, outO (zb ++ upB zo zc p 16)] g N) (by kernel_rfl) (by kernel_rfl) ?_
    refine EV.runS (hcS K w0) 8 [0, 3, 5, 6] (S2 := [(0, .slice (fb 0) zb.length cb), (3, pT 3), (5, outV 4 (zb ++ upB zo zc p 16)), (6, .int .i64 0)]) rfl (by kernel_rfl) ?_
    refine EV.done rfl ?_
    refine V.sr ?_
    refine EV.runS (hcS K w0) 1 [0, 3, 5, 6, 27] (S2 := [(0, .slice (fb 0) zb.length cb), (3, pT 3), (5, outV 4 (zb ++ upB zo zc p 16)), (6, .int .i64 0), (27, .agg (pcl (.slice (fo 1) zo.length co) (.slice (fc 2) zc.length cc) p).toArray)]) rfl (by kernel_rfl) ?_
    refine EV.callh (fs := #[]) (vs := [.agg (pcl (.slice (fo 1) zo.length co) (.slice (fc 2) zc.length cc) p).toArray]) (cs := #[]) [1, 2] (f20_fh hro hrc p hpo) rfl rfl rfl (by kernel_rfl) (by kernel_rfl) (by kernel_rfl) (by kernel_rfl) (argsCons (σ := sigma [1, 2] (N + 64)) (a := .agg (pcl (.slice (fo 0) zo.length co) (.slice (fc 1) zc.length cc) p).toArray) (xs := []) (ren_pagg (τ := sigma [1, 2] (N + 64)) (vo := .slice (fo 0) zo.length co) (vc := .slice (fc 1) zc.length cc) (hro.ren _ 0) (hrc.ren _ 1)) rfl).symm (by kernel_rfl) ⟨view_row _ hro rfl (bl rfl), view_row _ hrc rfl (bl rfl), trivial⟩ ?_
    rintro v s1 ⟨rfl, rfl⟩
    refine ⟨_, .bool (mayP zo zc p), ⟨[r0, r1], [], [none, none], [], rfl, by kernel_rfl, ⟨start_row hro, start_row hrc, trivial⟩, trivial, rfl⟩, rfl, ?_⟩
    refine EV.norm [0, 3, 5, 6, 28] (S2 := [(0, .slice (fb 0) zb.length cb), (3, pT 3), (5, outV 4 (zb ++ upB zo zc p 16)), (6, .int .i64 0), (28, .bool (mayP zo zc p))]) (A2 := hp [rb, r0, r1, pO fo fc zo zc co cc p 1 2, outO (zb ++ upB zo zc p 16)] g N) (by kernel_rfl) (by kernel_rfl) ?_
    refine EV.runS (hcS K w0) 3 [0, 3, 5, 6, 7] (S2 := [(0, .slice (fb 0) zb.length cb), (3, pT 3), (5, outV 4 (zb ++ upB zo zc p 16)), (6, .int .i64 0), (7, .bool (mayP zo zc p))]) rfl (by kernel_rfl) ?_
    refine EV.done rfl ?_
    refine V.seq ?_
    refine V.sr ?_
    refine EV.runS (hcS K w0) 1 [0, 3, 5, 6, 7, 29] (S2 := [(0, .slice (fb 0) zb.length cb), (3, pT 3), (5, outV 4 (zb ++ upB zo zc p 16)), (6, .int .i64 0), (7, .bool (mayP zo zc p)), (29, .agg (pcl (.slice (fo 1) zo.length co) (.slice (fc 2) zc.length cc) p).toArray)]) rfl (by kernel_rfl) ?_
    refine EV.callh (fs := #[]) (vs := [.agg (pcl (.slice (fo 1) zo.length co) (.slice (fc 2) zc.length cc) p).toArray]) (cs := #[]) [1, 2] (f21_fh hro hrc p) rfl rfl rfl (by kernel_rfl) (by kernel_rfl) (by kernel_rfl) (by kernel_rfl) (argsCons (σ := sigma [1, 2] (N + 64)) (a := .agg (pcl (.slice (fo 0) zo.length co) (.slice (fc 1) zc.length cc) p).toArray) (xs := []) (ren_pagg (τ := sigma [1, 2] (N + 64)) (vo := .slice (fo 0) zo.length co) (vc := .slice (fc 1) zc.length cc) (hro.ren _ 0) (hrc.ren _ 1)) rfl).symm (by kernel_rfl) ⟨view_row _ hro rfl (bl rfl), view_row _ hrc rfl (bl rfl), trivial⟩ ?_
    rintro v s1 ⟨rfl, rfl⟩
    refine ⟨_, .bool (mayP zo zc p), ⟨[r0, r1], [], [none, none], [], rfl, by kernel_rfl, ⟨start_row hro, start_row hrc, trivial⟩, trivial, rfl⟩, rfl, ?_⟩
    refine EV.norm [0, 3, 5, 6, 7, 30] (S2 := [(0, .slice (fb 0) zb.length cb), (3, pT 3), (5, outV 4 (zb ++ upB zo zc p 16)), (6, .int .i64 0), (7, .bool (mayP zo zc p)), (30, .bool (mayP zo zc p))]) (A2 := hp [rb, r0, r1, pO fo fc zo zc co cc p 1 2, outO (zb ++ upB zo zc p 16)] g N) (by kernel_rfl) (by kernel_rfl) ?_
    refine EV.runS (hcS K w0) 4 [0, 3, 5, 6, 7, 32] (S2 := [(0, .slice (fb 0) zb.length cb), (3, pT 3), (5, outV 4 (zb ++ upB zo zc p 16)), (6, .int .i64 0), (7, .bool (mayP zo zc p)), (32, .bool ((mayP zo zc p) != (mayP zo zc p)))]) rfl (by kernel_rfl) ?_
    refine EV.done rfl ?_
    have d2 : ((mayP zo zc p) != (mayP zo zc p)) = false := by cases mayP zo zc p <;> rfl
    refine V.cast (S2 := [(0, .slice (fb 0) zb.length cb), (3, pT 3), (5, outV 4 (zb ++ upB zo zc p 16)), (6, .int .i64 0), (7, .bool (mayP zo zc p)), (32, .bool false)]) (by rw [d2]) rfl ?_
    refine V.cond false (by kernel_rfl) (fun h => Bool.noConfusion h) (fun _ => ?_)
    refine V.weak [0, 3, 5, 6, 7] (S2 := [(0, .slice (fb 0) zb.length cb), (3, pT 3), (5, outV 4 (zb ++ upB zo zc p 16)), (6, .int .i64 0), (7, .bool (mayP zo zc p))]) rfl ?_
    refine V.skip ?_
    refine thenV_n ?_
    refine V.seq ?_
    refine V.sr ?_
    refine EV.run (hcS K w0) 2 [0, 3, 5, 6, 34] (S2 := [(0, .slice (fb 0) zb.length cb), (3, pT 3), (5, outV 4 (zb ++ upB zo zc p 16)), (6, .int .i64 0), (34, .bool (!(mayP zo zc p)))]) (A2 := hp [rb, r0, r1, pO fo fc zo zc co cc p 1 2, outO (zb ++ upB zo zc p 16)] g N) rfl (by kernel_rfl) ?_
    refine EV.done rfl ?_
    have d3 : (!(mayP zo zc p)) = false := by rw [hm]; rfl
    refine V.cast (S2 := [(0, .slice (fb 0) zb.length cb), (3, pT 3), (5, outV 4 (zb ++ upB zo zc p 16)), (6, .int .i64 0), (34, .bool false)]) (by rw [d3]) rfl ?_
    refine V.cond false (by kernel_rfl) (fun h => Bool.noConfusion h) (fun _ => ?_)
    refine V.weak [0, 3, 5, 6] (S2 := [(0, .slice (fb 0) zb.length cb), (3, pT 3), (5, outV 4 (zb ++ upB zo zc p 16)), (6, .int .i64 0)]) rfl ?_
    refine V.skip ?_
    refine thenV_n ?_
    have hX : RowV (hp [rb, r0, r1, pO fo fc zo zc co cc p 1 2, outO (zb ++ upB zo zc p 16)] g N) (outV 4 (zb ++ upB zo zc p 16)) (zb ++ upB zo zc p 16) := rowV_own (k := 4) rfl rfl (byte_app hzb hub)
    have hX1 : RowV (hp [rb, r0, r1, pO fo fc zo zc co cc p 1 2, outO (zb ++ upB zo zc p 16), outO (upB zo zc p 16)] g N) (outV 4 (zb ++ upB zo zc p 16)) (zb ++ upB zo zc p 16) := rowV_own (k := 4) rfl rfl (byte_app hzb hub)
    have hb0 : RowV (hp [rb, r0, r1, pO fo fc zo zc co cc p 1 2, outO (zb ++ upB zo zc p 16)] g N) (.slice (fb 0) zb.length cb) zb := hrb.row _ 0 rfl (Nat.lt_of_lt_of_le (by decide) (Nat.le_add_left 64 N))
    have hb1 : RowV (hp [rb, r0, r1, pO fo fc zo zc co cc p 1 2, outO (zb ++ upB zo zc p 16), outO (upB zo zc p 16)] g N) (.slice (fb 0) zb.length cb) zb := hrb.row _ 0 rfl (Nat.lt_of_lt_of_le (by decide) (Nat.le_add_left 64 N))
    have hr1 : RowV (hp [rb, r0, r1, pO fo fc zo zc co cc p 1 2, outO (zb ++ upB zo zc p 16), outO (upB zo zc p 16)] g N) (outV 5 (upB zo zc p 16)) (upB zo zc p 16) := rowV_own (k := 5) rfl rfl hub
    have told := told_of (P := Try.prog) (f := 22) (s := [rb, r0, r1, pO fo fc zo zc co cc p 1 2, outO (zb ++ upB zo zc p 16)]) (g := g) (N := N) (vs := [.agg (pcl (.slice (fo 1) zo.length co) (.slice (fc 2) zc.length cc) p).toArray]) (u := outV 5 (upB zo zc p 16)) (s2 := [rb, r0, r1, pO fo fc zo zc co cc p 1 2, outO (zb ++ upB zo zc p 16), outO (upB zo zc p 16)]) [1, 2] (f22_fh hro hrc p hpo hzo hzc) (argsCons (σ := sigma [1, 2] (N + 64)) (a := .agg (pcl (.slice (fo 0) zo.length co) (.slice (fc 1) zc.length cc) p).toArray) (xs := []) (ren_pagg (τ := sigma [1, 2] (N + 64)) (vo := .slice (fo 0) zo.length co) (vc := .slice (fc 1) zc.length cc) (hro.ren _ 0) (hrc.ren _ 1)) rfl).symm (by kernel_rfl) ⟨view_row _ hro rfl (bl rfl), view_row _ hrc rfl (bl rfl), trivial⟩ ⟨[r0, r1], [outO (upB zo zc p 16)], [none, none], [outO (upB zo zc p 16)], rfl, by kernel_rfl, ⟨start_row hro, start_row hrc, trivial⟩, ⟨new_out _ _, trivial⟩, rfl⟩ (ren_outV (sigma1 [1, 2] N 2 5) 2 (upB zo zc p 16)).symm
    have hcP : CallSound Try.prog K w0 (acall Try.prog (ptPre [⟨22, [.agg (pcl (.slice (fo 1) zo.length co) (.slice (fc 2) zc.length cc) p).toArray], hp [rb, r0, r1, pO fo fc zo zc co cc p 1 2, outO (zb ++ upB zo zc p 16)] g N, outV 5 (upB zo zc p 16), hp [rb, r0, r1, pO fo fc zo zc co cc p 1 2, outO (zb ++ upB zo zc p 16), outO (upB zo zc p 16)] g N⟩]) (adraw2 Try.prog) 100000 50) := acall_sound (ptPre_sound (by intro q hq; simp only [List.mem_singleton] at hq; subst hq; exact told) K w0) (fun call hc => adraw2_sound mixed0 hc) (namesOk_spec names0) 100000 50
    refine V.seq (V.ofJ (draws := adraw2 Try.prog _) (R := 0) hcP (adraw2_sound mixed0 hcP) ?_)
    refine J.draw [hp [rb, r0, r1, pO fo fc zo zc co cc p 1 2, outO (zb ++ upB zo zc p 16)] g N, hp [rb, r0, r1, pO fo fc zo zc co cc p 1 2, outO (zb ++ upB zo zc p 16), outO (upB zo zc p 16)] g N] (A1 := hp [rb, r0, r1, pO fo fc zo zc co cc p 1 2, outO (zb ++ upB zo zc p 16), outO (upB zo zc p 16)] g N) (S' := [(4, .bool true)]) (fun t r => adraw2_of) (by kernel_rfl) rfl (by kernel_rfl) ?_ ?_
    ·
      refine DR.run 1 [0, 3, 6, 42] (S2 := [(0, .slice (fb 0) zb.length cb), (3, .pointer (some ⟨3, 0, none⟩)), (6, .int .i64 0), (42, outV 4 (zb ++ upB zo zc p 16))]) (A := hp [rb, r0, r1, pO fo fc zo zc co cc p 1 2, outO (zb ++ upB zo zc p 16)] g N) rfl (by kernel_rfl) (by kernel_rfl) ?_
      refine DR.conv (u := outV 4 (zb ++ upB zo zc p 16)) (v := .string (strFrom ByteArray.empty (zb ++ upB zo zc p 16))) (A := hp [rb, r0, r1, pO fo fc zo zc co cc p 1 2, outO (zb ++ upB zo zc p 16)] g N) rfl rfl (by kernel_rfl) rfl (by kernel_rfl) (by kernel_rfl) (by kernel_rfl) (beqV_str _) ?_ (Nat.le_of_ble_eq_true (by kernel_rfl)) ?_
      · intro k' A' h1 h2 h3
        rcases k' with _ | _ | k'
        · obtain rfl := Option.some.inj h3; exact hX.toStr (e := 5) (by kernel_rfl) (by kernel_rfl) (by kernel_rfl)
        · obtain rfl := Option.some.inj h3; exact hX1.toStr (e := 5) (by kernel_rfl) (by kernel_rfl) (by kernel_rfl)
        · simp at h3
      refine DR.run 3 [3, 6, 43, 44] (S2 := [(3, .pointer (some ⟨3, 0, none⟩)), (6, .int .i64 0), (43, .string (strFrom ByteArray.empty (zb ++ upB zo zc p 16))), (44, .slice (fb 0) zb.length cb)]) (A := hp [rb, r0, r1, pO fo fc zo zc co cc p 1 2, outO (zb ++ upB zo zc p 16)] g N) rfl (by kernel_rfl) (by kernel_rfl) ?_
      refine DR.conv (u := .slice (fb 0) zb.length cb) (v := .string (strFrom ByteArray.empty zb)) (A := hp [rb, r0, r1, pO fo fc zo zc co cc p 1 2, outO (zb ++ upB zo zc p 16)] g N) rfl rfl (by kernel_rfl) rfl (by kernel_rfl) (by kernel_rfl) (by kernel_rfl) (beqV_str _) ?_ (Nat.le_of_ble_eq_true (by kernel_rfl)) ?_
      · intro k' A' h1 h2 h3
        rcases k' with _ | _ | k'
        · obtain rfl := Option.some.inj h3; exact hb0.toStr (e := 5) (by kernel_rfl) (by kernel_rfl) (by kernel_rfl)
        · obtain rfl := Option.some.inj h3; exact hb1.toStr (e := 5) (by kernel_rfl) (by kernel_rfl) (by kernel_rfl)
        · simp at h3
      refine DR.load (ad := ⟨3, 0, none⟩) (v := .agg (pcl (.slice (fo 1) zo.length co) (.slice (fc 2) zc.length cc) p).toArray) (A := hp [rb, r0, r1, pO fo fc zo zc co cc p 1 2, outO (zb ++ upB zo zc p 16)] g N) rfl rfl (by kernel_rfl) rfl (by kernel_rfl) (by kernel_rfl) (by simp [pcl, beqV, beqVA, beqVL, beqI_self, hro.ad (b := 1) (by decide), hrc.ad (b := 2) (by decide)]) ?_ (Nat.le_of_ble_eq_true (by kernel_rfl)) ?_
      · intro k' A' h1 h2 h3
        rcases k' with _ | _ | k'
        · obtain rfl := Option.some.inj h3; kernel_rfl
        · rcases h2 with h2 | h2
          · cases h2
          · exact Bool.noConfusion (h2.symm.trans (show _ = false by kernel_rfl))
        · simp at h3
      refine DR.eff (v := outV 5 (upB zo zc p 16)) (A := hp [rb, r0, r1, pO fo fc zo zc co cc p 1 2, outO (zb ++ upB zo zc p 16)] g N) (A1 := hp [rb, r0, r1, pO fo fc zo zc co cc p 1 2, outO (zb ++ upB zo zc p 16), outO (upB zo zc p 16)] g N) rfl (by kernel_rfl) rfl rfl rfl (eop_call (f := 22) (vs := [.agg (pcl (.slice (fo 1) zo.length co) (.slice (fc 2) zc.length cc) p).toArray]) rfl rfl (by kernel_rfl) (by kernel_rfl) (pt1_eq _)) ?_
      refine DR.conv (u := outV 5 (upB zo zc p 16)) (v := .string (strFrom ByteArray.empty (upB zo zc p 16))) (A := hp [rb, r0, r1, pO fo fc zo zc co cc p 1 2, outO (zb ++ upB zo zc p 16), outO (upB zo zc p 16)] g N) rfl rfl (by kernel_rfl) rfl (by kernel_rfl) (by kernel_rfl) (by kernel_rfl) (beqV_str _) ?_ (Nat.le_of_ble_eq_true (by kernel_rfl)) ?_
      · intro k' A' h1 h2 h3
        rcases k' with _ | _ | k'
        · rcases h2 with h2 | h2
          · cases h2
          · exact Bool.noConfusion (h2.symm.trans (show _ = false by kernel_rfl))
        · obtain rfl := Option.some.inj h3; exact hr1.toStr (e := 5) (by kernel_rfl) (by kernel_rfl) (by kernel_rfl)
        · simp at h3
      refine DR.pure (A := hp [rb, r0, r1, pO fo fc zo zc co cc p 1 2, outO (zb ++ upB zo zc p 16), outO (upB zo zc p 16)] g N) rfl (by kernel_rfl) (by kernel_rfl) (by kernel_rfl) rfl (eop_strAdd (a := strFrom ByteArray.empty zb) (b := strFrom ByteArray.empty (upB zo zc p 16)) rfl (by kernel_rfl) (by kernel_rfl) (by kernel_rfl) (by rw [strFrom_size, strFrom_size, show ByteArray.empty.size = 0 from rfl]; omega)) ?_
      refine DR.pure (A := hp [rb, r0, r1, pO fo fc zo zc co cc p 1 2, outO (zb ++ upB zo zc p 16), outO (upB zo zc p 16)] g N) rfl (by kernel_rfl) (by kernel_rfl) (by kernel_rfl) rfl (eop_strEql (a := strFrom ByteArray.empty (zb ++ upB zo zc p 16)) (b := strFrom ByteArray.empty zb ++ strFrom ByteArray.empty (upB zo zc p 16)) rfl (by kernel_rfl) (by kernel_rfl) (by kernel_rfl) (strFrom_append _ _).symm) ?_
      refine DR.run 14 [4] (S2 := [(4, .bool true)]) (A := hp [rb, r0, r1, pO fo fc zo zc co cc p 1 2, outO (zb ++ upB zo zc p 16), outO (upB zo zc p 16)] g N) rfl (by kernel_rfl) (by kernel_rfl) ?_
      exact DR.done rfl
    refine thenV_n ?_
    refine V.ret ?_
    exact EndsH_r hB [.bool true] [0, 1, 2, 64, 64, 64] [0, 1, 2] [rb, r0, r1] (.bool true) (by kernel_rfl) (by kernel_rfl) (by kernel_rfl) ⟨.inr ⟨(bl rfl), .inl (hrb.obj _).symm⟩, .inr ⟨(bl rfl), .inl (hro.obj _).symm⟩, .inr ⟨(bl rfl), .inl (hrc.obj _).symm⟩, .inl (by decide), .inl (by decide), .inl (by decide), trivial⟩ rfl (shut_intro rfl fun τ hτ => ⟨rfl, .inr (hrb.obj _), .inr (hro.obj _), .inr (hrc.obj _), trivial⟩) ⟨rfl, rfl⟩
end Go.Proofs.Ytioggedadamoaaa
