/- param: the document's bytes. -/
import Derived.Test.YtioggedadamoaaaTiPj
set_option autoImplicit false
set_option linter.unusedVariables false
set_option linter.unusedSimpArgs false
namespace Go.Proofs.Ytioggedadamoaaa
open Go.Abs Go.RowKit
theorem tokTake {p : PN} (h : p.Ok) (j : Nat) : isByte (p.tok.take j) := fun z hz => h.tok z (List.mem_of_mem_take hz)
theorem tokAt {p : PN} (h : p.Ok) (j : Nat) (hj : j < 16) : isByte [p.tok.getD j 0] := by
 intro z hz
 simp only [List.mem_singleton] at hz
 subst hz
 rw [List.getD_eq_getElem?_getD, List.getElem?_eq_getElem (show j < p.tok.length from hj)]
 exact h.tok _ (List.getElem_mem _)
set_option maxHeartbeats 8000000 in
theorem f22_fh {r0 r1 : AObj} {fo fc : Nat → Option Addr} {zo zc : List Int} {co cc : Nat} (hro : RowF r0 fo zo co) (hrc : RowF r1 fc zc cc) (p : PN) (hpo : p.Ok) (hzol : zo.length ≤ 20) (hzcl : zc.length ≤ 20) : FH Try.prog 22 [r0, r1] [.agg (pcl (.slice (fo 0) zo.length co) (.slice (fc 1) zc.length cc) p).toArray] (fun v s1 => v = outV 2 (upB zo zc p 16) ∧ s1 = [r0, r1, outO (upB zo zc p 16)]) := by
 have hzob := hro.byte
 have hzcb := hrc.byte
 have hup := upB_len zo zc p hzol hzcl
 have hitb := fun j => itemB_byte hpo hzob hzcb j
 have hupb : ∀ j, isByte (upB zo zc p j) := by
  intro j
  induction j with
  | zero => intro z hz; simp [upB] at hz
  | succ j ih => exact byte_app ih (hitb j)
 have hnl : 0 ≤ p.i1 ∧ 0 ≤ p.i4 ∧ 0 ≤ p.i5 ∧ 0 ≤ p.i6 ∧ 0 ≤ p.i7 ∧ 0 ≤ p.i8 ∧ 0 ≤ p.i9 ∧ 0 ≤ p.i11 ∧ 0 ≤ p.i14 := ⟨(hpo.num 1).1, (hpo.num 4).1, (hpo.num 5).1, (hpo.num 6).1, (hpo.num 7).1, (hpo.num 8).1, (hpo.num 9).1, (hpo.num 11).1, (hpo.num 14).1⟩
 obtain ⟨hn1, hn4, hn5, hn6, hn7, hn8, hn9, hn11, hn14⟩ := hnl
 refine V.fnh (fn := Try.f22) Try.func22 (by kernel_rfl) rfl rfl fun K w0 g N hB => ?_
 refine V.sr ?_
 refine EV.run (hcS K w0) 2 [1] (S2 := [(1, pT 2)]) (A2 := hp [r0, r1, pO fo fc zo zc co cc p 0 1] g N) rfl (by kernel_rfl) ?_
 refine EV.done rfl ?_
 refine V.sr ?_
 refine EV.runS (hcS K w0) 1 [1, 3] (S2 := [(1, pT 2), (3, .slice none 0 0)]) rfl (by kernel_rfl) ?_
 refine EV.done rfl ?_
 refine V.sr ?_
 refine EV.run (hcS K w0) 3 [1, 3, 4] (S2 := [(1, pT 2), (3, .slice none 0 0), (4, .slice (some ⟨4, 0, none⟩) 16 16)]) (A2 := hp [r0, r1, pO fo fc zo zc co cc p 0 1, pO fo fc zo zc co cc p 0 1, tblO p] g N) rfl (by kernel_rfl) ?_
 refine EV.done rfl ?_
 refine V.join (fun S A => ∃ (zs : List Int) (g : Nat → AObj) (N : Nat), zs = upB zo zc p 1 ∧ Bulk g N ∧ S = [(1, pT 2), (3, outV 5 zs), (4, .slice (some ⟨4, 0, none⟩) 16 16)] ∧ A = hp [r0, r1, pO fo fc zo zc co cc p 0 1, pO fo fc zo zc co cc p 0 1, tblO p, outO zs] g N) ?_ ?_
 ·
  rcases (show zo = [] ∨ ¬ zo = [] from Classical.em _) with hvne | hvne
  ·
   have hlen : decide (((zo.length : Nat) : Int) > 0) = false := by rw [hvne]; rfl
   refine V.sr ?_
   refine EV.pad (by kernel_rfl) ?_
   refine EV.norm [1, 3, 4] (S2 := [(1, pT 2), (3, outV 5 ([] : List Int)), (4, .slice (some ⟨4, 0, none⟩) 16 16)]) (A2 := hp [r0, r1, pO fo fc zo zc co cc p 0 1, pO fo fc zo zc co cc p 0 1, tblO p, outO ([] : List Int)] g N) (by kernel_rfl) (by kernel_rfl) ?_
   refine EV.runS (hcS K w0) 4 [1, 3, 4, 13] (S2 := [(1, pT 2), (3, outV 5 ([] : List Int)), (4, .slice (some ⟨4, 0, none⟩) 16 16), (13, .bool (decide (((zo.length : Nat) : Int) > 0)))]) rfl (by kernel_rfl) ?_
   refine EV.done rfl ?_
   have d1 : (decide (((zo.length : Nat) : Int) > 0)) = false := hlen
   refine V.cast (S2 := [(1, pT 2), (3, outV 5 ([] : List Int)), (4, .slice (some ⟨4, 0, none⟩) 16 16), (13, .bool false)]) (by rw [d1]) rfl ?_
   refine V.cond false (by kernel_rfl) (fun h => Bool.noConfusion h) (fun _ => ?_)
   refine V.weak [1, 3, 4] (S2 := [(1, pT 2), (3, outV 5 ([] : List Int)), (4, .slice (some ⟨4, 0, none⟩) 16 16)]) rfl ?_
   refine V.skip ?_
   refine joinV_n ⟨([] : List Int), g, N, ?_, hB, rfl, rfl⟩
   simp [upB, itemB, hvne]
  ·
   have hlen := lenpos hvne
   refine V.sr ?_
   refine EV.pad (by kernel_rfl) ?_
   refine EV.norm [1, 3, 4] (S2 := [(1, pT 2), (3, outV 5 ([] : List Int)), (4, .slice (some ⟨4, 0, none⟩) 16 16)]) (A2 := hp [r0, r1, pO fo fc zo zc co cc p 0 1, pO fo fc zo zc co cc p 0 1, tblO p, outO ([] : List Int)] g N) (by kernel_rfl) (by kernel_rfl) ?_
   refine EV.runS (hcS K w0) 4 [1, 3, 4, 13] (S2 := [(1, pT 2), (3, outV 5 ([] : List Int)), (4, .slice (some ⟨4, 0, none⟩) 16 16), (13, .bool (decide (((zo.length : Nat) : Int) > 0)))]) rfl (by kernel_rfl) ?_
   refine EV.done rfl ?_
   have d2 : (decide (((zo.length : Nat) : Int) > 0)) = true := hlen
   refine V.cast (S2 := [(1, pT 2), (3, outV 5 ([] : List Int)), (4, .slice (some ⟨4, 0, none⟩) 16 16), (13, .bool true)]) (by rw [d2]) rfl ?_
   refine V.cond true (by kernel_rfl) (fun _ => ?_) (fun h => Bool.noConfusion h)
   refine V.weak [1, 3, 4] (S2 := [(1, pT 2), (3, outV 5 ([] : List Int)), (4, .slice (some ⟨4, 0, none⟩) 16 16)]) rfl ?_
   refine V.region ?_
   refine EV.run (hcS K w0) 3 [1, 4, 14, 16] (S2 := [(1, pT 2), (4, .slice (some ⟨4, 0, none⟩) 16 16), (14, outV 5 ([] : List Int)), (16, .slice (fo 0) zo.length co)]) (A2 := hp [r0, r1, pO fo fc zo zc co cc p 0 1, pO fo fc zo zc co cc p 0 1, tblO p, outO ([] : List Int)] g N) rfl (by kernel_rfl) ?_
   refine EV.callh (fs := #[]) (vs := [.int .i64 0, .slice (fo 0) zo.length co]) (cs := #[]) [0] (f35_fh hro 0 (by decide) (by omega)) rfl rfl rfl (by kernel_rfl) (by kernel_rfl) (by kernel_rfl) (by kernel_rfl) (argsCons (σ := sigma [0] (N + 64)) (a := .int .i64 0) (xs := [.slice (fo 0) zo.length co]) rfl (argsCons (σ := sigma [0] (N + 64)) (a := .slice (fo 0) zo.length co) (xs := []) (hro.ren (sigma [0] (N + 64)) 0) rfl)).symm (by kernel_rfl) ⟨view_row _ hro rfl (bl rfl), trivial⟩ ?_
   rintro v s1 ⟨rfl, rfl⟩
   refine ⟨_, outV 6 (putB 0 zo), ⟨[r0], [outO (putB 0 zo)], [none], [outO (putB 0 zo)], rfl, by kernel_rfl, ⟨start_row hro, trivial⟩, ⟨new_out _ _, trivial⟩, rfl⟩, (ren_outV (sigma1 [0] N 1 6) 1 (putB 0 zo)).symm, ?_⟩
   refine EV.norm [1, 4, 14, 17] (S2 := [(1, pT 2), (4, .slice (some ⟨4, 0, none⟩) 16 16), (14, outV 5 ([] : List Int)), (17, outV 6 (putB 0 zo))]) (A2 := hp [r0, r1, pO fo fc zo zc co cc p 0 1, pO fo fc zo zc co cc p 0 1, tblO p, outO ([] : List Int), outO (putB 0 zo)] g N) (by kernel_rfl) (by kernel_rfl) ?_
   refine EV.app (hcS K w0) (zs := ([] : List Int)) (xs := (putB 0 zo)) 5 18 [1, 4] (S1 := [(1, pT 2), (4, .slice (some ⟨4, 0, none⟩) 16 16)]) hB rfl rfl rfl rfl (by kernel_rfl) rfl (by kernel_rfl) (by kernel_rfl) (by kernel_rfl) (fun _ _ _ => rfl) (rowV_own (k := 6) rfl rfl (putB_byte (hzob))) ((by intro z hz; simp at hz)) (by have := putB_len 0 zo (by omega); (have : (([] : List Int)).length ≤ 1000 := by first | exact hzsl | simp); omega) rfl (by kernel_rfl) (fun τ hτ => ⟨.inr (hro.obj _), .inr (hrc.obj _), .inr (ren_pcl (hro.rst (hτ 0 (by decide) (by decide) (by show 0 ≠ 7; decide))) (hrc.rst (hτ 1 (by decide) (by decide) (by show 1 ≠ 7; decide)))), .inr (ren_pcl (hro.rst (hτ 0 (by decide) (by decide) (by show 0 ≠ 7; decide))) (hrc.rst (hτ 1 (by decide) (by decide) (by show 1 ≠ 7; decide)))), .inr rfl, .inl rfl, .inr (renO_outO _ _), trivial⟩) (by kernel_rfl) (by kernel_rfl) (fun τ hτ => (renS_cons (congrArg (fun q => Value.pointer (some ⟨q, 0, none⟩)) (hτ 2 (by decide) (by decide) (by show 2 ≠ 7; decide))) (renS_cons (congrArg (fun q => Value.slice (some ⟨q, 0, none⟩) 16 16) (hτ 4 (by decide) (by decide) (by show 4 ≠ 7; decide))) rfl))) ?_
   intro g N hB
   refine EV.norm [1, 4, 18] (S2 := [(1, pT 2), (4, .slice (some ⟨4, 0, none⟩) 16 16), (18, outV 5 (putB 0 zo))]) (A2 := hp [r0, r1, pO fo fc zo zc co cc p 0 1, pO fo fc zo zc co cc p 0 1, tblO p, outO (putB 0 zo), outO (putB 0 zo)] g N) (by kernel_rfl) (by kernel_rfl) ?_
   refine EV.reng hB [0, 1, 2, 3, 4, 5, 64] [0, 1, 2, 3, 4, 5] [1, 4, 18] (S2 := [(1, pT 2), (4, .slice (some ⟨4, 0, none⟩) 16 16), (18, outV 5 (putB 0 zo))]) (s2 := [r0, r1, pO fo fc zo zc co cc p 0 1, pO fo fc zo zc co cc p 0 1, tblO p, outO (putB 0 zo)]) (by kernel_rfl) (by kernel_rfl) ⟨.inr ⟨(bl rfl), .inl ((hro.obj _).symm)⟩, .inr ⟨(bl rfl), .inl ((hrc.obj _).symm)⟩, .inr ⟨(bl rfl), .inl ((ren_pcl (τ := tau [0, 1, 2, 3, 4, 5, 64] N) (vo := .slice (fo 0) zo.length co) (vc := .slice (fc 1) zc.length cc) (hro.ren _ 0) (hrc.ren _ 1)).symm)⟩, .inr ⟨(bl rfl), .inl ((ren_pcl (τ := tau [0, 1, 2, 3, 4, 5, 64] N) (vo := .slice (fo 0) zo.length co) (vc := .slice (fc 1) zc.length cc) (hro.ren _ 0) (hrc.ren _ 1)).symm)⟩, .inr ⟨(bl rfl), .inl (rfl)⟩, .inr ⟨(bl rfl), .inl ((renO_outO (tau [0, 1, 2, 3, 4, 5, 64] N) (putB 0 zo)).symm)⟩, .inl (by decide), trivial⟩ (renS_cons (rfl) (renS_cons (rfl) (renS_cons (ren_outV (tau [0, 1, 2, 3, 4, 5, 64] N) 5 (putB 0 zo)) rfl))) ?_
   intro g N hB
   refine EV.run (hcS K w0) 6 [1, 3, 4] (S2 := [(1, pT 2), (3, outV 5 (putB 0 zo)), (4, .slice (some ⟨4, 0, none⟩) 16 16)]) (A2 := hp [r0, r1, pO fo fc zo zc co cc p 0 1, pO fo fc zo zc co cc p 0 1, tblO p, outO (putB 0 zo)] g N) rfl (by kernel_rfl) ?_
   refine EV.done rfl ?_
   refine joinV_n ⟨(putB 0 zo), g, N, ?_, hB, rfl, rfl⟩
   simp [upB, itemB, hvne]
 ·
  rintro S A ⟨zs, g, N, hjoin, hB, rfl, rfl⟩
  have hzsl : zs.length ≤ 1000 := by have := hup 1; rw [hjoin]; omega
  have hzsb : isByte zs := by rw [hjoin]; exact hupb _
  refine V.seq ?_
  refine V.sr ?_
  refine EV.run (hcS K w0) 1 [1, 3, 4, 5] (S2 := [(1, pT 2), (3, outV 5 zs), (4, .slice (some ⟨4, 0, none⟩) 16 16), (5, .int .i64 1)]) (A2 := hp [r0, r1, pO fo fc zo zc co cc p 0 1, pO fo fc zo zc co cc p 0 1, tblO p, outO zs] g N) rfl (by kernel_rfl) ?_
  refine EV.done rfl ?_
  refine V.block ?_
  refine V.loop (fun k S A => ∃ (j : Nat) (zs : List Int) (g : Nat → AObj) (N : Nat), j + k = 16 ∧ 1 ≤ j ∧ j ≤ 15 ∧ zs = upB zo zc p j ∧ Bulk g N ∧ S = [(1, pT 2), (3, outV 5 zs), (4, .slice (some ⟨4, 0, none⟩) 16 16), (5, nI j)] ∧ A = hp [r0, r1, pO fo fc zo zc co cc p 0 1, pO fo fc zo zc co cc p 0 1, tblO p, outO zs] g N) 15 ⟨1, zs, g, N, by decide, by decide, by decide, hjoin, hB, rfl, rfl⟩ ?_
  rintro k S A ⟨j, zs, g, N, hk, hj1, hj, hinv, hB, rfl, rfl⟩
  have hzsl : zs.length ≤ 1000 := by have := hup j; rw [hinv]; omega
  have hzsb : isByte zs := by rw [hinv]; exact hupb _
  have hcase : j = 1 ∨ j = 2 ∨ j = 3 ∨ j = 4 ∨ j = 5 ∨ j = 6 ∨ j = 7 ∨ j = 8 ∨ j = 9 ∨ j = 10 ∨ j = 11 ∨ j = 12 ∨ j = 13 ∨ j = 14 ∨ j = 15 := by omega
  rcases hcase with rfl | rfl | rfl | rfl | rfl | rfl | rfl | rfl | rfl | rfl | rfl | rfl | rfl | rfl | rfl
  ·
   obtain rfl : k = 15 := by omega
   refine V.seq ?_
   refine V.sr ?_
   refine EV.run (hcS K w0) 2 [1, 3, 4, 5, 20] (S2 := [(1, pT 2), (3, outV 5 zs), (4, .slice (some ⟨4, 0, none⟩) 16 16), (5, .int .i64 1), (20, .bool true)]) (A2 := hp [r0, r1, pO fo fc zo zc co cc p 0 1, pO fo fc zo zc co cc p 0 1, tblO p, outO zs] g N) rfl (by kernel_rfl) ?_
   refine EV.done rfl ?_
   refine V.cond true (by kernel_rfl) (fun _ => ?_) (fun h => Bool.noConfusion h)
   refine V.weak [1, 3, 4, 5] (S2 := [(1, pT 2), (3, outV 5 zs), (4, .slice (some ⟨4, 0, none⟩) 16 16), (5, .int .i64 1)]) rfl ?_
   refine V.skip ?_
   refine thenV_n ?_
   refine V.seq ?_
   refine V.block ?_
   refine V.seq ?_
   refine V.sr ?_
   refine EV.runS (hcS K w0) 5 [1, 3, 4, 5, 27] (S2 := [(1, pT 2), (3, outV 5 zs), (4, .slice (some ⟨4, 0, none⟩) 16 16), (5, .int .i64 1), (27, .bool (decide (p.i1 > 0)))]) rfl (by kernel_rfl) ?_
   refine EV.done rfl ?_
   refine V.cond (decide (p.i1 > 0)) (by kernel_rfl) (fun h3 => ?_) (fun h3 => ?_)
   ·
    refine V.weak [1, 3, 4, 5] (S2 := [(1, pT 2), (3, outV 5 zs), (4, .slice (some ⟨4, 0, none⟩) 16 16), (5, .int .i64 1)]) rfl ?_
    refine V.region ?_
    refine EV.runS (hcS K w0) 6 [1, 4, 5, 28, 29, 33] (S2 := [(1, pT 2), (4, .slice (some ⟨4, 0, none⟩) 16 16), (5, .int .i64 1), (28, outV 5 zs), (29, .int .i64 1), (33, .int .u64 p.i1)]) rfl (by kernel_rfl) ?_
    refine EV.callh (fs := #[]) (vs := [.int .u64 p.i1]) (cs := #[]) [] (f16_fh p.i1 hn1) rfl rfl rfl (by kernel_rfl) (by kernel_rfl) (by kernel_rfl) (by kernel_rfl) (argsCons (σ := sigma [] (N + 64)) (a := .int .u64 p.i1) (xs := []) rfl rfl).symm (by kernel_rfl) trivial ?_
    rintro v s1 ⟨rfl, rfl⟩
    refine ⟨_, outV 6 (shortOf p.i1), ⟨[], [outO (shortOf p.i1)], [], [outO (shortOf p.i1)], rfl, by kernel_rfl, trivial, ⟨new_out _ _, trivial⟩, rfl⟩, (ren_outV (sigma1 [] N 0 6) 0 (shortOf p.i1)).symm, ?_⟩
    refine EV.norm [1, 4, 5, 28, 29, 34] (S2 := [(1, pT 2), (4, .slice (some ⟨4, 0, none⟩) 16 16), (5, .int .i64 1), (28, outV 5 zs), (29, .int .i64 1), (34, outV 6 (shortOf p.i1))]) (A2 := hp [r0, r1, pO fo fc zo zc co cc p 0 1, pO fo fc zo zc co cc p 0 1, tblO p, outO zs, outO (shortOf p.i1)] g N) (by kernel_rfl) (by kernel_rfl) ?_
    refine EV.callh (fs := #[]) (vs := [.int .i64 1, outV 6 (shortOf p.i1)]) (cs := #[]) [6] (f35_fh (rowF_out (shortOf_byte _ hn1)) 1 (by decide) (by have := shortOf_le p.i1; omega)) rfl rfl rfl (by kernel_rfl) (by kernel_rfl) (by kernel_rfl) (by kernel_rfl) (argsCons (σ := sigma [6] (N + 64)) (a := .int .i64 1) (xs := [outV 0 (shortOf p.i1)]) rfl (argsCons (σ := sigma [6] (N + 64)) (a := outV 0 (shortOf p.i1)) (xs := []) (ren_outV (sigma [6] (N + 64)) 0 (shortOf p.i1)) rfl)).symm (by kernel_rfl) ⟨view_out _ rfl (bl rfl), trivial⟩ ?_
    rintro v s1 ⟨rfl, rfl⟩
    refine ⟨_, outV 7 (putB 1 (shortOf p.i1)), ⟨[outR (shortOf p.i1)], [outO (putB 1 (shortOf p.i1))], [none], [outO (putB 1 (shortOf p.i1))], rfl, by kernel_rfl, ⟨start_row (rowF_out (shortOf_byte _ hn1)), trivial⟩, ⟨new_out _ _, trivial⟩, rfl⟩, (ren_outV (sigma1 [6] N 1 7) 1 (putB 1 (shortOf p.i1))).symm, ?_⟩
    refine EV.norm [1, 4, 5, 28, 35] (S2 := [(1, pT 2), (4, .slice (some ⟨4, 0, none⟩) 16 16), (5, .int .i64 1), (28, outV 5 zs), (35, outV 7 (putB 1 (shortOf p.i1)))]) (A2 := hp [r0, r1, pO fo fc zo zc co cc p 0 1, pO fo fc zo zc co cc p 0 1, tblO p, outO zs, outO (shortOf p.i1), outO (putB 1 (shortOf p.i1))] g N) (by kernel_rfl) (by kernel_rfl) ?_
    refine EV.app (hcS K w0) (zs := zs) (xs := (putB 1 (shortOf p.i1))) 5 36 [1, 4, 5] (S1 := [(1, pT 2), (4, .slice (some ⟨4, 0, none⟩) 16 16), (5, .int .i64 1)]) hB rfl rfl rfl rfl (by kernel_rfl) rfl (by kernel_rfl) (by kernel_rfl) (by kernel_rfl) (fun _ _ _ => rfl) (rowV_own (k := 7) rfl rfl (putB_byte (shortOf_byte _ hn1))) (hzsb) (by have := putB_len 1 (shortOf p.i1) (by have := shortOf_le p.i1; omega); (have : (zs).length ≤ 1000 := by first | exact hzsl | simp); omega) rfl (by kernel_rfl) (fun τ hτ => ⟨.inr (hro.obj _), .inr (hrc.obj _), .inr (ren_pcl (hro.rst (hτ 0 (by decide) (by decide) (by show 0 ≠ 8; decide))) (hrc.rst (hτ 1 (by decide) (by decide) (by show 1 ≠ 8; decide)))), .inr (ren_pcl (hro.rst (hτ 0 (by decide) (by decide) (by show 0 ≠ 8; decide))) (hrc.rst (hτ 1 (by decide) (by decide) (by show 1 ≠ 8; decide)))), .inr rfl, .inl rfl, .inr (renO_outO _ _), .inr (renO_outO _ _), trivial⟩) (by kernel_rfl) (by kernel_rfl) (fun τ hτ => (renS_cons (congrArg (fun q => Value.pointer (some ⟨q, 0, none⟩)) (hτ 2 (by decide) (by decide) (by show 2 ≠ 8; decide))) (renS_cons (congrArg (fun q => Value.slice (some ⟨q, 0, none⟩) 16 16) (hτ 4 (by decide) (by decide) (by show 4 ≠ 8; decide))) (renS_cons rfl rfl)))) ?_
    intro g N hB
    refine EV.norm [1, 4, 5, 36] (S2 := [(1, pT 2), (4, .slice (some ⟨4, 0, none⟩) 16 16), (5, .int .i64 1), (36, outV 5 (zs ++ (putB 1 (shortOf p.i1))))]) (A2 := hp [r0, r1, pO fo fc zo zc co cc p 0 1, pO fo fc zo zc co cc p 0 1, tblO p, outO (zs ++ (putB 1 (shortOf p.i1))), outO (shortOf p.i1), outO (putB 1 (shortOf p.i1))] g N) (by kernel_rfl) (by kernel_rfl) ?_
    refine EV.reng hB [0, 1, 2, 3, 4, 5, 64, 64] [0, 1, 2, 3, 4, 5] [1, 4, 5, 36] (S2 := [(1, pT 2), (4, .slice (some ⟨4, 0, none⟩) 16 16), (5, .int .i64 1), (36, outV 5 (zs ++ (putB 1 (shortOf p.i1))))]) (s2 := [r0, r1, pO fo fc zo zc co cc p 0 1, pO fo fc zo zc co cc p 0 1, tblO p, outO (zs ++ (putB 1 (shortOf p.i1)))]) (by kernel_rfl) (by kernel_rfl) ⟨.inr ⟨(bl rfl), .inl ((hro.obj _).symm)⟩, .inr ⟨(bl rfl), .inl ((hrc.obj _).symm)⟩, .inr ⟨(bl rfl), .inl ((ren_pcl (τ := tau [0, 1, 2, 3, 4, 5, 64, 64] N) (vo := .slice (fo 0) zo.length co) (vc := .slice (fc 1) zc.length cc) (hro.ren _ 0) (hrc.ren _ 1)).symm)⟩, .inr ⟨(bl rfl), .inl ((ren_pcl (τ := tau [0, 1, 2, 3, 4, 5, 64, 64] N) (vo := .slice (fo 0) zo.length co) (vc := .slice (fc 1) zc.length cc) (hro.ren _ 0) (hrc.ren _ 1)).symm)⟩, .inr ⟨(bl rfl), .inl (rfl)⟩, .inr ⟨(bl rfl), .inl ((renO_outO (tau [0, 1, 2, 3, 4, 5, 64, 64] N) (zs ++ (putB 1 (shortOf p.i1)))).symm)⟩, .inl (by decide), .inl (by decide), trivial⟩ (renS_cons (rfl) (renS_cons (rfl) (renS_cons (rfl) (renS_cons (ren_outV (tau [0, 1, 2, 3, 4, 5, 64, 64] N) 5 (zs ++ (putB 1 (shortOf p.i1)))) rfl)))) ?_
    intro g N hB
    refine EV.run (hcS K w0) 10 [1, 3, 4, 5] (S2 := [(1, pT 2), (3, outV 5 (zs ++ (putB 1 (shortOf p.i1)))), (4, .slice (some ⟨4, 0, none⟩) 16 16), (5, .int .i64 1)]) (A2 := hp [r0, r1, pO fo fc zo zc co cc p 0 1, pO fo fc zo zc co cc p 0 1, tblO p, outO (zs ++ (putB 1 (shortOf p.i1)))] g N) rfl (by kernel_rfl) ?_
    refine EV.done rfl ?_
    refine thenV_n ?_
    refine V.sr ?_
    refine EV.runS (hcS K w0) 6 [1, 3, 4, 5, 42] (S2 := [(1, pT 2), (3, outV 5 (zs ++ (putB 1 (shortOf p.i1)))), (4, .slice (some ⟨4, 0, none⟩) 16 16), (5, .int .i64 1), (42, .bool false)]) rfl (by kernel_rfl) ?_
    refine EV.done rfl ?_
    refine V.cond false (by kernel_rfl) (fun h => Bool.noConfusion h) (fun _ => ?_)
    refine V.weak [1, 3, 4, 5] (S2 := [(1, pT 2), (3, outV 5 (zs ++ (putB 1 (shortOf p.i1)))), (4, .slice (some ⟨4, 0, none⟩) 16 16), (5, .int .i64 1)]) rfl ?_
    refine V.skip ?_
    refine blockQ_n ?_
    refine thenV_n ?_
    refine V.region ?_
    refine EV.runS (hcS K w0) 3 [1, 3, 4, 5] (S2 := [(1, pT 2), (3, outV 5 (zs ++ (putB 1 (shortOf p.i1)))), (4, .slice (some ⟨4, 0, none⟩) 16 16), (5, .int .i64 2)]) rfl (by kernel_rfl) ?_
    refine EV.done rfl ?_
    exact loopV_n 14 (by decide) ⟨2, (zs ++ (putB 1 (shortOf p.i1))), g, N, rfl, by decide, by decide, by rw [hinv]; (have hz : ¬ p.i1 = 0 := by (simp at h3; omega)); simp [upB, itemB, hz, PN.num], hB, rfl, rfl⟩
   ·
    refine V.weak [1, 3, 4, 5] (S2 := [(1, pT 2), (3, outV 5 zs), (4, .slice (some ⟨4, 0, none⟩) 16 16), (5, .int .i64 1)]) rfl ?_
    refine V.skip ?_
    refine thenV_n ?_
    refine V.sr ?_
    refine EV.runS (hcS K w0) 6 [1, 3, 4, 5, 42] (S2 := [(1, pT 2), (3, outV 5 zs), (4, .slice (some ⟨4, 0, none⟩) 16 16), (5, .int .i64 1), (42, .bool false)]) rfl (by kernel_rfl) ?_
    refine EV.done rfl ?_
    refine V.cond false (by kernel_rfl) (fun h => Bool.noConfusion h) (fun _ => ?_)
    refine V.weak [1, 3, 4, 5] (S2 := [(1, pT 2), (3, outV 5 zs), (4, .slice (some ⟨4, 0, none⟩) 16 16), (5, .int .i64 1)]) rfl ?_
    refine V.skip ?_
    refine blockQ_n ?_
    refine thenV_n ?_
    refine V.region ?_
    refine EV.runS (hcS K w0) 3 [1, 3, 4, 5] (S2 := [(1, pT 2), (3, outV 5 zs), (4, .slice (some ⟨4, 0, none⟩) 16 16), (5, .int .i64 2)]) rfl (by kernel_rfl) ?_
    refine EV.done rfl ?_
    exact loopV_n 14 (by decide) ⟨2, zs, g, N, rfl, by decide, by decide, by rw [hinv]; (have hz : p.num 1 = 0 := by (show p.i1 = 0; simp at h3; omega)); simp [upB, itemB, hz], hB, rfl, rfl⟩
  ·
   obtain rfl : k = 14 := by omega
   refine V.seq ?_
   refine V.sr ?_
   refine EV.run (hcS K w0) 2 [1, 3, 4, 5, 20] (S2 := [(1, pT 2), (3, outV 5 zs), (4, .slice (some ⟨4, 0, none⟩) 16 16), (5, .int .i64 2), (20, .bool true)]) (A2 := hp [r0, r1, pO fo fc zo zc co cc p 0 1, pO fo fc zo zc co cc p 0 1, tblO p, outO zs] g N) rfl (by kernel_rfl) ?_
   refine EV.done rfl ?_
   refine V.cond true (by kernel_rfl) (fun _ => ?_) (fun h => Bool.noConfusion h)
   refine V.weak [1, 3, 4, 5] (S2 := [(1, pT 2), (3, outV 5 zs), (4, .slice (some ⟨4, 0, none⟩) 16 16), (5, .int .i64 2)]) rfl ?_
   refine V.skip ?_
   refine thenV_n ?_
   refine V.seq ?_
   refine V.block ?_
   refine V.seq ?_
   refine V.sr ?_
   refine EV.runS (hcS K w0) 5 [1, 3, 4, 5, 27] (S2 := [(1, pT 2), (3, outV 5 zs), (4, .slice (some ⟨4, 0, none⟩) 16 16), (5, .int .i64 2), (27, .bool false)]) rfl (by kernel_rfl) ?_
   refine EV.done rfl ?_
   refine V.cond false (by kernel_rfl) (fun h => Bool.noConfusion h) (fun _ => ?_)
   refine V.weak [1, 3, 4, 5] (S2 := [(1, pT 2), (3, outV 5 zs), (4, .slice (some ⟨4, 0, none⟩) 16 16), (5, .int .i64 2)]) rfl ?_
   refine V.skip ?_
   refine thenV_n ?_
   refine V.sr ?_
   refine EV.runS (hcS K w0) 6 [1, 3, 4, 5, 42] (S2 := [(1, pT 2), (3, outV 5 zs), (4, .slice (some ⟨4, 0, none⟩) 16 16), (5, .int .i64 2), (42, .bool p.ht)]) rfl (by kernel_rfl) ?_
   refine EV.done rfl ?_
   refine V.cond (p.ht) (by kernel_rfl) (fun h4 => ?_) (fun h4 => ?_)
   ·
    refine V.weak [1, 3, 4, 5] (S2 := [(1, pT 2), (3, outV 5 zs), (4, .slice (some ⟨4, 0, none⟩) 16 16), (5, .int .i64 2)]) rfl ?_
    refine V.sr ?_
    refine EV.runS (hcS K w0) 1 [1, 3, 4, 5, 6] (S2 := [(1, pT 2), (3, outV 5 zs), (4, .slice (some ⟨4, 0, none⟩) 16 16), (5, .int .i64 2), (6, .slice none 0 0)]) rfl (by kernel_rfl) ?_
    refine EV.done rfl ?_
    refine V.seq ?_
    refine V.sr ?_
    refine EV.pad (by kernel_rfl) ?_
    refine EV.norm [1, 3, 4, 5, 6] (S2 := [(1, pT 2), (3, outV 5 zs), (4, .slice (some ⟨4, 0, none⟩) 16 16), (5, .int .i64 2), (6, outV 6 ([] : List Int))]) (A2 := hp [r0, r1, pO fo fc zo zc co cc p 0 1, pO fo fc zo zc co cc p 0 1, tblO p, outO zs, outO ([] : List Int)] g N) (by kernel_rfl) (by kernel_rfl) ?_
    refine EV.runS (hcS K w0) 1 [1, 3, 4, 5, 6, 7] (S2 := [(1, pT 2), (3, outV 5 zs), (4, .slice (some ⟨4, 0, none⟩) 16 16), (5, .int .i64 2), (6, outV 6 ([] : List Int)), (7, .int .i64 0)]) rfl (by kernel_rfl) ?_
    refine EV.done rfl ?_
    refine V.block ?_
    refine V.loop (fun k S A => ∃ (i : Nat) (g : Nat → AObj) (N : Nat), i + k = 17 ∧ i ≤ 16 ∧ Bulk g N ∧ S = [(1, pT 2), (3, outV 5 zs), (4, .slice (some ⟨4, 0, none⟩) 16 16), (5, .int .i64 2), (6, outV 6 (p.tok.take i)), (7, nI i)] ∧ A = hp [r0, r1, pO fo fc zo zc co cc p 0 1, pO fo fc zo zc co cc p 0 1, tblO p, outO zs, outO (p.tok.take i)] g N) 17 ⟨0, g, N, by decide, by decide, hB, rfl, rfl⟩ ?_
    rintro k S A ⟨i, g, N, hk, hi, hB, rfl, rfl⟩
    have hcase : i = 0 ∨ i = 1 ∨ i = 2 ∨ i = 3 ∨ i = 4 ∨ i = 5 ∨ i = 6 ∨ i = 7 ∨ i = 8 ∨ i = 9 ∨ i = 10 ∨ i = 11 ∨ i = 12 ∨ i = 13 ∨ i = 14 ∨ i = 15 ∨ i = 16 := by omega
    rcases hcase with rfl | rfl | rfl | rfl | rfl | rfl | rfl | rfl | rfl | rfl | rfl | rfl | rfl | rfl | rfl | rfl | rfl
    ·
     obtain rfl : k = 17 := by omega
     refine V.seq ?_
     refine V.sr ?_
     refine EV.run (hcS K w0) 2 [1, 3, 4, 5, 6, 7, 44] (S2 := [(1, pT 2), (3, outV 5 zs), (4, .slice (some ⟨4, 0, none⟩) 16 16), (5, .int .i64 2), (6, outV 6 (p.tok.take 0)), (7, .int .i64 0), (44, .bool true)]) (A2 := hp [r0, r1, pO fo fc zo zc co cc p 0 1, pO fo fc zo zc co cc p 0 1, tblO p, outO zs, outO (p.tok.take 0)] g N) rfl (by kernel_rfl) ?_
     refine EV.done rfl ?_
     refine V.cond true (by kernel_rfl) (fun _ => ?_) (fun h => Bool.noConfusion h)
     refine V.weak [1, 3, 4, 5, 6, 7] (S2 := [(1, pT 2), (3, outV 5 zs), (4, .slice (some ⟨4, 0, none⟩) 16 16), (5, .int .i64 2), (6, outV 6 (p.tok.take 0)), (7, .int .i64 0)]) rfl ?_
     refine V.skip ?_
     refine thenV_n ?_
     refine V.seq ?_
     refine V.block ?_
     refine V.region ?_
     refine EV.run (hcS K w0) 6 [1, 3, 4, 5, 7, 47, 52] (S2 := [(1, pT 2), (3, outV 5 zs), (4, .slice (some ⟨4, 0, none⟩) 16 16), (5, .int .i64 2), (7, .int .i64 0), (47, outV 6 (p.tok.take 0)), (52, .slice (some ⟨7, 0, none⟩) 1 1)]) (A2 := hp [r0, r1, pO fo fc zo zc co cc p 0 1, pO fo fc zo zc co cc p 0 1, tblO p, outO zs, outO (p.tok.take 0), .cells [.int .u8 p.t0] false false 1] g N) rfl (by kernel_rfl) ?_
     refine EV.app (hcS K w0) (zs := (p.tok.take 0)) (xs := [p.t0]) 6 53 [1, 3, 4, 5, 7] (S1 := [(1, pT 2), (3, outV 5 zs), (4, .slice (some ⟨4, 0, none⟩) 16 16), (5, .int .i64 2), (7, .int .i64 0)]) hB rfl rfl rfl rfl (by kernel_rfl) rfl (by kernel_rfl) (by kernel_rfl) (by kernel_rfl) (fun _ _ _ => rfl) (rowV_cells (k := 7) (zs := [p.t0]) rfl rfl (tokAt hpo 0 (by decide))) (tokTake hpo 0) (bl rfl) rfl (by kernel_rfl) (fun τ hτ => ⟨.inr (hro.obj _), .inr (hrc.obj _), .inr (ren_pcl (hro.rst (hτ 0 (by decide) (by decide) (by show 0 ≠ 8; decide))) (hrc.rst (hτ 1 (by decide) (by decide) (by show 1 ≠ 8; decide)))), .inr (ren_pcl (hro.rst (hτ 0 (by decide) (by decide) (by show 0 ≠ 8; decide))) (hrc.rst (hτ 1 (by decide) (by decide) (by show 1 ≠ 8; decide)))), .inr rfl, .inr (renO_outO _ _), .inl rfl, .inr rfl, trivial⟩) (by kernel_rfl) (by kernel_rfl) (fun τ hτ => (renS_cons (congrArg (fun q => Value.pointer (some ⟨q, 0, none⟩)) (hτ 2 (by decide) (by decide) (by show 2 ≠ 8; decide))) (renS_cons ((ren_outV τ 5 zs).trans (congrArg (fun q => outV q zs) (hτ 5 (by decide) (by decide) (by show 5 ≠ 8; decide)))) (renS_cons (congrArg (fun q => Value.slice (some ⟨q, 0, none⟩) 16 16) (hτ 4 (by decide) (by decide) (by show 4 ≠ 8; decide))) (renS_cons rfl (renS_cons rfl rfl)))))) ?_
     intro g N hB
     refine EV.norm [1, 3, 4, 5, 7, 53] (S2 := [(1, pT 2), (3, outV 5 zs), (4, .slice (some ⟨4, 0, none⟩) 16 16), (5, .int .i64 2), (7, .int .i64 0), (53, outV 6 ((p.tok.take 0) ++ [p.t0]))]) (A2 := hp [r0, r1, pO fo fc zo zc co cc p 0 1, pO fo fc zo zc co cc p 0 1, tblO p, outO zs, outO ((p.tok.take 0) ++ [p.t0]), .cells [.int .u8 p.t0] false false 1] g N) (by kernel_rfl) (by kernel_rfl) ?_
     refine EV.norm [1, 3, 4, 5, 7, 53] (S2 := [(1, pT 2), (3, outV 5 zs), (4, .slice (some ⟨4, 0, none⟩) 16 16), (5, .int .i64 2), (7, .int .i64 0), (53, outV 6 (p.tok.take 1))]) (A2 := hp [r0, r1, pO fo fc zo zc co cc p 0 1, pO fo fc zo zc co cc p 0 1, tblO p, outO zs, outO (p.tok.take 1), .cells [.int .u8 p.t0] false false 1] g N) (by kernel_rfl) (by kernel_rfl) ?_
     refine EV.reng hB [0, 1, 2, 3, 4, 5, 6, 64] [0, 1, 2, 3, 4, 5, 6] [1, 3, 4, 5, 7, 53] (S2 := [(1, pT 2), (3, outV 5 zs), (4, .slice (some ⟨4, 0, none⟩) 16 16), (5, .int .i64 2), (7, .int .i64 0), (53, outV 6 (p.tok.take 1))]) (s2 := [r0, r1, pO fo fc zo zc co cc p 0 1, pO fo fc zo zc co cc p 0 1, tblO p, outO zs, outO (p.tok.take 1)]) (by kernel_rfl) (by kernel_rfl) ⟨.inr ⟨(bl rfl), .inl ((hro.obj _).symm)⟩, .inr ⟨(bl rfl), .inl ((hrc.obj _).symm)⟩, .inr ⟨(bl rfl), .inl ((ren_pcl (τ := tau [0, 1, 2, 3, 4, 5, 6, 64] N) (vo := .slice (fo 0) zo.length co) (vc := .slice (fc 1) zc.length cc) (hro.ren _ 0) (hrc.ren _ 1)).symm)⟩, .inr ⟨(bl rfl), .inl ((ren_pcl (τ := tau [0, 1, 2, 3, 4, 5, 6, 64] N) (vo := .slice (fo 0) zo.length co) (vc := .slice (fc 1) zc.length cc) (hro.ren _ 0) (hrc.ren _ 1)).symm)⟩, .inr ⟨(bl rfl), .inl (rfl)⟩, .inr ⟨(bl rfl), .inl ((renO_outO (tau [0, 1, 2, 3, 4, 5, 6, 64] N) zs).symm)⟩, .inr ⟨(bl rfl), .inl ((renO_outO (tau [0, 1, 2, 3, 4, 5, 6, 64] N) (p.tok.take 1)).symm)⟩, .inl (by decide), trivial⟩ (renS_cons (rfl) (renS_cons (ren_outV (tau [0, 1, 2, 3, 4, 5, 6, 64] N) 5 zs) (renS_cons (rfl) (renS_cons (rfl) (renS_cons (rfl) (renS_cons (ren_outV (tau [0, 1, 2, 3, 4, 5, 6, 64] N) 6 (p.tok.take 1)) rfl)))))) ?_
     intro g N hB
     refine EV.run (hcS K w0) 8 [1, 3, 4, 5, 6, 7] (S2 := [(1, pT 2), (3, outV 5 zs), (4, .slice (some ⟨4, 0, none⟩) 16 16), (5, .int .i64 2), (6, outV 6 (p.tok.take 1)), (7, .int .i64 0)]) (A2 := hp [r0, r1, pO fo fc zo zc co cc p 0 1, pO fo fc zo zc co cc p 0 1, tblO p, outO zs, outO (p.tok.take 1)] g N) rfl (by kernel_rfl) ?_
     refine EV.done rfl ?_
     refine blockQ_n ?_
     refine thenV_n ?_
     refine V.region ?_
     refine EV.runS (hcS K w0) 3 [1, 3, 4, 5, 6, 7] (S2 := [(1, pT 2), (3, outV 5 zs), (4, .slice (some ⟨4, 0, none⟩) 16 16), (5, .int .i64 2), (6, outV 6 (p.tok.take 1)), (7, .int .i64 1)]) rfl (by kernel_rfl) ?_
     refine EV.done rfl ?_
     exact loopV_n 16 (by decide) ⟨1, g, N, rfl, by decide, hB, rfl, rfl⟩
    ·
     obtain rfl : k = 16 := by omega
     refine V.seq ?_
     refine V.sr ?_
     refine EV.run (hcS K w0) 2 [1, 3, 4, 5, 6, 7, 44] (S2 := [(1, pT 2), (3, outV 5 zs), (4, .slice (some ⟨4, 0, none⟩) 16 16), (5, .int .i64 2), (6, outV 6 (p.tok.take 1)), (7, .int .i64 1), (44, .bool true)]) (A2 := hp [r0, r1, pO fo fc zo zc co cc p 0 1, pO fo fc zo zc co cc p 0 1, tblO p, outO zs, outO (p.tok.take 1)] g N) rfl (by kernel_rfl) ?_
     refine EV.done rfl ?_
     refine V.cond true (by kernel_rfl) (fun _ => ?_) (fun h => Bool.noConfusion h)
     refine V.weak [1, 3, 4, 5, 6, 7] (S2 := [(1, pT 2), (3, outV 5 zs), (4, .slice (some ⟨4, 0, none⟩) 16 16), (5, .int .i64 2), (6, outV 6 (p.tok.take 1)), (7, .int .i64 1)]) rfl ?_
     refine V.skip ?_
     refine thenV_n ?_
     refine V.seq ?_
     refine V.block ?_
     refine V.region ?_
     refine EV.run (hcS K w0) 6 [1, 3, 4, 5, 7, 47, 52] (S2 := [(1, pT 2), (3, outV 5 zs), (4, .slice (some ⟨4, 0, none⟩) 16 16), (5, .int .i64 2), (7, .int .i64 1), (47, outV 6 (p.tok.take 1)), (52, .slice (some ⟨7, 0, none⟩) 1 1)]) (A2 := hp [r0, r1, pO fo fc zo zc co cc p 0 1, pO fo fc zo zc co cc p 0 1, tblO p, outO zs, outO (p.tok.take 1), .cells [.int .u8 p.t1] false false 1] g N) rfl (by kernel_rfl) ?_
     refine EV.app (hcS K w0) (zs := (p.tok.take 1)) (xs := [p.t1]) 6 53 [1, 3, 4, 5, 7] (S1 := [(1, pT 2), (3, outV 5 zs), (4, .slice (some ⟨4, 0, none⟩) 16 16), (5, .int .i64 2), (7, .int .i64 1)]) hB rfl rfl rfl rfl (by kernel_rfl) rfl (by kernel_rfl) (by kernel_rfl) (by kernel_rfl) (fun _ _ _ => rfl) (rowV_cells (k := 7) (zs := [p.t1]) rfl rfl (tokAt hpo 1 (by decide))) (tokTake hpo 1) (bl rfl) rfl (by kernel_rfl) (fun τ hτ => ⟨.inr (hro.obj _), .inr (hrc.obj _), .inr (ren_pcl (hro.rst (hτ 0 (by decide) (by decide) (by show 0 ≠ 8; decide))) (hrc.rst (hτ 1 (by decide) (by decide) (by show 1 ≠ 8; decide)))), .inr (ren_pcl (hro.rst (hτ 0 (by decide) (by decide) (by show 0 ≠ 8; decide))) (hrc.rst (hτ 1 (by decide) (by decide) (by show 1 ≠ 8; decide)))), .inr rfl, .inr (renO_outO _ _), .inl rfl, .inr rfl, trivial⟩) (by kernel_rfl) (by kernel_rfl) (fun τ hτ => (renS_cons (congrArg (fun q => Value.pointer (some ⟨q, 0, none⟩)) (hτ 2 (by decide) (by decide) (by show 2 ≠ 8; decide))) (renS_cons ((ren_outV τ 5 zs).trans (congrArg (fun q => outV q zs) (hτ 5 (by decide) (by decide) (by show 5 ≠ 8; decide)))) (renS_cons (congrArg (fun q => Value.slice (some ⟨q, 0, none⟩) 16 16) (hτ 4 (by decide) (by decide) (by show 4 ≠ 8; decide))) (renS_cons rfl (renS_cons rfl rfl)))))) ?_
     intro g N hB
     refine EV.norm [1, 3, 4, 5, 7, 53] (S2 := [(1, pT 2), (3, outV 5 zs), (4, .slice (some ⟨4, 0, none⟩) 16 16), (5, .int .i64 2), (7, .int .i64 1), (53, outV 6 ((p.tok.take 1) ++ [p.t1]))]) (A2 := hp [r0, r1, pO fo fc zo zc co cc p 0 1, pO fo fc zo zc co cc p 0 1, tblO p, outO zs, outO ((p.tok.take 1) ++ [p.t1]), .cells [.int .u8 p.t1] false false 1] g N) (by kernel_rfl) (by kernel_rfl) ?_
     refine EV.norm [1, 3, 4, 5, 7, 53] (S2 := [(1, pT 2), (3, outV 5 zs), (4, .slice (some ⟨4, 0, none⟩) 16 16), (5, .int .i64 2), (7, .int .i64 1), (53, outV 6 (p.tok.take 2))]) (A2 := hp [r0, r1, pO fo fc zo zc co cc p 0 1, pO fo fc zo zc co cc p 0 1, tblO p, outO zs, outO (p.tok.take 2), .cells [.int .u8 p.t1] false false 1] g N) (by kernel_rfl) (by kernel_rfl) ?_
     refine EV.reng hB [0, 1, 2, 3, 4, 5, 6, 64] [0, 1, 2, 3, 4, 5, 6] [1, 3, 4, 5, 7, 53] (S2 := [(1, pT 2), (3, outV 5 zs), (4, .slice (some ⟨4, 0, none⟩) 16 16), (5, .int .i64 2), (7, .int .i64 1), (53, outV 6 (p.tok.take 2))]) (s2 := [r0, r1, pO fo fc zo zc co cc p 0 1, pO fo fc zo zc co cc p 0 1, tblO p, outO zs, outO (p.tok.take 2)]) (by kernel_rfl) (by kernel_rfl) ⟨.inr ⟨(bl rfl), .inl ((hro.obj _).symm)⟩, .inr ⟨(bl rfl), .inl ((hrc.obj _).symm)⟩, .inr ⟨(bl rfl), .inl ((ren_pcl (τ := tau [0, 1, 2, 3, 4, 5, 6, 64] N) (vo := .slice (fo 0) zo.length co) (vc := .slice (fc 1) zc.length cc) (hro.ren _ 0) (hrc.ren _ 1)).symm)⟩, .inr ⟨(bl rfl), .inl ((ren_pcl (τ := tau [0, 1, 2, 3, 4, 5, 6, 64] N) (vo := .slice (fo 0) zo.length co) (vc := .slice (fc 1) zc.length cc) (hro.ren _ 0) (hrc.ren _ 1)).symm)⟩, .inr ⟨(bl rfl), .inl (rfl)⟩, .inr ⟨(bl rfl), .inl ((renO_outO (tau [0, 1, 2, 3, 4, 5, 6, 64] N) zs).symm)⟩, .inr ⟨(bl rfl), .inl ((renO_outO (tau [0, 1, 2, 3, 4, 5, 6, 64] N) (p.tok.take 2)).symm)⟩, .inl (by decide), trivial⟩ (renS_cons (rfl) (renS_cons (ren_outV (tau [0, 1, 2, 3, 4, 5, 6, 64] N) 5 zs) (renS_cons (rfl) (renS_cons (rfl) (renS_cons (rfl) (renS_cons (ren_outV (tau [0, 1, 2, 3, 4, 5, 6, 64] N) 6 (p.tok.take 2)) rfl)))))) ?_
     intro g N hB
     refine EV.run (hcS K w0) 8 [1, 3, 4, 5, 6, 7] (S2 := [(1, pT 2), (3, outV 5 zs), (4, .slice (some ⟨4, 0, none⟩) 16 16), (5, .int .i64 2), (6, outV 6 (p.tok.take 2)), (7, .int .i64 1)]) (A2 := hp [r0, r1, pO fo fc zo zc co cc p 0 1, pO fo fc zo zc co cc p 0 1, tblO p, outO zs, outO (p.tok.take 2)] g N) rfl (by kernel_rfl) ?_
     refine EV.done rfl ?_
     refine blockQ_n ?_
     refine thenV_n ?_
     refine V.region ?_
     refine EV.runS (hcS K w0) 3 [1, 3, 4, 5, 6, 7] (S2 := [(1, pT 2), (3, outV 5 zs), (4, .slice (some ⟨4, 0, none⟩) 16 16), (5, .int .i64 2), (6, outV 6 (p.tok.take 2)), (7, .int .i64 2)]) rfl (by kernel_rfl) ?_
     refine EV.done rfl ?_
     exact loopV_n 15 (by decide) ⟨2, g, N, rfl, by decide, hB, rfl, rfl⟩
    ·
     obtain rfl : k = 15 := by omega
     refine V.seq ?_
     refine V.sr ?_
     refine EV.run (hcS K w0) 2 [1, 3, 4, 5, 6, 7, 44] (S2 := [(1, pT 2), (3, outV 5 zs), (4, .slice (some ⟨4, 0, none⟩) 16 16), (5, .int .i64 2), (6, outV 6 (p.tok.take 2)), (7, .int .i64 2), (44, .bool true)]) (A2 := hp [r0, r1, pO fo fc zo zc co cc p 0 1, pO fo fc zo zc co cc p 0 1, tblO p, outO zs, outO (p.tok.take 2)] g N) rfl (by kernel_rfl) ?_
     refine EV.done rfl ?_
     refine V.cond true (by kernel_rfl) (fun _ => ?_) (fun h => Bool.noConfusion h)
     refine V.weak [1, 3, 4, 5, 6, 7] (S2 := [(1, pT 2), (3, outV 5 zs), (4, .slice (some ⟨4, 0, none⟩) 16 16), (5, .int .i64 2), (6, outV 6 (p.tok.take 2)), (7, .int .i64 2)]) rfl ?_
     refine V.skip ?_
     refine thenV_n ?_
     refine V.seq ?_
     refine V.block ?_
     refine V.region ?_
     refine EV.run (hcS K w0) 6 [1, 3, 4, 5, 7, 47, 52] (S2 := [(1, pT 2), (3, outV 5 zs), (4, .slice (some ⟨4, 0, none⟩) 16 16), (5, .int .i64 2), (7, .int .i64 2), (47, outV 6 (p.tok.take 2)), (52, .slice (some ⟨7, 0, none⟩) 1 1)]) (A2 := hp [r0, r1, pO fo fc zo zc co cc p 0 1, pO fo fc zo zc co cc p 0 1, tblO p, outO zs, outO (p.tok.take 2), .cells [.int .u8 p.t2] false false 1] g N) rfl (by kernel_rfl) ?_
     refine EV.app (hcS K w0) (zs := (p.tok.take 2)) (xs := [p.t2]) 6 53 [1, 3, 4, 5, 7] (S1 := [(1, pT 2), (3, outV 5 zs), (4, .slice (some ⟨4, 0, none⟩) 16 16), (5, .int .i64 2), (7, .int .i64 2)]) hB rfl rfl rfl rfl (by kernel_rfl) rfl (by kernel_rfl) (by kernel_rfl) (by kernel_rfl) (fun _ _ _ => rfl) (rowV_cells (k := 7) (zs := [p.t2]) rfl rfl (tokAt hpo 2 (by decide))) (tokTake hpo 2) (bl rfl) rfl (by kernel_rfl) (fun τ hτ => ⟨.inr (hro.obj _), .inr (hrc.obj _), .inr (ren_pcl (hro.rst (hτ 0 (by decide) (by decide) (by show 0 ≠ 8; decide))) (hrc.rst (hτ 1 (by decide) (by decide) (by show 1 ≠ 8; decide)))), .inr (ren_pcl (hro.rst (hτ 0 (by decide) (by decide) (by show 0 ≠ 8; decide))) (hrc.rst (hτ 1 (by decide) (by decide) (by show 1 ≠ 8; decide)))), .inr rfl, .inr (renO_outO _ _), .inl rfl, .inr rfl, trivial⟩) (by kernel_rfl) (by kernel_rfl) (fun τ hτ => (renS_cons (congrArg (fun q => Value.pointer (some ⟨q, 0, none⟩)) (hτ 2 (by decide) (by decide) (by show 2 ≠ 8; decide))) (renS_cons ((ren_outV τ 5 zs).trans (congrArg (fun q => outV q zs) (hτ 5 (by decide) (by decide) (by show 5 ≠ 8; decide)))) (renS_cons (congrArg (fun q => Value.slice (some ⟨q, 0, none⟩) 16 16) (hτ 4 (by decide) (by decide) (by show 4 ≠ 8; decide))) (renS_cons rfl (renS_cons rfl rfl)))))) ?_
     intro g N hB
     refine EV.norm [1, 3, 4, 5, 7, 53] (S2 := [(1, pT 2), (3, outV 5 zs), (4, .slice (some ⟨4, 0, none⟩) 16 16), (5, .int .i64 2), (7, .int .i64 2), (53, outV 6 ((p.tok.take 2) ++ [p.t2]))]) (A2 := hp [r0, r1, pO fo fc zo zc co cc p 0 1, pO fo fc zo zc co cc p 0 1, tblO p, outO zs, outO ((p.tok.take 2) ++ [p.t2]), .cells [.int .u8 p.t2] false false 1] g N) (by kernel_rfl) (by kernel_rfl) ?_
     refine EV.norm [1, 3, 4, 5, 7, 53] (S2 := [(1, pT 2), (3, outV 5 zs), (4, .slice (some ⟨4, 0, none⟩) 16 16), (5, .int .i64 2), (7, .int .i64 2), (53, outV 6 (p.tok.take 3))]) (A2 := hp [r0, r1, pO fo fc zo zc co cc p 0 1, pO fo fc zo zc co cc p 0 1, tblO p, outO zs, outO (p.tok.take 3), .cells [.int .u8 p.t2] false false 1] g N) (by kernel_rfl) (by kernel_rfl) ?_
     refine EV.reng hB [0, 1, 2, 3, 4, 5, 6, 64] [0, 1, 2, 3, 4, 5, 6] [1, 3, 4, 5, 7, 53] (S2 := [(1, pT 2), (3, outV 5 zs), (4, .slice (some ⟨4, 0, none⟩) 16 16), (5, .int .i64 2), (7, .int .i64 2), (53, outV 6 (p.tok.take 3))]) (s2 := [r0, r1, pO fo fc zo zc co cc p 0 1, pO fo fc zo zc co cc p 0 1, tblO p, outO zs, outO (p.tok.take 3)]) (by kernel_rfl) (by kernel_rfl) ⟨.inr ⟨(bl rfl), .inl ((hro.obj _).symm)⟩, .inr ⟨(bl rfl), .inl ((hrc.obj _).symm)⟩, .inr ⟨(bl rfl), .inl ((ren_pcl (τ := tau [0, 1, 2, 3, 4, 5, 6, 64] N) (vo := .slice (fo 0) zo.length co) (vc := .slice (fc 1) zc.length cc) (hro.ren _ 0) (hrc.ren _ 1)).symm)⟩, .inr ⟨(bl rfl), .inl ((ren_pcl (τ := tau [0, 1, 2, 3, 4, 5, 6, 64] N) (vo := .slice (fo 0) zo.length co) (vc := .slice (fc 1) zc.length cc) (hro.ren _ 0) (hrc.ren _ 1)).symm)⟩, .inr ⟨(bl rfl), .inl (rfl)⟩, .inr ⟨(bl rfl), .inl ((renO_outO (tau [0, 1, 2, 3, 4, 5, 6, 64] N) zs).symm)⟩, .inr ⟨(bl rfl), .inl ((renO_outO (tau [0, 1, 2, 3, 4, 5, 6, 64] N) (p.tok.take 3)).symm)⟩, .inl (by decide), trivial⟩ (renS_cons (rfl) (renS_cons (ren_outV (tau [0, 1, 2, 3, 4, 5, 6, 64] N) 5 zs) (renS_cons (rfl) (renS_cons (rfl) (renS_cons (rfl) (renS_cons (ren_outV (tau [0, 1, 2, 3, 4, 5, 6, 64] N) 6 (p.tok.take 3)) rfl)))))) ?_
     intro g N hB
     refine EV.run (hcS K w0) 8 [1, 3, 4, 5, 6, 7] (S2 := [(1, pT 2), (3, outV 5 zs), (4, .slice (some ⟨4, 0, none⟩) 16 16), (5, .int .i64 2), (6, outV 6 (p.tok.take 3)), (7, .int .i64 2)]) (A2 := hp [r0, r1, pO fo fc zo zc co cc p 0 1, pO fo fc zo zc co cc p 0 1, tblO p, outO zs, outO (p.tok.take 3)] g N) rfl (by kernel_rfl) ?_
     refine EV.done rfl ?_
     refine blockQ_n ?_
     refine thenV_n ?_
     refine V.region ?_
     refine EV.runS (hcS K w0) 3 [1, 3, 4, 5, 6, 7] (S2 := [(1, pT 2), (3, outV 5 zs), (4, .slice (some ⟨4, 0, none⟩) 16 16), (5, .int .i64 2), (6, outV 6 (p.tok.take 3)), (7, .int .i64 3)]) rfl (by kernel_rfl) ?_
     refine EV.done rfl ?_
     exact loopV_n 14 (by decide) ⟨3, g, N, rfl, by decide, hB, rfl, rfl⟩
    ·
     obtain rfl : k = 14 := by omega
     refine V.seq ?_
     refine V.sr ?_
     refine EV.run (hcS K w0) 2 [1, 3, 4, 5, 6, 7, 44] (S2 := [(1, pT 2), (3, outV 5 zs), (4, .slice (some ⟨4, 0, none⟩) 16 16), (5, .int .i64 2), (6, outV 6 (p.tok.take 3)), (7, .int .i64 3), (44, .bool true)]) (A2 := hp [r0, r1, pO fo fc zo zc co cc p 0 1, pO fo fc zo zc co cc p 0 1, tblO p, outO zs, outO (p.tok.take 3)] g N) rfl (by kernel_rfl) ?_
     refine EV.done rfl ?_
     refine V.cond true (by kernel_rfl) (fun _ => ?_) (fun h => Bool.noConfusion h)
     refine V.weak [1, 3, 4, 5, 6, 7] (S2 := [(1, pT 2), (3, outV 5 zs), (4, .slice (some ⟨4, 0, none⟩) 16 16), (5, .int .i64 2), (6, outV 6 (p.tok.take 3)), (7, .int .i64 3)]) rfl ?_
     refine V.skip ?_
     refine thenV_n ?_
     refine V.seq ?_
     refine V.block ?_
     refine V.region ?_
     refine EV.run (hcS K w0) 6 [1, 3, 4, 5, 7, 47, 52] (S2 := [(1, pT 2), (3, outV 5 zs), (4, .slice (some ⟨4, 0, none⟩) 16 16), (5, .int .i64 2), (7, .int .i64 3), (47, outV 6 (p.tok.take 3)), (52, .slice (some ⟨7, 0, none⟩) 1 1)]) (A2 := hp [r0, r1, pO fo fc zo zc co cc p 0 1, pO fo fc zo zc co cc p 0 1, tblO p, outO zs, outO (p.tok.take 3), .cells [.int .u8 p.t3] false false 1] g N) rfl (by kernel_rfl) ?_
     refine EV.app (hcS K w0) (zs := (p.tok.take 3)) (xs := [p.t3]) 6 53 [1, 3, 4, 5, 7] (S1 := [(1, pT 2), (3, outV 5 zs), (4, .slice (some ⟨4, 0, none⟩) 16 16), (5, .int .i64 2), (7, .int .i64 3)]) hB rfl rfl rfl rfl (by kernel_rfl) rfl (by kernel_rfl) (by kernel_rfl) (by kernel_rfl) (fun _ _ _ => rfl) (rowV_cells (k := 7) (zs := [p.t3]) rfl rfl (tokAt hpo 3 (by decide))) (tokTake hpo 3) (bl rfl) rfl (by kernel_rfl) (fun τ hτ => ⟨.inr (hro.obj _), .inr (hrc.obj _), .inr (ren_pcl (hro.rst (hτ 0 (by decide) (by decide) (by show 0 ≠ 8; decide))) (hrc.rst (hτ 1 (by decide) (by decide) (by show 1 ≠ 8; decide)))), .inr (ren_pcl (hro.rst (hτ 0 (by decide) (by decide) (by show 0 ≠ 8; decide))) (hrc.rst (hτ 1 (by decide) (by decide) (by show 1 ≠ 8; decide)))), .inr rfl, .inr (renO_outO _ _), .inl rfl, .inr rfl, trivial⟩) (by kernel_rfl) (by kernel_rfl) (fun τ hτ => (renS_cons (congrArg (fun q => Value.pointer (some ⟨q, 0, none⟩)) (hτ 2 (by decide) (by decide) (by show 2 ≠ 8; decide))) (renS_cons ((ren_outV τ 5 zs).trans (congrArg (fun q => outV q zs) (hτ 5 (by decide) (by decide) (by show 5 ≠ 8; decide)))) (renS_cons (congrArg (fun q => Value.slice (some ⟨q, 0, none⟩) 16 16) (hτ 4 (by decide) (by decide) (by show 4 ≠ 8; decide))) (renS_cons rfl (renS_cons rfl rfl)))))) ?_
     intro g N hB
     refine EV.norm [1, 3, 4, 5, 7, 53] (S2 := [(1, pT 2), (3, outV 5 zs), (4, .slice (some ⟨4, 0, none⟩) 16 16), (5, .int .i64 2), (7, .int .i64 3), (53, outV 6 ((p.tok.take 3) ++ [p.t3]))]) (A2 := hp [r0, r1, pO fo fc zo zc co cc p 0 1, pO fo fc zo zc co cc p 0 1, tblO p, outO zs, outO ((p.tok.take 3) ++ [p.t3]), .cells [.int .u8 p.t3] false false 1] g N) (by kernel_rfl) (by kernel_rfl) ?_
     refine EV.norm [1, 3, 4, 5, 7, 53] (S2 := [(1, pT 2), (3, outV 5 zs), (4, .slice (some ⟨4, 0, none⟩) 16 16), (5, .int .i64 2), (7, .int .i64 3), (53, outV 6 (p.tok.take 4))]) (A2 := hp [r0, r1, pO fo fc zo zc co cc p 0 1, pO fo fc zo zc co cc p 0 1, tblO p, outO zs, outO (p.tok.take 4), .cells [.int .u8 p.t3] false false 1] g N) (by kernel_rfl) (by kernel_rfl) ?_
     refine EV.reng hB [0, 1, 2, 3, 4, 5, 6, 64] [0, 1, 2, 3, 4, 5, 6] [1, 3, 4, 5, 7, 53] (S2 := [(1, pT 2), (3, outV 5 zs), (4, .slice (some ⟨4, 0, none⟩) 16 16), (5, .int .i64 2), (7, .int .i64 3), (53, outV 6 (p.tok.take 4))]) (s2 := [r0, r1, pO fo fc zo zc co cc p 0 1, pO fo fc zo zc co cc p 0 1, tblO p, outO zs, outO (p.tok.take 4)]) (by kernel_rfl) (by kernel_rfl) ⟨.inr ⟨(bl rfl), .inl ((hro.obj _).symm)⟩, .inr ⟨(bl rfl), .inl ((hrc.obj _).symm)⟩, .inr ⟨(bl rfl), .inl ((ren_pcl (τ := tau [0, 1, 2, 3, 4, 5, 6, 64] N) (vo := .slice (fo 0) zo.length co) (vc := .slice (fc 1) zc.length cc) (hro.ren _ 0) (hrc.ren _ 1)).symm)⟩, .inr ⟨(bl rfl), .inl ((ren_pcl (τ := tau [0, 1, 2, 3, 4, 5, 6, 64] N) (vo := .slice (fo 0) zo.length co) (vc := .slice (fc 1) zc.length cc) (hro.ren _ 0) (hrc.ren _ 1)).symm)⟩, .inr ⟨(bl rfl), .inl (rfl)⟩, .inr ⟨(bl rfl), .inl ((renO_outO (tau [0, 1, 2, 3, 4, 5, 6, 64] N) zs).symm)⟩, .inr ⟨(bl rfl), .inl ((renO_outO (tau [0, 1, 2, 3, 4, 5, 6, 64] N) (p.tok.take 4)).symm)⟩, .inl (by decide), trivial⟩ (renS_cons (rfl) (renS_cons (ren_outV (tau [0, 1, 2, 3, 4, 5, 6, 64] N) 5 zs) (renS_cons (rfl) (renS_cons (rfl) (renS_cons (rfl) (renS_cons (ren_outV (tau [0, 1, 2, 3, 4, 5, 6, 64] N) 6 (p.tok.take 4)) rfl)))))) ?_
     intro g N hB
     refine EV.run (hcS K w0) 8 [1, 3, 4, 5, 6, 7] (S2 := [(1, pT 2), (3, outV 5 zs), (4, .slice (some ⟨4, 0, none⟩) 16 16), (5, .int .i64 2), (6, outV 6 (p.tok.take 4)), (7, .int .i64 3)]) (A2 := hp [r0, r1, pO fo fc zo zc co cc p 0 1, pO fo fc zo zc co cc p 0 1, tblO p, outO zs, outO (p.tok.take 4)] g N) rfl (by kernel_rfl) ?_
     refine EV.done rfl ?_
     refine blockQ_n ?_
     refine thenV_n ?_
     refine V.region ?_
     refine EV.runS (hcS K w0) 3 [1, 3, 4, 5, 6, 7] (S2 := [(1, pT 2), (3, outV 5 zs), (4, .slice (some ⟨4, 0, none⟩) 16 16), (5, .int .i64 2), (6, outV 6 (p.tok.take 4)), (7, .int .i64 4)]) rfl (by kernel_rfl) ?_
     refine EV.done rfl ?_
     exact loopV_n 13 (by decide) ⟨4, g, N, rfl, by decide, hB, rfl, rfl⟩
    ·
     obtain rfl : k = 13 := by omega
     refine V.seq ?_
     refine V.sr ?_
     refine EV.run (hcS K w0) 2 [1, 3, 4, 5, 6, 7, 44] (S2 := [(1, pT 2), (3, outV 5 zs), (4, .slice (some ⟨4, 0, none⟩) 16 16), (5, .int .i64 2), (6, outV 6 (p.tok.take 4)), (7, .int .i64 4), (44, .bool true)]) (A2 := hp [r0, r1, pO fo fc zo zc co cc p 0 1, pO fo fc zo zc co cc p 0 1, tblO p, outO zs, outO (p.tok.take 4)] g N) rfl (by kernel_rfl) ?_
     refine EV.done rfl ?_
     refine V.cond true (by kernel_rfl) (fun _ => ?_) (fun h => Bool.noConfusion h)
     refine V.weak [1, 3, 4, 5, 6, 7] (S2 := [(1, pT 2), (3, outV 5 zs), (4, .slice (some ⟨4, 0, none⟩) 16 16), (5, .int .i64 2), (6, outV 6 (p.tok.take 4)), (7, .int .i64 4)]) rfl ?_
     refine V.skip ?_
     refine thenV_n ?_
     refine V.seq ?_
     refine V.block ?_
     refine V.region ?_
     refine EV.run (hcS K w0) 6 [1, 3, 4, 5, 7, 47, 52] (S2 := [(1, pT 2), (3, outV 5 zs), (4, .slice (some ⟨4, 0, none⟩) 16 16), (5, .int .i64 2), (7, .int .i64 4), (47, outV 6 (p.tok.take 4)), (52, .slice (some ⟨7, 0, none⟩) 1 1)]) (A2 := hp [r0, r1, pO fo fc zo zc co cc p 0 1, pO fo fc zo zc co cc p 0 1, tblO p, outO zs, outO (p.tok.take 4), .cells [.int .u8 p.t4] false false 1] g N) rfl (by kernel_rfl) ?_
     refine EV.app (hcS K w0) (zs := (p.tok.take 4)) (xs := [p.t4]) 6 53 [1, 3, 4, 5, 7] (S1 := [(1, pT 2), (3, outV 5 zs), (4, .slice (some ⟨4, 0, none⟩) 16 16), (5, .int .i64 2), (7, .int .i64 4)]) hB rfl rfl rfl rfl (by kernel_rfl) rfl (by kernel_rfl) (by kernel_rfl) (by kernel_rfl) (fun _ _ _ => rfl) (rowV_cells (k := 7) (zs := [p.t4]) rfl rfl (tokAt hpo 4 (by decide))) (tokTake hpo 4) (bl rfl) rfl (by kernel_rfl) (fun τ hτ => ⟨.inr (hro.obj _), .inr (hrc.obj _), .inr (ren_pcl (hro.rst (hτ 0 (by decide) (by decide) (by show 0 ≠ 8; decide))) (hrc.rst (hτ 1 (by decide) (by decide) (by show 1 ≠ 8; decide)))), .inr (ren_pcl (hro.rst (hτ 0 (by decide) (by decide) (by show 0 ≠ 8; decide))) (hrc.rst (hτ 1 (by decide) (by decide) (by show 1 ≠ 8; decide)))), .inr rfl, .inr (renO_outO _ _), .inl rfl, .inr rfl, trivial⟩) (by kernel_rfl) (by kernel_rfl) (fun τ hτ => (renS_cons (congrArg (fun q => Value.pointer (some ⟨q, 0, none⟩)) (hτ 2 (by decide) (by decide) (by show 2 ≠ 8; decide))) (renS_cons ((ren_outV τ 5 zs).trans (congrArg (fun q => outV q zs) (hτ 5 (by decide) (by decide) (by show 5 ≠ 8; decide)))) (renS_cons (congrArg (fun q => Value.slice (some ⟨q, 0, none⟩) 16 16) (hτ 4 (by decide) (by decide) (by show 4 ≠ 8; decide))) (renS_cons rfl (renS_cons rfl rfl)))))) ?_
     intro g N hB
     refine EV.norm [1, 3, 4, 5, 7, 53] (S2 := [(1, pT 2), (3, outV 5 zs), (4, .slice (some ⟨4, 0, none⟩) 16 16), (5, .int .i64 2), (7, .int .i64 4), (53, outV 6 ((p.tok.take 4) ++ [p.t4]))]) (A2 := hp [r0, r1, pO fo fc zo zc co cc p 0 1, pO fo fc zo zc co cc p 0 1, tblO p, outO zs, outO ((p.tok.take 4) ++ [p.t4]), .cells [.int .u8 p.t4] false false 1] g N) (by kernel_rfl) (by kernel_rfl) ?_
     refine EV.norm [1, 3, 4, 5, 7, 53] (S2 := [(1, pT 2), (3, outV 5 zs), (4, .slice (some ⟨4, 0, none⟩) 16 16), (5, .int .i64 2), (7, .int .i64 4), (53, outV 6 (p.tok.take 5))]) (A2 := hp [r0, r1, pO fo fc zo zc co cc p 0 1, pO fo fc zo zc co cc p 0 1, tblO p, outO zs, outO (p.tok.take 5), .cells [.int .u8 p.t4] false false 1] g N) (by kernel_rfl) (by kernel_rfl) ?_
     refine EV.reng hB [0, 1, 2, 3, 4, 5, 6, 64] [0, 1, 2, 3, 4, 5, 6] [1, 3, 4, 5, 7, 53] (S2 := [(1, pT 2), (3, outV 5 zs), (4, .slice (some ⟨4, 0, none⟩) 16 16), (5, .int .i64 2), (7, .int .i64 4), (53, outV 6 (p.tok.take 5))]) (s2 := [r0, r1, pO fo fc zo zc co cc p 0 1, pO fo fc zo zc co cc p 0 1, tblO p, outO zs, outO (p.tok.take 5)]) (by kernel_rfl) (by kernel_rfl) ⟨.inr ⟨(bl rfl), .inl ((hro.obj _).symm)⟩, .inr ⟨(bl rfl), .inl ((hrc.obj _).symm)⟩, .inr ⟨(bl rfl), .inl ((ren_pcl (τ := tau [0, 1, 2, 3, 4, 5, 6, 64] N) (vo := .slice (fo 0) zo.length co) (vc := .slice (fc 1) zc.length cc) (hro.ren _ 0) (hrc.ren _ 1)).symm)⟩, .inr ⟨(bl rfl), .inl ((ren_pcl (τ := tau [0, 1, 2, 3, 4, 5, 6, 64] N) (vo := .slice (fo 0) zo.length co) (vc := .slice (fc 1) zc.length cc) (hro.ren _ 0) (hrc.ren _ 1)).symm)⟩, .inr ⟨(bl rfl), .inl (rfl)⟩, .inr ⟨(bl rfl), .inl ((renO_outO (tau [0, 1, 2, 3, 4, 5, 6, 64] N) zs).symm)⟩, .inr ⟨(bl rfl), .inl ((renO_outO (tau [0, 1, 2, 3, 4, 5, 6, 64] N) (p.tok.take 5)).symm)⟩, .inl (by decide), trivial⟩ (renS_cons (rfl) (renS_cons (ren_outV (tau [0, 1, 2, 3, 4, 5, 6, 64] N) 5 zs) (renS_cons (rfl) (renS_cons (rfl) (renS_cons (rfl) (renS_cons (ren_outV (tau [0, 1, 2, 3, 4, 5, 6, 64] N) 6 (p.tok.take 5)) rfl)))))) ?_
     intro g N hB
     refine EV.run (hcS K w0) 8 [1, 3, 4, 5, 6, 7] (S2 := [(1, pT 2), (3, outV 5 zs), (4, .slice (some ⟨4, 0, none⟩) 16 16), (5, .int .i64 2), (6, outV 6 (p.tok.take 5)), (7, .int .i64 4)]) (A2 := hp [r0, r1, pO fo fc zo zc co cc p 0 1, pO fo fc zo zc co cc p 0 1, tblO p, outO zs, outO (p.tok.take 5)] g N) rfl (by kernel_rfl) ?_
     refine EV.done rfl ?_
     refine blockQ_n ?_
     refine thenV_n ?_
     refine V.region ?_
     refine EV.runS (hcS K w0) 3 [1, 3, 4, 5, 6, 7] (S2 := [(1, pT 2), (3, outV 5 zs), (4, .slice (some ⟨4, 0, none⟩) 16 16), (5, .int .i64 2), (6, outV 6 (p.tok.take 5)), (7, .int .i64 5)]) rfl (by kernel_rfl) ?_
     refine EV.done rfl ?_
     exact loopV_n 12 (by decide) ⟨5, g, N, rfl, by decide, hB, rfl, rfl⟩
    ·
     obtain rfl : k = 12 := by omega
     refine V.seq ?_
     refine V.sr ?_
     refine EV.run (hcS K w0) 2 [1, 3, 4, 5, 6, 7, 44] (S2 := [(1, pT 2), (3, outV 5 zs), (4, .slice (some ⟨4, 0, none⟩) 16 16), (5, .int .i64 2), (6, outV 6 (p.tok.take 5)), (7, .int .i64 5), (44, .bool true)]) (A2 := hp [r0, r1, pO fo fc zo zc co cc p 0 1, pO fo fc zo zc co cc p 0 1, tblO p, outO zs, outO (p.tok.take 5)] g N) rfl (by kernel_rfl) ?_
     refine EV.done rfl ?_
     refine V.cond true (by kernel_rfl) (fun _ => ?_) (fun h => Bool.noConfusion h)
     refine V.weak [1, 3, 4, 5, 6, 7] (S2 := [(1, pT 2), (3, outV 5 zs), (4, .slice (some ⟨4, 0, none⟩) 16 16), (5, .int .i64 2), (6, outV 6 (p.tok.take 5)), (7, .int .i64 5)]) rfl ?_
     refine V.skip ?_
     refine thenV_n ?_
     refine V.seq ?_
     refine V.block ?_
     refine V.region ?_
     refine EV.run (hcS K w0) 6 [1, 3, 4, 5, 7, 47, 52] (S2 := [(1, pT 2), (3, outV 5 zs), (4, .slice (some ⟨4, 0, none⟩) 16 16), (5, .int .i64 2), (7, .int .i64 5), (47, outV 6 (p.tok.take 5)), (52, .slice (some ⟨7, 0, none⟩) 1 1)]) (A2 := hp [r0, r1, pO fo fc zo zc co cc p 0 1, pO fo fc zo zc co cc p 0 1, tblO p, outO zs, outO (p.tok.take 5), .cells [.int .u8 p.t5] false false 1] g N) rfl (by kernel_rfl) ?_
     refine EV.app (hcS K w0) (zs := (p.tok.take 5)) (xs := [p.t5]) 6 53 [1, 3, 4, 5, 7] (S1 := [(1, pT 2), (3, outV 5 zs), (4, .slice (some ⟨4, 0, none⟩) 16 16), (5, .int .i64 2), (7, .int .i64 5)]) hB rfl rfl rfl rfl (by kernel_rfl) rfl (by kernel_rfl) (by kernel_rfl) (by kernel_rfl) (fun _ _ _ => rfl) (rowV_cells (k := 7) (zs := [p.t5]) rfl rfl (tokAt hpo 5 (by decide))) (tokTake hpo 5) (bl rfl) rfl (by kernel_rfl) (fun τ hτ => ⟨.inr (hro.obj _), .inr (hrc.obj _), .inr (ren_pcl (hro.rst (hτ 0 (by decide) (by decide) (by show 0 ≠ 8; decide))) (hrc.rst (hτ 1 (by decide) (by decide) (by show 1 ≠ 8; decide)))), .inr (ren_pcl (hro.rst (hτ 0 (by decide) (by decide) (by show 0 ≠ 8; decide))) (hrc.rst (hτ 1 (by decide) (by decide) (by show 1 ≠ 8; decide)))), .inr rfl, .inr (renO_outO _ _), .inl rfl, .inr rfl, trivial⟩) (by kernel_rfl) (by kernel_rfl) (fun τ hτ => (renS_cons (congrArg (fun q => Value.pointer (some ⟨q, 0, none⟩)) (hτ 2 (by decide) (by decide) (by show 2 ≠ 8; decide))) (renS_cons ((ren_outV τ 5 zs).trans (congrArg (fun q => outV q zs) (hτ 5 (by decide) (by decide) (by show 5 ≠ 8; decide)))) (renS_cons (congrArg (fun q => Value.slice (some ⟨q, 0, none⟩) 16 16) (hτ 4 (by decide) (by decide) (by show 4 ≠ 8; decide))) (renS_cons rfl (renS_cons rfl rfl)))))) ?_
     intro g N hB
     refine EV.norm [1, 3, 4, 5, 7, 53] (S2 := [(1, pT 2), (3, outV 5 zs), (4, .slice (some ⟨4, 0, none⟩) 16 16), (5, .int .i64 2), (7, .int .i64 5), (53, outV 6 ((p.tok.take 5) ++ [p.t5]))]) (A2 := hp [r0, r1, pO fo fc zo zc co cc p 0 1, pO fo fc zo zc co cc p 0 1, tblO p, outO zs, outO ((p.tok.take 5) ++ [p.t5]), .cells [.int .u8 p.t5] false false 1] g N) (by kernel_rfl) (by kernel_rfl) ?_
     refine EV.norm [1, 3, 4, 5, 7, 53] (S2 := [(1, pT 2), (3, outV 5 zs), (4, .slice (some ⟨4, 0, none⟩) 16 16), (5, .int .i64 2), (7, .int .i64 5), (53, outV 6 (p.tok.take 6))]) (A2 := hp [r0, r1, pO fo fc zo zc co cc p 0 1, pO fo fc zo zc co cc p 0 1, tblO p, outO zs, outO (p.tok.take 6), .cells [.int .u8 p.t5] false false 1] g N) (by kernel_rfl) (by kernel_rfl) ?_
     refine EV.reng hB [0, 1, 2, 3, 4, 5, 6, 64] [0, 1, 2, 3, 4, 5, 6] [1, 3, 4, 5, 7, 53] (S2 := [(1, pT 2), (3, outV 5 zs), (4, .slice (some ⟨4, 0, none⟩) 16 16), (5, .int .i64 2), (7, .int .i64 5), (53, outV 6 (p.tok.take 6))]) (s2 := [r0, r1, pO fo fc zo zc co cc p 0 1, pO fo fc zo zc co cc p 0 1, tblO p, outO zs, outO (p.tok.take 6)]) (by kernel_rfl) (by kernel_rfl) ⟨.inr ⟨(bl rfl), .inl ((hro.obj _).symm)⟩, .inr ⟨(bl rfl), .inl ((hrc.obj _).symm)⟩, .inr ⟨(bl rfl), .inl ((ren_pcl (τ := tau [0, 1, 2, 3, 4, 5, 6, 64] N) (vo := .slice (fo 0) zo.length co) (vc := .slice (fc 1) zc.length cc) (hro.ren _ 0) (hrc.ren _ 1)).symm)⟩, .inr ⟨(bl rfl), .inl ((ren_pcl (τ := tau [0, 1, 2, 3, 4, 5, 6, 64] N) (vo := .slice (fo 0) zo.length co) (vc := .slice (fc 1) zc.length cc) (hro.ren _ 0) (hrc.ren _ 1)).symm)⟩, .inr ⟨(bl rfl), .inl (rfl)⟩, .inr ⟨(bl rfl), .inl ((renO_outO (tau [0, 1, 2, 3, 4, 5, 6, 64] N) zs).symm)⟩, .inr ⟨(bl rfl), .inl ((renO_outO (tau [0, 1, 2, 3, 4, 5, 6, 64] N) (p.tok.take 6)).symm)⟩, .inl (by decide), trivial⟩ (renS_cons (rfl) (renS_cons (ren_outV (tau [0, 1, 2, 3, 4, 5, 6, 64] N) 5 zs) (renS_cons (rfl) (renS_cons (rfl) (renS_cons (rfl) (renS_cons (ren_outV (tau [0, 1, 2, 3, 4, 5, 6, 64] N) 6 (p.tok.take 6)) rfl)))))) ?_
     intro g N hB
     refine EV.run (hcS K w0) 8 [1, 3, 4, 5, 6, 7] (S2 := [(1, pT 2), (3, outV 5 zs), (4, .slice (some ⟨4, 0, none⟩) 16 16), (5, .int .i64 2), (6, outV 6 (p.tok.take 6)), (7, .int .i64 5)]) (A2 := hp [r0, r1, pO fo fc zo zc co cc p 0 1, pO fo fc zo zc co cc p 0 1, tblO p, outO zs, outO (p.tok.take 6)] g N) rfl (by kernel_rfl) ?_
     refine EV.done rfl ?_
     refine blockQ_n ?_
     refine thenV_n ?_
     refine V.region ?_
     refine EV.runS (hcS K w0) 3 [1, 3, 4, 5, 6, 7] (S2 := [(1, pT 2), (3, outV 5 zs), (4, .slice (some ⟨4, 0, none⟩) 16 16), (5, .int .i64 2), (6, outV 6 (p.tok.take 6)), (7, .int .i64 6)]) rfl (by kernel_rfl) ?_
     refine EV.done rfl ?_
     exact loopV_n 11 (by decide) ⟨6, g, N, rfl, by decide, hB, rfl, rfl⟩
    ·
     obtain rfl : k = 11 := by omega
     refine V.seq ?_
     refine V.sr ?_
     refine EV.run (hcS K w0) 2 [1, 3, 4, 5, 6, 7, 44] (S2 := [(1, pT 2), (3, outV 5 zs), (4, .slice (some ⟨4, 0, none⟩) 16 16), (5, .int .i64 2), (6, outV 6 (p.tok.take 6)), (7, .int .i64 6), (44, .bool true)]) (A2 := hp [r0, r1, pO fo fc zo zc co cc p 0 1, pO fo fc zo zc co cc p 0 1, tblO p, outO zs, outO (p.tok.take 6)] g N) rfl (by kernel_rfl) ?_
     refine EV.done rfl ?_
     refine V.cond true (by kernel_rfl) (fun _ => ?_) (fun h => Bool.noConfusion h)
     refine V.weak [1, 3, 4, 5, 6, 7] (S2 := [(1, pT 2), (3, outV 5 zs), (4, .slice (some ⟨4, 0, none⟩) 16 16), (5, .int .i64 2), (6, outV 6 (p.tok.take 6)), (7, .int .i64 6)]) rfl ?_
     refine V.skip ?_
     refine thenV_n ?_
     refine V.seq ?_
     refine V.block ?_
     refine V.region ?_
     refine EV.run (hcS K w0) 6 [1, 3, 4, 5, 7, 47, 52] (S2 := [(1, pT 2), (3, outV 5 zs), (4, .slice (some ⟨4, 0, none⟩) 16 16), (5, .int .i64 2), (7, .int .i64 6), (47, outV 6 (p.tok.take 6)), (52, .slice (some ⟨7, 0, none⟩) 1 1)]) (A2 := hp [r0, r1, pO fo fc zo zc co cc p 0 1, pO fo fc zo zc co cc p 0 1, tblO p, outO zs, outO (p.tok.take 6), .cells [.int .u8 p.t6] false false 1] g N) rfl (by kernel_rfl) ?_
     refine EV.app (hcS K w0) (zs := (p.tok.take 6)) (xs := [p.t6]) 6 53 [1, 3, 4, 5, 7] (S1 := [(1, pT 2), (3, outV 5 zs), (4, .slice (some ⟨4, 0, none⟩) 16 16), (5, .int .i64 2), (7, .int .i64 6)]) hB rfl rfl rfl rfl (by kernel_rfl) rfl (by kernel_rfl) (by kernel_rfl) (by kernel_rfl) (fun _ _ _ => rfl) (rowV_cells (k := 7) (zs := [p.t6]) rfl rfl (tokAt hpo 6 (by decide))) (tokTake hpo 6) (bl rfl) rfl (by kernel_rfl) (fun τ hτ => ⟨.inr (hro.obj _), .inr (hrc.obj _), .inr (ren_pcl (hro.rst (hτ 0 (by decide) (by decide) (by show 0 ≠ 8; decide))) (hrc.rst (hτ 1 (by decide) (by decide) (by show 1 ≠ 8; decide)))), .inr (ren_pcl (hro.rst (hτ 0 (by decide) (by decide) (by show 0 ≠ 8; decide))) (hrc.rst (hτ 1 (by decide) (by decide) (by show 1 ≠ 8; decide)))), .inr rfl, .inr (renO_outO _ _), .inl rfl, .inr rfl, trivial⟩) (by kernel_rfl) (by kernel_rfl) (fun τ hτ => (renS_cons (congrArg (fun q => Value.pointer (some ⟨q, 0, none⟩)) (hτ 2 (by decide) (by decide) (by show 2 ≠ 8; decide))) (renS_cons ((ren_outV τ 5 zs).trans (congrArg (fun q => outV q zs) (hτ 5 (by decide) (by decide) (by show 5 ≠ 8; decide)))) (renS_cons (congrArg (fun q => Value.slice (some ⟨q, 0, none⟩) 16 16) (hτ 4 (by decide) (by decide) (by show 4 ≠ 8; decide))) (renS_cons rfl (renS_cons rfl rfl)))))) ?_
     intro g N hB
     refine EV.norm [1, 3, 4, 5, 7, 53] (S2 := [(1, pT 2), (3, outV 5 zs), (4, .slice (some ⟨4, 0, none⟩) 16 16), (5, .int .i64 2), (7, .int .i64 6), (53, outV 6 ((p.tok.take 6) ++ [p.t6]))]) (A2 := hp [r0, r1, pO fo fc zo zc co cc p 0 1, pO fo fc zo zc co cc p 0 1, tblO p, outO zs, outO ((p.tok.take 6) ++ [p.t6]), .cells [.int .u8 p.t6] false false 1] g N) (by kernel_rfl) (by kernel_rfl) ?_
     refine EV.norm [1, 3, 4, 5, 7, 53] (S2 := [(1, pT 2), (3, outV 5 zs), (4, .slice (some ⟨4, 0, none⟩) 16 16), (5, .int .i64 2), (7, .int .i64 6), (53, outV 6 (p.tok.take 7))]) (A2 := hp [r0, r1, pO fo fc zo zc co cc p 0 1, pO fo fc zo zc co cc p 0 1, tblO p, outO zs, outO (p.tok.take 7), .cells [.int .u8 p.t6] false false 1] g N) (by kernel_rfl) (by kernel_rfl) ?_
     refine EV.reng hB [0, 1, 2, 3, 4, 5, 6, 64] [0, 1, 2, 3, 4, 5, 6] [1, 3, 4, 5, 7, 53] (S2 := [(1, pT 2), (3, outV 5 zs), (4, .slice (some ⟨4, 0, none⟩) 16 16), (5, .int .i64 2), (7, .int .i64 6), (53, outV 6 (p.tok.take 7))]) (s2 := [r0, r1, pO fo fc zo zc co cc p 0 1, pO fo fc zo zc co cc p 0 1, tblO p, outO zs, outO (p.tok.take 7)]) (by kernel_rfl) (by kernel_rfl) ⟨.inr ⟨(bl rfl), .inl ((hro.obj _).symm)⟩, .inr ⟨(bl rfl), .inl ((hrc.obj _).symm)⟩, .inr ⟨(bl rfl), .inl ((ren_pcl (τ := tau [0, 1, 2, 3, 4, 5, 6, 64] N) (vo := .slice (fo 0) zo.length co) (vc := .slice (fc 1) zc.length cc) (hro.ren _ 0) (hrc.ren _ 1)).symm)⟩, .inr ⟨(bl rfl), .inl ((ren_pcl (τ := tau [0, 1, 2, 3, 4, 5, 6, 64] N) (vo := .slice (fo 0) zo.length co) (vc := .slice (fc 1) zc.length cc) (hro.ren _ 0) (hrc.ren _ 1)).symm)⟩, .inr ⟨(bl rfl), .inl (rfl)⟩, .inr ⟨(bl rfl), .inl ((renO_outO (tau [0, 1, 2, 3, 4, 5, 6, 64] N) zs).symm)⟩, .inr ⟨(bl rfl), .inl ((renO_outO (tau [0, 1, 2, 3, 4, 5, 6, 64] N) (p.tok.take 7)).symm)⟩, .inl (by decide), trivial⟩ (renS_cons (rfl) (renS_cons (ren_outV (tau [0, 1, 2, 3, 4, 5, 6, 64] N) 5 zs) (renS_cons (rfl) (renS_cons (rfl) (renS_cons (rfl) (renS_cons (ren_outV (tau [0, 1, 2, 3, 4, 5, 6, 64] N) 6 (p.tok.take 7)) rfl)))))) ?_
     intro g N hB
     refine EV.run (hcS K w0) 8 [1, 3, 4, 5, 6, 7] (S2 := [(1, pT 2), (3, outV 5 zs), (4, .slice (some ⟨4, 0, none⟩) 16 16), (5, .int .i64 2), (6, outV 6 (p.tok.take 7)), (7, .int .i64 6)]) (A2 := hp [r0, r1, pO fo fc zo zc co cc p 0 1, pO fo fc zo zc co cc p 0 1, tblO p, outO zs, outO (p.tok.take 7)] g N) rfl (by kernel_rfl) ?_
     refine EV.done rfl ?_
     refine blockQ_n ?_
     refine thenV_n ?_
     refine V.region ?_
     refine EV.runS (hcS K w0) 3 [1, 3, 4, 5, 6, 7] (S2 := [(1, pT 2), (3, outV 5 zs), (4, .slice (some ⟨4, 0, none⟩) 16 16), (5, .int .i64 2), (6, outV 6 (p.tok.take 7)), (7, .int .i64 7)]) rfl (by kernel_rfl) ?_
     refine EV.done rfl ?_
     exact loopV_n 10 (by decide) ⟨7, g, N, rfl, by decide, hB, rfl, rfl⟩
    ·
     obtain rfl : k = 10 := by omega
     refine V.seq ?_
     refine V.sr ?_
     refine EV.run (hcS K w0) 2 [1, 3, 4, 5, 6, 7, 44] (S2 := [(1, pT 2), (3, outV 5 zs), (4, .slice (some ⟨4, 0, none⟩) 16 16), (5, .int .i64 2), (6, outV 6 (p.tok.take 7)), (7, .int .i64 7), (44, .bool true)]) (A2 := hp [r0, r1, pO fo fc zo zc co cc p 0 1, pO fo fc zo zc co cc p 0 1, tblO p, outO zs, outO (p.tok.take 7)] g N) rfl (by kernel_rfl) ?_
     refine EV.done rfl ?_
     refine V.cond true (by kernel_rfl) (fun _ => ?_) (fun h => Bool.noConfusion h)
     refine V.weak [1, 3, 4, 5, 6, 7] (S2 := [(1, pT 2), (3, outV 5 zs), (4, .slice (some ⟨4, 0, none⟩) 16 16), (5, .int .i64 2), (6, outV 6 (p.tok.take 7)), (7, .int .i64 7)]) rfl ?_
     refine V.skip ?_
     refine thenV_n ?_
     refine V.seq ?_
     refine V.block ?_
     refine V.region ?_
     refine EV.run (hcS K w0) 6 [1, 3, 4, 5, 7, 47, 52] (S2 := [(1, pT 2), (3, outV 5 zs), (4, .slice (some ⟨4, 0, none⟩) 16 16), (5, .int .i64 2), (7, .int .i64 7), (47, outV 6 (p.tok.take 7)), (52, .slice (some ⟨7, 0, none⟩) 1 1)]) (A2 := hp [r0, r1, pO fo fc zo zc co cc p 0 1, pO fo fc zo zc co cc p 0 1, tblO p, outO zs, outO (p.tok.take 7), .cells [.int .u8 p.t7] false false 1] g N) rfl (by kernel_rfl) ?_
     refine EV.app (hcS K w0) (zs := (p.tok.take 7)) (xs := [p.t7]) 6 53 [1, 3, 4, 5, 7] (S1 := [(1, pT 2), (3, outV 5 zs), (4, .slice (some ⟨4, 0, none⟩) 16 16), (5, .int .i64 2), (7, .int .i64 7)]) hB rfl rfl rfl rfl (by kernel_rfl) rfl (by kernel_rfl) (by kernel_rfl) (by kernel_rfl) (fun _ _ _ => rfl) (rowV_cells (k := 7) (zs := [p.t7]) rfl rfl (tokAt hpo 7 (by decide))) (tokTake hpo 7) (bl rfl) rfl (by kernel_rfl) (fun τ hτ => ⟨.inr (hro.obj _), .inr (hrc.obj _), .inr (ren_pcl (hro.rst (hτ 0 (by decide) (by decide) (by show 0 ≠ 8; decide))) (hrc.rst (hτ 1 (by decide) (by decide) (by show 1 ≠ 8; decide)))), .inr (ren_pcl (hro.rst (hτ 0 (by decide) (by decide) (by show 0 ≠ 8; decide))) (hrc.rst (hτ 1 (by decide) (by decide) (by show 1 ≠ 8; decide)))), .inr rfl, .inr (renO_outO _ _), .inl rfl, .inr rfl, trivial⟩) (by kernel_rfl) (by kernel_rfl) (fun τ hτ => (renS_cons (congrArg (fun q => Value.pointer (some ⟨q, 0, none⟩)) (hτ 2 (by decide) (by decide) (by show 2 ≠ 8; decide))) (renS_cons ((ren_outV τ 5 zs).trans (congrArg (fun q => outV q zs) (hτ 5 (by decide) (by decide) (by show 5 ≠ 8; decide)))) (renS_cons (congrArg (fun q => Value.slice (some ⟨q, 0, none⟩) 16 16) (hτ 4 (by decide) (by decide) (by show 4 ≠ 8; decide))) (renS_cons rfl (renS_cons rfl rfl)))))) ?_
     intro g N hB
     refine EV.norm [1, 3, 4, 5, 7, 53] (S2 := [(1, pT 2), (3, outV 5 zs), (4, .slice (some ⟨4, 0, none⟩) 16 16), (5, .int .i64 2), (7, .int .i64 7), (53, outV 6 ((p.tok.take 7) ++ [p.t7]))]) (A2 := hp [r0, r1, pO fo fc zo zc co cc p 0 1, pO fo fc zo zc co cc p 0 1, tblO p, outO zs, outO ((p.tok.take 7) ++ [p.t7]), .cells [.int .u8 p.t7] false false 1] g N) (by kernel_rfl) (by kernel_rfl) ?_
     refine EV.norm [1, 3, 4, 5, 7, 53] (S2 := [(1, pT 2), (3, outV 5 zs), (4, .slice (some ⟨4, 0, none⟩) 16 16), (5, .int .i64 2), (7, .int .i64 7), (53, outV 6 (p.tok.take 8))]) (A2 := hp [r0, r1, pO fo fc zo zc co cc p 0 1, pO fo fc zo zc co cc p 0 1, tblO p, outO zs, outO (p.tok.take 8), .cells [.int .u8 p.t7] false false 1] g N) (by kernel_rfl) (by kernel_rfl) ?_
     refine EV.reng hB [0, 1, 2, 3, 4, 5, 6, 64] [0, 1, 2, 3, 4, 5, 6] [1, 3, 4, 5, 7, 53] (S2 := [(1, pT 2), (3, outV 5 zs), (4, .slice (some ⟨4, 0, none⟩) 16 16), (5, .int .i64 2), (7, .int .i64 7), (53, outV 6 (p.tok.take 8))]) (s2 := [r0, r1, pO fo fc zo zc co cc p 0 1, pO fo fc zo zc co cc p 0 1, tblO p, outO zs, outO (p.tok.take 8)]) (by kernel_rfl) (by kernel_rfl) ⟨.inr ⟨(bl rfl), .inl ((hro.obj _).symm)⟩, .inr ⟨(bl rfl), .inl ((hrc.obj _).symm)⟩, .inr ⟨(bl rfl), .inl ((ren_pcl (τ := tau [0, 1, 2, 3, 4, 5, 6, 64] N) (vo := .slice (fo 0) zo.length co) (vc := .slice (fc 1) zc.length cc) (hro.ren _ 0) (hrc.ren _ 1)).symm)⟩, .inr ⟨(bl rfl), .inl ((ren_pcl (τ := tau [0, 1, 2, 3, 4, 5, 6, 64] N) (vo := .slice (fo 0) zo.length co) (vc := .slice (fc 1) zc.length cc) (hro.ren _ 0) (hrc.ren _ 1)).symm)⟩, .inr ⟨(bl rfl), .inl (rfl)⟩, .inr ⟨(bl rfl), .inl ((renO_outO (tau [0, 1, 2, 3, 4, 5, 6, 64] N) zs).symm)⟩, .inr ⟨(bl rfl), .inl ((renO_outO (tau [0, 1, 2, 3, 4, 5, 6, 64] N) (p.tok.take 8)).symm)⟩, .inl (by decide), trivial⟩ (renS_cons (rfl) (renS_cons (ren_outV (tau [0, 1, 2, 3, 4, 5, 6, 64] N) 5 zs) (renS_cons (rfl) (renS_cons (rfl) (renS_cons (rfl) (renS_cons (ren_outV (tau [0, 1, 2, 3, 4, 5, 6, 64] N) 6 (p.tok.take 8)) rfl)))))) ?_
     intro g N hB
     refine EV.run (hcS K w0) 8 [1, 3, 4, 5, 6, 7] (S2 := [(1, pT 2), (3, outV 5 zs), (4, .slice (some ⟨4, 0, none⟩) 16 16), (5, .int .i64 2), (6, outV 6 (p.tok.take 8)), (7, .int .i64 7)]) (A2 := hp [r0, r1, pO fo fc zo zc co cc p 0 1, pO fo fc zo zc co cc p 0 1, tblO p, outO zs, outO (p.tok.take 8)] g N) rfl (by kernel_rfl) ?_
     refine EV.done rfl ?_
     refine blockQ_n ?_
     refine thenV_n ?_
     refine V.region ?_
     refine EV.runS (hcS K w0) 3 [1, 3, 4, 5, 6, 7] (S2 := [(1, pT 2), (3, outV 5 zs), (4, .slice (some ⟨4, 0, none⟩) 16 16), (5, .int .i64 2), (6, outV 6 (p.tok.take 8)), (7, .int .i64 8)]) rfl (by kernel_rfl) ?_
     refine EV.done rfl ?_
     exact loopV_n 9 (by decide) ⟨8, g, N, rfl, by decide, hB, rfl, rfl⟩
    ·
     obtain rfl : k = 9 := by omega
     refine V.seq ?_
     refine V.sr ?_
     refine EV.run (hcS K w0) 2 [1, 3, 4, 5, 6, 7, 44] (S2 := [(1, pT 2), (3, outV 5 zs), (4, .slice (some ⟨4, 0, none⟩) 16 16), (5, .int .i64 2), (6, outV 6 (p.tok.take 8)), (7, .int .i64 8), (44, .bool true)]) (A2 := hp [r0, r1, pO fo fc zo zc co cc p 0 1, pO fo fc zo zc co cc p 0 1, tblO p, outO zs, outO (p.tok.take 8)] g N) rfl (by kernel_rfl) ?_
     refine EV.done rfl ?_
     refine V.cond true (by kernel_rfl) (fun _ => ?_) (fun h => Bool.noConfusion h)
     refine V.weak [1, 3, 4, 5, 6, 7] (S2 := [(1, pT 2), (3, outV 5 zs), (4, .slice (some ⟨4, 0, none⟩) 16 16), (5, .int .i64 2), (6, outV 6 (p.tok.take 8)), (7, .int .i64 8)]) rfl ?_
     refine V.skip ?_
     refine thenV_n ?_
     refine V.seq ?_
     refine V.block ?_
     refine V.region ?_
     refine EV.run (hcS K w0) 6 [1, 3, 4, 5, 7, 47, 52] (S2 := [(1, pT 2), (3, outV 5 zs), (4, .slice (some ⟨4, 0, none⟩) 16 16), (5, .int .i64 2), (7, .int .i64 8), (47, outV 6 (p.tok.take 8)), (52, .slice (some ⟨7, 0, none⟩) 1 1)]) (A2 := hp [r0, r1, pO fo fc zo zc co cc p 0 1, pO fo fc zo zc co cc p 0 1, tblO p, outO zs, outO (p.tok.take 8), .cells [.int .u8 p.t8] false false 1] g N) rfl (by kernel_rfl) ?_
     refine EV.app (hcS K w0) (zs := (p.tok.take 8)) (xs := [p.t8]) 6 53 [1, 3, 4, 5, 7] (S1 := [(1, pT 2), (3, outV 5 zs), (4, .slice (some ⟨4, 0, none⟩) 16 16), (5, .int .i64 2), (7, .int .i64 8)]) hB rfl rfl rfl rfl (by kernel_rfl) rfl (by kernel_rfl) (by kernel_rfl) (by kernel_rfl) (fun _ _ _ => rfl) (rowV_cells (k := 7) (zs := [p.t8]) rfl rfl (tokAt hpo 8 (by decide))) (tokTake hpo 8) (bl rfl) rfl (by kernel_rfl) (fun τ hτ => ⟨.inr (hro.obj _), .inr (hrc.obj _), .inr (ren_pcl (hro.rst (hτ 0 (by decide) (by decide) (by show 0 ≠ 8; decide))) (hrc.rst (hτ 1 (by decide) (by decide) (by show 1 ≠ 8; decide)))), .inr (ren_pcl (hro.rst (hτ 0 (by decide) (by decide) (by show 0 ≠ 8; decide))) (hrc.rst (hτ 1 (by decide) (by decide) (by show 1 ≠ 8; decide)))), .inr rfl, .inr (renO_outO _ _), .inl rfl, .inr rfl, trivial⟩) (by kernel_rfl) (by kernel_rfl) (fun τ hτ => (renS_cons (congrArg (fun q => Value.pointer (some ⟨q, 0, none⟩)) (hτ 2 (by decide) (by decide) (by show 2 ≠ 8; decide))) (renS_cons ((ren_outV τ 5 zs).trans (congrArg (fun q => outV q zs) (hτ 5 (by decide) (by decide) (by show 5 ≠ 8; decide)))) (renS_cons (congrArg (fun q => Value.slice (some ⟨q, 0, none⟩) 16 16) (hτ 4 (by decide) (by decide) (by show 4 ≠ 8; decide))) (renS_cons rfl (renS_cons rfl rfl)))))) ?_
     intro g N hB
     refine EV.norm [1, 3, 4, 5, 7, 53] (S2 := [(1, pT 2), (3, outV 5 zs), (4, .slice (some ⟨4, 0, none⟩) 16 16), (5, .int .i64 2), (7, .int .i64 8), (53, outV 6 ((p.tok.take 8) ++ [p.t8]))]) (A2 := hp [r0, r1, pO fo fc zo zc co cc p 0 1, pO fo fc zo zc co cc p 0 1, tblO p, outO zs, outO ((p.tok.take 8) ++ [p.t8]), .cells [.int .u8 p.t8] false false 1] g N) (by kernel_rfl) (by kernel_rfl) ?_
     refine EV.norm [1, 3, 4, 5, 7, 53] (S2 := [(1, pT 2), (3, outV 5 zs), (4, .slice (some ⟨4, 0, none⟩) 16 16), (5, .int .i64 2), (7, .int .i64 8), (53, outV 6 (p.tok.take 9))]) (A2 := hp [r0, r1, pO fo fc zo zc co cc p 0 1, pO fo fc zo zc co cc p 0 1, tblO p, outO zs, outO (p.tok.take 9), .cells [.int .u8 p.t8] false false 1] g N) (by kernel_rfl) (by kernel_rfl) ?_
     refine EV.reng hB [0, 1, 2, 3, 4, 5, 6, 64] [0, 1, 2, 3, 4, 5, 6] [1, 3, 4, 5, 7, 53] (S2 := [(1, pT 2), (3, outV 5 zs), (4, .slice (some ⟨4, 0, none⟩) 16 16), (5, .int .i64 2), (7, .int .i64 8), (53, outV 6 (p.tok.take 9))]) (s2 := [r0, r1, pO fo fc zo zc co cc p 0 1, pO fo fc zo zc co cc p 0 1, tblO p, outO zs, outO (p.tok.take 9)]) (by kernel_rfl) (by kernel_rfl) ⟨.inr ⟨(bl rfl), .inl ((hro.obj _).symm)⟩, .inr ⟨(bl rfl), .inl ((hrc.obj _).symm)⟩, .inr ⟨(bl rfl), .inl ((ren_pcl (τ := tau [0, 1, 2, 3, 4, 5, 6, 64] N) (vo := .slice (fo 0) zo.length co) (vc := .slice (fc 1) zc.length cc) (hro.ren _ 0) (hrc.ren _ 1)).symm)⟩, .inr ⟨(bl rfl), .inl ((ren_pcl (τ := tau [0, 1, 2, 3, 4, 5, 6, 64] N) (vo := .slice (fo 0) zo.length co) (vc := .slice (fc 1) zc.length cc) (hro.ren _ 0) (hrc.ren _ 1)).symm)⟩, .inr ⟨(bl rfl), .inl (rfl)⟩, .inr ⟨(bl rfl), .inl ((renO_outO (tau [0, 1, 2, 3, 4, 5, 6, 64] N) zs).symm)⟩, .inr ⟨(bl rfl), .inl ((renO_outO (tau [0, 1, 2, 3, 4, 5, 6, 64] N) (p.tok.take 9)).symm)⟩, .inl (by decide), trivial⟩ (renS_cons (rfl) (renS_cons (ren_outV (tau [0, 1, 2, 3, 4, 5, 6, 64] N) 5 zs) (renS_cons (rfl) (renS_cons (rfl) (renS_cons (rfl) (renS_cons (ren_outV (tau [0, 1, 2, 3, 4, 5, 6, 64] N) 6 (p.tok.take 9)) rfl)))))) ?_
     intro g N hB
     refine EV.run (hcS K w0) 8 [1, 3, 4, 5, 6, 7] (S2 := [(1, pT 2), (3, outV 5 zs), (4, .slice (some ⟨4, 0, none⟩) 16 16), (5, .int .i64 2), (6, outV 6 (p.tok.take 9)), (7, .int .i64 8)]) (A2 := hp [r0, r1, pO fo fc zo zc co cc p 0 1, pO fo fc zo zc co cc p 0 1, tblO p, outO zs, outO (p.tok.take 9)] g N) rfl (by kernel_rfl) ?_
     refine EV.done rfl ?_
     refine blockQ_n ?_
     refine thenV_n ?_
     refine V.region ?_
     refine EV.runS (hcS K w0) 3 [1, 3, 4, 5, 6, 7] (S2 := [(1, pT 2), (3, outV 5 zs), (4, .slice (some ⟨4, 0, none⟩) 16 16), (5, .int .i64 2), (6, outV 6 (p.tok.take 9)), (7, .int .i64 9)]) rfl (by kernel_rfl) ?_
     refine EV.done rfl ?_
     exact loopV_n 8 (by decide) ⟨9, g, N, rfl, by decide, hB, rfl, rfl⟩
    ·
     obtain rfl : k = 8 := by omega
     refine V.seq ?_
     refine V.sr ?_
     refine EV.run (hcS K w0) 2 [1, 3, 4, 5, 6, 7, 44] (S2 := [(1, pT 2), (3, outV 5 zs), (4, .slice (some ⟨4, 0, none⟩) 16 16), (5, .int .i64 2), (6, outV 6 (p.tok.take 9)), (7, .int .i64 9), (44, .bool true)]) (A2 := hp [r0, r1, pO fo fc zo zc co cc p 0 1, pO fo fc zo zc co cc p 0 1, tblO p, outO zs, outO (p.tok.take 9)] g N) rfl (by kernel_rfl) ?_
     refine EV.done rfl ?_
     refine V.cond true (by kernel_rfl) (fun _ => ?_) (fun h => Bool.noConfusion h)
     refine V.weak [1, 3, 4, 5, 6, 7] (S2 := [(1, pT 2), (3, outV 5 zs), (4, .slice (some ⟨4, 0, none⟩) 16 16), (5, .int .i64 2), (6, outV 6 (p.tok.take 9)), (7, .int .i64 9)]) rfl ?_
     refine V.skip ?_
     refine thenV_n ?_
     refine V.seq ?_
     refine V.block ?_
     refine V.region ?_
     refine EV.run (hcS K w0) 6 [1, 3, 4, 5, 7, 47, 52] (S2 := [(1, pT 2), (3, outV 5 zs), (4, .slice (some ⟨4, 0, none⟩) 16 16), (5, .int .i64 2), (7, .int .i64 9), (47, outV 6 (p.tok.take 9)), (52, .slice (some ⟨7, 0, none⟩) 1 1)]) (A2 := hp [r0, r1, pO fo fc zo zc co cc p 0 1, pO fo fc zo zc co cc p 0 1, tblO p, outO zs, outO (p.tok.take 9), .cells [.int .u8 p.t9] false false 1] g N) rfl (by kernel_rfl) ?_
     refine EV.app (hcS K w0) (zs := (p.tok.take 9)) (xs := [p.t9]) 6 53 [1, 3, 4, 5, 7] (S1 := [(1, pT 2), (3, outV 5 zs), (4, .slice (some ⟨4, 0, none⟩) 16 16), (5, .int .i64 2), (7, .int .i64 9)]) hB rfl rfl rfl rfl (by kernel_rfl) rfl (by kernel_rfl) (by kernel_rfl) (by kernel_rfl) (fun _ _ _ => rfl) (rowV_cells (k := 7) (zs := [p.t9]) rfl rfl (tokAt hpo 9 (by decide))) (tokTake hpo 9) (bl rfl) rfl (by kernel_rfl) (fun τ hτ => ⟨.inr (hro.obj _), .inr (hrc.obj _), .inr (ren_pcl (hro.rst (hτ 0 (by decide) (by decide) (by show 0 ≠ 8; decide))) (hrc.rst (hτ 1 (by decide) (by decide) (by show 1 ≠ 8; decide)))), .inr (ren_pcl (hro.rst (hτ 0 (by decide) (by decide) (by show 0 ≠ 8; decide))) (hrc.rst (hτ 1 (by decide) (by decide) (by show 1 ≠ 8; decide)))), .inr rfl, .inr (renO_outO _ _), .inl rfl, .inr rfl, trivial⟩) (by kernel_rfl) (by kernel_rfl) (fun τ hτ => (renS_cons (congrArg (fun q => Value.pointer (some ⟨q, 0, none⟩)) (hτ 2 (by decide) (by decide) (by show 2 ≠ 8; decide))) (renS_cons ((ren_outV τ 5 zs).trans (congrArg (fun q => outV q zs) (hτ 5 (by decide) (by decide) (by show 5 ≠ 8; decide)))) (renS_cons (congrArg (fun q => Value.slice (some ⟨q, 0, none⟩) 16 16) (hτ 4 (by decide) (by decide) (by show 4 ≠ 8; decide))) (renS_cons rfl (renS_cons rfl rfl)))))) ?_
     intro g N hB
     refine EV.norm [1, 3, 4, 5, 7, 53] (S2 := [(1, pT 2), (3, outV 5 zs), (4, .slice (some ⟨4, 0, none⟩) 16 16), (5, .int .i64 2), (7, .int .i64 9), (53, outV 6 ((p.tok.take 9) ++ [p.t9]))]) (A2 := hp [r0, r1, pO fo fc zo zc co cc p 0 1, pO fo fc zo zc co cc p 0 1, tblO p, outO zs, outO ((p.tok.take 9) ++ [p.t9]), .cells [.int .u8 p.t9] false false 1] g N) (by kernel_rfl) (by kernel_rfl) ?_
     refine EV.norm [1, 3, 4, 5, 7, 53] (S2 := [(1, pT 2), (3, outV 5 zs), (4, .slice (some ⟨4, 0, none⟩) 16 16), (5, .int .i64 2), (7, .int .i64 9), (53, outV 6 (p.tok.take 10))]) (A2 := hp [r0, r1, pO fo fc zo zc co cc p 0 1, pO fo fc zo zc co cc p 0 1, tblO p, outO zs, outO (p.tok.take 10), .cells [.int .u8 p.t9] false false 1] g N) (by kernel_rfl) (by kernel_rfl) ?_
     refine EV.reng hB [0, 1, 2, 3, 4, 5, 6, 64] [0, 1, 2, 3, 4, 5, 6] [1, 3, 4, 5, 7, 53] (S2 := [(1, pT 2), (3, outV 5 zs), (4, .slice (some ⟨4, 0, none⟩) 16 16), (5, .int .i64 2), (7, .int .i64 9), (53, outV 6 (p.tok.take 10))]) (s2 := [r0, r1, pO fo fc zo zc co cc p 0 1, pO fo fc zo zc co cc p 0 1, tblO p, outO zs, outO (p.tok.take 10)]) (by kernel_rfl) (by kernel_rfl) ⟨.inr ⟨(bl rfl), .inl ((hro.obj _).symm)⟩, .inr ⟨(bl rfl), .inl ((hrc.obj _).symm)⟩, .inr ⟨(bl rfl), .inl ((ren_pcl (τ := tau [0, 1, 2, 3, 4, 5, 6, 64] N) (vo := .slice (fo 0) zo.length co) (vc := .slice (fc 1) zc.length cc) (hro.ren _ 0) (hrc.ren _ 1)).symm)⟩, .inr ⟨(bl rfl), .inl ((ren_pcl (τ := tau [0, 1, 2, 3, 4, 5, 6, 64] N) (vo := .slice (fo 0) zo.length co) (vc := .slice (fc 1) zc.length cc) (hro.ren _ 0) (hrc.ren _ 1)).symm)⟩, .inr ⟨(bl rfl), .inl (rfl)⟩, .inr ⟨(bl rfl), .inl ((renO_outO (tau [0, 1, 2, 3, 4, 5, 6, 64] N) zs).symm)⟩, .inr ⟨(bl rfl), .inl ((renO_outO (tau [0, 1, 2, 3, 4, 5, 6, 64] N) (p.tok.take 10)).symm)⟩, .inl (by decide), trivial⟩ (renS_cons (rfl) (renS_cons (ren_outV (tau [0, 1, 2, 3, 4, 5, 6, 64] N) 5 zs) (renS_cons (rfl) (renS_cons (rfl) (renS_cons (rfl) (renS_cons (ren_outV (tau [0, 1, 2, 3, 4, 5, 6, 64] N) 6 (p.tok.take 10)) rfl)))))) ?_
     intro g N hB
     refine EV.run (hcS K w0) 8 [1, 3, 4, 5, 6, 7] (S2 := [(1, pT 2), (3, outV 5 zs), (4, .slice (some ⟨4, 0, none⟩) 16 16), (5, .int .i64 2), (6, outV 6 (p.tok.take 10)), (7, .int .i64 9)]) (A2 := hp [r0, r1, pO fo fc zo zc co cc p 0 1, pO fo fc zo zc co cc p 0 1, tblO p, outO zs, outO (p.tok.take 10)] g N) rfl (by kernel_rfl) ?_
     refine EV.done rfl ?_
     refine blockQ_n ?_
     refine thenV_n ?_
     refine V.region ?_
     refine EV.runS (hcS K w0) 3 [1, 3, 4, 5, 6, 7] (S2 := [(1, pT 2), (3, outV 5 zs), (4, .slice (some ⟨4, 0, none⟩) 16 16), (5, .int .i64 2), (6, outV 6 (p.tok.take 10)), (7, .int .i64 10)]) rfl (by kernel_rfl) ?_
     refine EV.done rfl ?_
     exact loopV_n 7 (by decide) ⟨10, g, N, rfl, by decide, hB, rfl, rfl⟩
    ·
     obtain rfl : k = 7 := by omega
     refine V.seq ?_
     refine V.sr ?_
     refine EV.run (hcS K w0) 2 [1, 3, 4, 5, 6, 7, 44] (S2 := [(1, pT 2), (3, outV 5 zs), (4, .slice (some ⟨4, 0, none⟩) 16 16), (5, .int .i64 2), (6, outV 6 (p.tok.take 10)), (7, .int .i64 10), (44, .bool true)]) (A2 := hp [r0, r1, pO fo fc zo zc co cc p 0 1, pO fo fc zo zc co cc p 0 1, tblO p, outO zs, outO (p.tok.take 10)] g N) rfl (by kernel_rfl) ?_
     refine EV.done rfl ?_
     refine V.cond true (by kernel_rfl) (fun _ => ?_) (fun h => Bool.noConfusion h)
     refine V.weak [1, 3, 4, 5, 6, 7] (S2 := [(1, pT 2), (3, outV 5 zs), (4, .slice (some ⟨4, 0, none⟩) 16 16), (5, .int .i64 2), (6, outV 6 (p.tok.take 10)), (7, .int .i64 10)]) rfl ?_
     refine V.skip ?_
     refine thenV_n ?_
     refine V.seq ?_
     refine V.block ?_
     refine V.region ?_
     refine EV.run (hcS K w0) 6 [1, 3, 4, 5, 7, 47, 52] (S2 := [(1, pT 2), (3, outV 5 zs), (4, .slice (some ⟨4, 0, none⟩) 16 16), (5, .int .i64 2), (7, .int .i64 10), (47, outV 6 (p.tok.take 10)), (52, .slice (some ⟨7, 0, none⟩) 1 1)]) (A2 := hp [r0, r1, pO fo fc zo zc co cc p 0 1, pO fo fc zo zc co cc p 0 1, tblO p, outO zs, outO (p.tok.take 10), .cells [.int .u8 p.t10] false false 1] g N) rfl (by kernel_rfl) ?_
     refine EV.app (hcS K w0) (zs := (p.tok.take 10)) (xs := [p.t10]) 6 53 [1, 3, 4, 5, 7] (S1 := [(1, pT 2), (3, outV 5 zs), (4, .slice (some ⟨4, 0, none⟩) 16 16), (5, .int .i64 2), (7, .int .i64 10)]) hB rfl rfl rfl rfl (by kernel_rfl) rfl (by kernel_rfl) (by kernel_rfl) (by kernel_rfl) (fun _ _ _ => rfl) (rowV_cells (k := 7) (zs := [p.t10]) rfl rfl (tokAt hpo 10 (by decide))) (tokTake hpo 10) (bl rfl) rfl (by kernel_rfl) (fun τ hτ => ⟨.inr (hro.obj _), .inr (hrc.obj _), .inr (ren_pcl (hro.rst (hτ 0 (by decide) (by decide) (by show 0 ≠ 8; decide))) (hrc.rst (hτ 1 (by decide) (by decide) (by show 1 ≠ 8; decide)))), .inr (ren_pcl (hro.rst (hτ 0 (by decide) (by decide) (by show 0 ≠ 8; decide))) (hrc.rst (hτ 1 (by decide) (by decide) (by show 1 ≠ 8; decide)))), .inr rfl, .inr (renO_outO _ _), .inl rfl, .inr rfl, trivial⟩) (by kernel_rfl) (by kernel_rfl) (fun τ hτ => (renS_cons (congrArg (fun q => Value.pointer (some ⟨q, 0, none⟩)) (hτ 2 (by decide) (by decide) (by show 2 ≠ 8; decide))) (renS_cons ((ren_outV τ 5 zs).trans (congrArg (fun q => outV q zs) (hτ 5 (by decide) (by decide) (by show 5 ≠ 8; decide)))) (renS_cons (congrArg (fun q => Value.slice (some ⟨q, 0, none⟩) 16 16) (hτ 4 (by decide) (by decide) (by show 4 ≠ 8; decide))) (renS_cons rfl (renS_cons rfl rfl)))))) ?_
     intro g N hB
     refine EV.norm [1, 3, 4, 5, 7, 53] (S2 := [(1, pT 2), (3, outV 5 zs), (4, .slice (some ⟨4, 0, none⟩) 16 16), (5, .int .i64 2), (7, .int .i64 10), (53, outV 6 ((p.tok.take 10) ++ [p.t10]))]) (A2 := hp [r0, r1, pO fo fc zo zc co cc p 0 1, pO fo fc zo zc co cc p 0 1, tblO p, outO zs, outO ((p.tok.take 10) ++ [p.t10]), .cells [.int .u8 p.t10] false false 1] g N) (by kernel_rfl) (by kernel_rfl) ?_
     refine EV.norm [1, 3, 4, 5, 7, 53] (S2 := [(1, pT 2), (3, outV 5 zs), (4, .slice (some ⟨4, 0, none⟩) 16 16), (5, .int .i64 2), (7, .int .i64 10), (53, outV 6 (p.tok.take 11))]) (A2 := hp [r0, r1, pO fo fc zo zc co cc p 0 1, pO fo fc zo zc co cc p 0 1, tblO p, outO zs, outO (p.tok.take 11), .cells [.int .u8 p.t10] false false 1] g N) (by kernel_rfl) (by kernel_rfl) ?_
     refine EV.reng hB [0, 1, 2, 3, 4, 5, 6, 64] [0, 1, 2, 3, 4, 5, 6] [1, 3, 4, 5, 7, 53] (S2 := [(1, pT 2), (3, outV 5 zs), (4, .slice (some ⟨4, 0, none⟩) 16 16), (5, .int .i64 2), (7, .int .i64 10), (53, outV 6 (p.tok.take 11))]) (s2 := [r0, r1, pO fo fc zo zc co cc p 0 1, pO fo fc zo zc co cc p 0 1, tblO p, outO zs, outO (p.tok.take 11)]) (by kernel_rfl) (by kernel_rfl) ⟨.inr ⟨(bl rfl), .inl ((hro.obj _).symm)⟩, .inr ⟨(bl rfl), .inl ((hrc.obj _).symm)⟩, .inr ⟨(bl rfl), .inl ((ren_pcl (τ := tau [0, 1, 2, 3, 4, 5, 6, 64] N) (vo := .slice (fo 0) zo.length co) (vc := .slice (fc 1) zc.length cc) (hro.ren _ 0) (hrc.ren _ 1)).symm)⟩, .inr ⟨(bl rfl), .inl ((ren_pcl (τ := tau [0, 1, 2, 3, 4, 5, 6, 64] N) (vo := .slice (fo 0) zo.length co) (vc := .slice (fc 1) zc.length cc) (hro.ren _ 0) (hrc.ren _ 1)).symm)⟩, .inr ⟨(bl rfl), .inl (rfl)⟩, .inr ⟨(bl rfl), .inl ((renO_outO (tau [0, 1, 2, 3, 4, 5, 6, 64] N) zs).symm)⟩, .inr ⟨(bl rfl), .inl ((renO_outO (tau [0, 1, 2, 3, 4, 5, 6, 64] N) (p.tok.take 11)).symm)⟩, .inl (by decide), trivial⟩ (renS_cons (rfl) (renS_cons (ren_outV (tau [0, 1, 2, 3, 4, 5, 6, 64] N) 5 zs) (renS_cons (rfl) (renS_cons (rfl) (renS_cons (rfl) (renS_cons (ren_outV (tau [0, 1, 2, 3, 4, 5, 6, 64] N) 6 (p.tok.take 11)) rfl)))))) ?_
     intro g N hB
     refine EV.run (hcS K w0) 8 [1, 3, 4, 5, 6, 7] (S2 := [(1, pT 2), (3, outV 5 zs), (4, .slice (some ⟨4, 0, none⟩) 16 16), (5, .int .i64 2), (6, outV 6 (p.tok.take 11)), (7, .int .i64 10)]) (A2 := hp [r0, r1, pO fo fc zo zc co cc p 0 1, pO fo fc zo zc co cc p 0 1, tblO p, outO zs, outO (p.tok.take 11)] g N) rfl (by kernel_rfl) ?_
     refine EV.done rfl ?_
     refine blockQ_n ?_
     refine thenV_n ?_
     refine V.region ?_
     refine EV.runS (hcS K w0) 3 [1, 3, 4, 5, 6, 7] (S2 := [(1, pT 2), (3, outV 5 zs), (4, .slice (some ⟨4, 0, none⟩) 16 16), (5, .int .i64 2), (6, outV 6 (p.tok.take 11)), (7, .int .i64 11)]) rfl (by kernel_rfl) ?_
     refine EV.done rfl ?_
     exact loopV_n 6 (by decide) ⟨11, g, N, rfl, by decide, hB, rfl, rfl⟩
    ·
     obtain rfl : k = 6 := by omega
     refine V.seq ?_
     refine V.sr ?_
     refine EV.run (hcS K w0) 2 [1, 3, 4, 5, 6, 7, 44] (S2 := [(1, pT 2), (3, outV 5 zs), (4, .slice (some ⟨4, 0, none⟩) 16 16), (5, .int .i64 2), (6, outV 6 (p.tok.take 11)), (7, .int .i64 11), (44, .bool true)]) (A2 := hp [r0, r1, pO fo fc zo zc co cc p 0 1, pO fo fc zo zc co cc p 0 1, tblO p, outO zs, outO (p.tok.take 11)] g N) rfl (by kernel_rfl) ?_
     refine EV.done rfl ?_
     refine V.cond true (by kernel_rfl) (fun _ => ?_) (fun h => Bool.noConfusion h)
     refine V.weak [1, 3, 4, 5, 6, 7] (S2 := [(1, pT 2), (3, outV 5 zs), (4, .slice (some ⟨4, 0, none⟩) 16 16), (5, .int .i64 2), (6, outV 6 (p.tok.take 11)), (7, .int .i64 11)]) rfl ?_
     refine V.skip ?_
     refine thenV_n ?_
     refine V.seq ?_
     refine V.block ?_
     refine V.region ?_
     refine EV.run (hcS K w0) 6 [1, 3, 4, 5, 7, 47, 52] (S2 := [(1, pT 2), (3, outV 5 zs), (4, .slice (some ⟨4, 0, none⟩) 16 16), (5, .int .i64 2), (7, .int .i64 11), (47, outV 6 (p.tok.take 11)), (52, .slice (some ⟨7, 0, none⟩) 1 1)]) (A2 := hp [r0, r1, pO fo fc zo zc co cc p 0 1, pO fo fc zo zc co cc p 0 1, tblO p, outO zs, outO (p.tok.take 11), .cells [.int .u8 p.t11] false false 1] g N) rfl (by kernel_rfl) ?_
     refine EV.app (hcS K w0) (zs := (p.tok.take 11)) (xs := [p.t11]) 6 53 [1, 3, 4, 5, 7] (S1 := [(1, pT 2), (3, outV 5 zs), (4, .slice (some ⟨4, 0, none⟩) 16 16), (5, .int .i64 2), (7, .int .i64 11)]) hB rfl rfl rfl rfl (by kernel_rfl) rfl (by kernel_rfl) (by kernel_rfl) (by kernel_rfl) (fun _ _ _ => rfl) (rowV_cells (k := 7) (zs := [p.t11]) rfl rfl (tokAt hpo 11 (by decide))) (tokTake hpo 11) (bl rfl) rfl (by kernel_rfl) (fun τ hτ => ⟨.inr (hro.obj _), .inr (hrc.obj _), .inr (ren_pcl (hro.rst (hτ 0 (by decide) (by decide) (by show 0 ≠ 8; decide))) (hrc.rst (hτ 1 (by decide) (by decide) (by show 1 ≠ 8; decide)))), .inr (ren_pcl (hro.rst (hτ 0 (by decide) (by decide) (by show 0 ≠ 8; decide))) (hrc.rst (hτ 1 (by decide) (by decide) (by show 1 ≠ 8; decide)))), .inr rfl, .inr (renO_outO _ _), .inl rfl, .inr rfl, trivial⟩) (by kernel_rfl) (by kernel_rfl) (fun τ hτ => (renS_cons (congrArg (fun q => Value.pointer (some ⟨q, 0, none⟩)) (hτ 2 (by decide) (by decide) (by show 2 ≠ 8; decide))) (renS_cons ((ren_outV τ 5 zs).trans (congrArg (fun q => outV q zs) (hτ 5 (by decide) (by decide) (by show 5 ≠ 8; decide)))) (renS_cons (congrArg (fun q => Value.slice (some ⟨q, 0, none⟩) 16 16) (hτ 4 (by decide) (by decide) (by show 4 ≠ 8; decide))) (renS_cons rfl (renS_cons rfl rfl)))))) ?_
     intro g N hB
     refine EV.norm [1, 3, 4, 5, 7, 53] (S2 := [(1, pT 2), (3, outV 5 zs), (4, .slice (some ⟨4, 0, none⟩) 16 16), (5, .int .i64 2), (7, .int .i64 11), (53, outV 6 ((p.tok.take 11) ++ [p.t11]))]) (A2 := hp [r0, r1, pO fo fc zo zc co cc p 0 1, pO fo fc zo zc co cc p 0 1, tblO p, outO zs, outO ((p.tok.take 11) ++ [p.t11]), .cells [.int .u8 p.t11] false false 1] g N) (by kernel_rfl) (by kernel_rfl) ?_
     refine EV.norm [1, 3, 4, 5, 7, 53] (S2 := [(1, pT 2), (3, outV 5 zs), (4, .slice (some ⟨4, 0, none⟩) 16 16), (5, .int .i64 2), (7, .int .i64 11), (53, outV 6 (p.tok.take 12))]) (A2 := hp [r0, r1, pO fo fc zo zc co cc p 0 1, pO fo fc zo zc co cc p 0 1, tblO p, outO zs, outO (p.tok.take 12), .cells [.int .u8 p.t11] false false 1] g N) (by kernel_rfl) (by kernel_rfl) ?_
     refine EV.reng hB [0, 1, 2, 3, 4, 5, 6, 64] [0, 1, 2, 3, 4, 5, 6] [1, 3, 4, 5, 7, 53] (S2 := [(1, pT 2), (3, outV 5 zs), (4, .slice (some ⟨4, 0, none⟩) 16 16), (5, .int .i64 2), (7, .int .i64 11), (53, outV 6 (p.tok.take 12))]) (s2 := [r0, r1, pO fo fc zo zc co cc p 0 1, pO fo fc zo zc co cc p 0 1, tblO p, outO zs, outO (p.tok.take 12)]) (by kernel_rfl) (by kernel_rfl) ⟨.inr ⟨(bl rfl), .inl ((hro.obj _).symm)⟩, .inr ⟨(bl rfl), .inl ((hrc.obj _).symm)⟩, .inr ⟨(bl rfl), .inl ((ren_pcl (τ := tau [0, 1, 2, 3, 4, 5, 6, 64] N) (vo := .slice (fo 0) zo.length co) (vc := .slice (fc 1) zc.length cc) (hro.ren _ 0) (hrc.ren _ 1)).symm)⟩, .inr ⟨(bl rfl), .inl ((ren_pcl (τ := tau [0, 1, 2, 3, 4, 5, 6, 64] N) (vo := .slice (fo 0) zo.length co) (vc := .slice (fc 1) zc.length cc) (hro.ren _ 0) (hrc.ren _ 1)).symm)⟩, .inr ⟨(bl rfl), .inl (rfl)⟩, .inr ⟨(bl rfl), .inl ((renO_outO (tau [0, 1, 2, 3, 4, 5, 6, 64] N) zs).symm)⟩, .inr ⟨(bl rfl), .inl ((renO_outO (tau [0, 1, 2, 3, 4, 5, 6, 64] N) (p.tok.take 12)).symm)⟩, .inl (by decide), trivial⟩ (renS_cons (rfl) (renS_cons (ren_outV (tau [0, 1, 2, 3, 4, 5, 6, 64] N) 5 zs) (renS_cons (rfl) (renS_cons (rfl) (renS_cons (rfl) (renS_cons (ren_outV (tau [0, 1, 2, 3, 4, 5, 6, 64] N) 6 (p.tok.take 12)) rfl)))))) ?_
     intro g N hB
     refine EV.run (hcS K w0) 8 [1, 3, 4, 5, 6, 7] (S2 := [(1, pT 2), (3, outV 5 zs), (4, .slice (some ⟨4, 0, none⟩) 16 16), (5, .int .i64 2), (6, outV 6 (p.tok.take 12)), (7, .int .i64 11)]) (A2 := hp [r0, r1, pO fo fc zo zc co cc p 0 1, pO fo fc zo zc co cc p 0 1, tblO p, outO zs, outO (p.tok.take 12)] g N) rfl (by kernel_rfl) ?_
     refine EV.done rfl ?_
     refine blockQ_n ?_
     refine thenV_n ?_
     refine V.region ?_
     refine EV.runS (hcS K w0) 3 [1, 3, 4, 5, 6, 7] (S2 := [(1, pT 2), (3, outV 5 zs), (4, .slice (some ⟨4, 0, none⟩) 16 16), (5, .int .i64 2), (6, outV 6 (p.tok.take 12)), (7, .int .i64 12)]) rfl (by kernel_rfl) ?_
     refine EV.done rfl ?_
     exact loopV_n 5 (by decide) ⟨12, g, N, rfl, by decide, hB, rfl, rfl⟩
    ·
     obtain rfl : k = 5 := by omega
     refine V.seq ?_
     refine V.sr ?_
     refine EV.run (hcS K w0) 2 [1, 3, 4, 5, 6, 7, 44] (S2 := [(1, pT 2), (3, outV 5 zs), (4, .slice (some ⟨4, 0, none⟩) 16 16), (5, .int .i64 2), (6, outV 6 (p.tok.take 12)), (7, .int .i64 12), (44, .bool true)]) (A2 := hp [r0, r1, pO fo fc zo zc co cc p 0 1, pO fo fc zo zc co cc p 0 1, tblO p, outO zs, outO (p.tok.take 12)] g N) rfl (by kernel_rfl) ?_
     refine EV.done rfl ?_
     refine V.cond true (by kernel_rfl) (fun _ => ?_) (fun h => Bool.noConfusion h)
     refine V.weak [1, 3, 4, 5, 6, 7] (S2 := [(1, pT 2), (3, outV 5 zs), (4, .slice (some ⟨4, 0, none⟩) 16 16), (5, .int .i64 2), (6, outV 6 (p.tok.take 12)), (7, .int .i64 12)]) rfl ?_
     refine V.skip ?_
     refine thenV_n ?_
     refine V.seq ?_
     refine V.block ?_
     refine V.region ?_
     refine EV.run (hcS K w0) 6 [1, 3, 4, 5, 7, 47, 52] (S2 := [(1, pT 2), (3, outV 5 zs), (4, .slice (some ⟨4, 0, none⟩) 16 16), (5, .int .i64 2), (7, .int .i64 12), (47, outV 6 (p.tok.take 12)), (52, .slice (some ⟨7, 0, none⟩) 1 1)]) (A2 := hp [r0, r1, pO fo fc zo zc co cc p 0 1, pO fo fc zo zc co cc p 0 1, tblO p, outO zs, outO (p.tok.take 12), .cells [.int .u8 p.t12] false false 1] g N) rfl (by kernel_rfl) ?_
     refine EV.app (hcS K w0) (zs := (p.tok.take 12)) (xs := [p.t12]) 6 53 [1, 3, 4, 5, 7] (S1 := [(1, pT 2), (3, outV 5 zs), (4, .slice (some ⟨4, 0, none⟩) 16 16), (5, .int .i64 2), (7, .int .i64 12)]) hB rfl rfl rfl rfl (by kernel_rfl) rfl (by kernel_rfl) (by kernel_rfl) (by kernel_rfl) (fun _ _ _ => rfl) (rowV_cells (k := 7) (zs := [p.t12]) rfl rfl (tokAt hpo 12 (by decide))) (tokTake hpo 12) (bl rfl) rfl (by kernel_rfl) (fun τ hτ => ⟨.inr (hro.obj _), .inr (hrc.obj _), .inr (ren_pcl (hro.rst (hτ 0 (by decide) (by decide) (by show 0 ≠ 8; decide))) (hrc.rst (hτ 1 (by decide) (by decide) (by show 1 ≠ 8; decide)))), .inr (ren_pcl (hro.rst (hτ 0 (by decide) (by decide) (by show 0 ≠ 8; decide))) (hrc.rst (hτ 1 (by decide) (by decide) (by show 1 ≠ 8; decide)))), .inr rfl, .inr (renO_outO _ _), .inl rfl, .inr rfl, trivial⟩) (by kernel_rfl) (by kernel_rfl) (fun τ hτ => (renS_cons (congrArg (fun q => Value.pointer (some ⟨q, 0, none⟩)) (hτ 2 (by decide) (by decide) (by show 2 ≠ 8; decide))) (renS_cons ((ren_outV τ 5 zs).trans (congrArg (fun q => outV q zs) (hτ 5 (by decide) (by decide) (by show 5 ≠ 8; decide)))) (renS_cons (congrArg (fun q => Value.slice (some ⟨q, 0, none⟩) 16 16) (hτ 4 (by decide) (by decide) (by show 4 ≠ 8; decide))) (renS_cons rfl (renS_cons rfl rfl)))))) ?_
     intro g N hB
     refine EV.norm [1, 3, 4, 5, 7, 53] (S2 := [(1, pT 2), (3, outV 5 zs), (4, .slice (some ⟨4, 0, none⟩) 16 16), (5, .int .i64 2), (7, .int .i64 12), (53, outV 6 ((p.tok.take 12) ++ [p.t12]))]) (A2 := hp [r0, r1, pO fo fc zo zc co cc p 0 1, pO fo fc zo zc co cc p 0 1, tblO p, outO zs, outO ((p.tok.take 12) ++ [p.t12]), .cells [.int .u8 p.t12] false false 1] g N) (by kernel_rfl) (by kernel_rfl) ?_
     refine EV.norm [1, 3, 4, 5, 7, 53] (S2 := [(1, pT 2), (3, outV 5 zs), (4, .slice (some ⟨4, 0, none⟩) 16 16), (5, .int .i64 2), (7, .int .i64 12), (53, outV 6 (p.tok.take 13))]) (A2 := hp [r0, r1, pO fo fc zo zc co cc p 0 1, pO fo fc zo zc co cc p 0 1, tblO p, outO zs, outO (p.tok.take 13), .cells [.int .u8 p.t12] false false 1] g N) (by kernel_rfl) (by kernel_rfl) ?_
     refine EV.reng hB [0, 1, 2, 3, 4, 5, 6, 64] [0, 1, 2, 3, 4, 5, 6] [1, 3, 4, 5, 7, 53] (S2 := [(1, pT 2), (3, outV 5 zs), (4, .slice (some ⟨4, 0, none⟩) 16 16), (5, .int .i64 2), (7, .int .i64 12), (53, outV 6 (p.tok.take 13))]) (s2 := [r0, r1, pO fo fc zo zc co cc p 0 1, pO fo fc zo zc co cc p 0 1, tblO p, outO zs, outO (p.tok.take 13)]) (by kernel_rfl) (by kernel_rfl) ⟨.inr ⟨(bl rfl), .inl ((hro.obj _).symm)⟩, .inr ⟨(bl rfl), .inl ((hrc.obj _).symm)⟩, .inr ⟨(bl rfl), .inl ((ren_pcl (τ := tau [0, 1, 2, 3, 4, 5, 6, 64] N) (vo := .slice (fo 0) zo.length co) (vc := .slice (fc 1) zc.length cc) (hro.ren _ 0) (hrc.ren _ 1)).symm)⟩, .inr ⟨(bl rfl), .inl ((ren_pcl (τ := tau [0, 1, 2, 3, 4, 5, 6, 64] N) (vo := .slice (fo 0) zo.length co) (vc := .slice (fc 1) zc.length cc) (hro.ren _ 0) (hrc.ren _ 1)).symm)⟩, .inr ⟨(bl rfl), .inl (rfl)⟩, .inr ⟨(bl rfl), .inl ((renO_outO (tau [0, 1, 2, 3, 4, 5, 6, 64] N) zs).symm)⟩, .inr ⟨(bl rfl), .inl ((renO_outO (tau [0, 1, 2, 3, 4, 5, 6, 64] N) (p.tok.take 13)).symm)⟩, .inl (by decide), trivial⟩ (renS_cons (rfl) (renS_cons (ren_outV (tau [0, 1, 2, 3, 4, 5, 6, 64] N) 5 zs) (renS_cons (rfl) (renS_cons (rfl) (renS_cons (rfl) (renS_cons (ren_outV (tau [0, 1, 2, 3, 4, 5, 6, 64] N) 6 (p.tok.take 13)) rfl)))))) ?_
     intro g N hB
     refine EV.run (hcS K w0) 8 [1, 3, 4, 5, 6, 7] (S2 := [(1, pT 2), (3, outV 5 zs), (4, .slice (some ⟨4, 0, none⟩) 16 16), (5, .int .i64 2), (6, outV 6 (p.tok.take 13)), (7, .int .i64 12)]) (A2 := hp [r0, r1, pO fo fc zo zc co cc p 0 1, pO fo fc zo zc co cc p 0 1, tblO p, outO zs, outO (p.tok.take 13)] g N) rfl (by kernel_rfl) ?_
     refine EV.done rfl ?_
     refine blockQ_n ?_
     refine thenV_n ?_
     refine V.region ?_
     refine EV.runS (hcS K w0) 3 [1, 3, 4, 5, 6, 7] (S2 := [(1, pT 2), (3, outV 5 zs), (4, .slice (some ⟨4, 0, none⟩) 16 16), (5, .int .i64 2), (6, outV 6 (p.tok.take 13)), (7, .int .i64 13)]) rfl (by kernel_rfl) ?_
     refine EV.done rfl ?_
     exact loopV_n 4 (by decide) ⟨13, g, N, rfl, by decide, hB, rfl, rfl⟩
    ·
     obtain rfl : k = 4 := by omega
     refine V.seq ?_
     refine V.sr ?_
     refine EV.run (hcS K w0) 2 [1, 3, 4, 5, 6, 7, 44] (S2 := [(1, pT 2), (3, outV 5 zs), (4, .slice (some ⟨4, 0, none⟩) 16 16), (5, .int .i64 2), (6, outV 6 (p.tok.take 13)), (7, .int .i64 13), (44, .bool true)]) (A2 := hp [r0, r1, pO fo fc zo zc co cc p 0 1, pO fo fc zo zc co cc p 0 1, tblO p, outO zs, outO (p.tok.take 13)] g N) rfl (by kernel_rfl) ?_
     refine EV.done rfl ?_
     refine V.cond true (by kernel_rfl) (fun _ => ?_) (fun h => Bool.noConfusion h)
     refine V.weak [1, 3, 4, 5, 6, 7] (S2 := [(1, pT 2), (3, outV 5 zs), (4, .slice (some ⟨4, 0, none⟩) 16 16), (5, .int .i64 2), (6, outV 6 (p.tok.take 13)), (7, .int .i64 13)]) rfl ?_
     refine V.skip ?_
     refine thenV_n ?_
     refine V.seq ?_
     refine V.block ?_
     refine V.region ?_
     refine EV.run (hcS K w0) 6 [1, 3, 4, 5, 7, 47, 52] (S2 := [(1, pT 2), (3, outV 5 zs), (4, .slice (some ⟨4, 0, none⟩) 16 16), (5, .int .i64 2), (7, .int .i64 13), (47, outV 6 (p.tok.take 13)), (52, .slice (some ⟨7, 0, none⟩) 1 1)]) (A2 := hp [r0, r1, pO fo fc zo zc co cc p 0 1, pO fo fc zo zc co cc p 0 1, tblO p, outO zs, outO (p.tok.take 13), .cells [.int .u8 p.t13] false false 1] g N) rfl (by kernel_rfl) ?_
     refine EV.app (hcS K w0) (zs := (p.tok.take 13)) (xs := [p.t13]) 6 53 [1, 3, 4, 5, 7] (S1 := [(1, pT 2), (3, outV 5 zs), (4, .slice (some ⟨4, 0, none⟩) 16 16), (5, .int .i64 2), (7, .int .i64 13)]) hB rfl rfl rfl rfl (by kernel_rfl) rfl (by kernel_rfl) (by kernel_rfl) (by kernel_rfl) (fun _ _ _ => rfl) (rowV_cells (k := 7) (zs := [p.t13]) rfl rfl (tokAt hpo 13 (by decide))) (tokTake hpo 13) (bl rfl) rfl (by kernel_rfl) (fun τ hτ => ⟨.inr (hro.obj _), .inr (hrc.obj _), .inr (ren_pcl (hro.rst (hτ 0 (by decide) (by decide) (by show 0 ≠ 8; decide))) (hrc.rst (hτ 1 (by decide) (by decide) (by show 1 ≠ 8; decide)))), .inr (ren_pcl (hro.rst (hτ 0 (by decide) (by decide) (by show 0 ≠ 8; decide))) (hrc.rst (hτ 1 (by decide) (by decide) (by show 1 ≠ 8; decide)))), .inr rfl, .inr (renO_outO _ _), .inl rfl, .inr rfl, trivial⟩) (by kernel_rfl) (by kernel_rfl) (fun τ hτ => (renS_cons (congrArg (fun q => Value.pointer (some ⟨q, 0, none⟩)) (hτ 2 (by decide) (by decide) (by show 2 ≠ 8; decide))) (renS_cons ((ren_outV τ 5 zs).trans (congrArg (fun q => outV q zs) (hτ 5 (by decide) (by decide) (by show 5 ≠ 8; decide)))) (renS_cons (congrArg (fun q => Value.slice (some ⟨q, 0, none⟩) 16 16) (hτ 4 (by decide) (by decide) (by show 4 ≠ 8; decide))) (renS_cons rfl (renS_cons rfl rfl)))))) ?_
     intro g N hB
     refine EV.norm [1, 3, 4, 5, 7, 53] (S2 := [(1, pT 2), (3, outV 5 zs), (4, .slice (some ⟨4, 0, none⟩) 16 16), (5, .int .i64 2), (7, .int .i64 13), (53, outV 6 ((p.tok.take 13) ++ [p.t13]))]) (A2 := hp [r0, r1, pO fo fc zo zc co cc p 0 1, pO fo fc zo zc co cc p 0 1, tblO p, outO zs, outO ((p.tok.take 13) ++ [p.t13]), .cells [.int .u8 p.t13] false false 1] g N) (by kernel_rfl) (by kernel_rfl) ?_
     refine EV.norm [1, 3, 4, 5, 7, 53] (S2 := [(1, pT 2), (3, outV 5 zs), (4, .slice (some ⟨4, 0, none⟩) 16 16), (5, .int .i64 2), (7, .int .i64 13), (53, outV 6 (p.tok.take 14))]) (A2 := hp [r0, r1, pO fo fc zo zc co cc p 0 1, pO fo fc zo zc co cc p 0 1, tblO p, outO zs, outO (p.tok.take 14), .cells [.int .u8 p.t13] false false 1] g N) (by kernel_rfl) (by kernel_rfl) ?_
     refine EV.reng hB [0, 1, 2, 3, 4, 5, 6, 64] [0, 1, 2, 3, 4, 5, 6] [1, 3, 4, 5, 7, 53] (S2 := [(1, pT 2), (3, outV 5 zs), (4, .slice (some ⟨4, 0, none⟩) 16 16), (5, .int .i64 2), (7, .int .i64 13), (53, outV 6 (p.tok.take 14))]) (s2 := [r0, r1, pO fo fc zo zc co cc p 0 1, pO fo fc zo zc co cc p 0 1, tblO p, outO zs, outO (p.tok.take 14)]) (by kernel_rfl) (by kernel_rfl) ⟨.inr ⟨(bl rfl), .inl ((hro.obj _).symm)⟩, .inr ⟨(bl rfl), .inl ((hrc.obj _).symm)⟩, .inr ⟨(bl rfl), .inl ((ren_pcl (τ := tau [0, 1, 2, 3, 4, 5, 6, 64] N) (vo := .slice (fo 0) zo.length co) (vc := .slice (fc 1) zc.length cc) (hro.ren _ 0) (hrc.ren _ 1)).symm)⟩, .inr ⟨(bl rfl), .inl ((ren_pcl (τ := tau [0, 1, 2, 3, 4, 5, 6, 64] N) (vo := .slice (fo 0) zo.length co) (vc := .slice (fc 1) zc.length cc) (hro.ren _ 0) (hrc.ren _ 1)).symm)⟩, .inr ⟨(bl rfl), .inl (rfl)⟩, .inr ⟨(bl rfl), .inl ((renO_outO (tau [0, 1, 2, 3, 4, 5, 6, 64] N) zs).symm)⟩, .inr ⟨(bl rfl), .inl ((renO_outO (tau [0, 1, 2, 3, 4, 5, 6, 64] N) (p.tok.take 14)).symm)⟩, .inl (by decide), trivial⟩ (renS_cons (rfl) (renS_cons (ren_outV (tau [0, 1, 2, 3, 4, 5, 6, 64] N) 5 zs) (renS_cons (rfl) (renS_cons (rfl) (renS_cons (rfl) (renS_cons (ren_outV (tau [0, 1, 2, 3, 4, 5, 6, 64] N) 6 (p.tok.take 14)) rfl)))))) ?_
     intro g N hB
     refine EV.run (hcS K w0) 8 [1, 3, 4, 5, 6, 7] (S2 := [(1, pT 2), (3, outV 5 zs), (4, .slice (some ⟨4, 0, none⟩) 16 16), (5, .int .i64 2), (6, outV 6 (p.tok.take 14)), (7, .int .i64 13)]) (A2 := hp [r0, r1, pO fo fc zo zc co cc p 0 1, pO fo fc zo zc co cc p 0 1, tblO p, outO zs, outO (p.tok.take 14)] g N) rfl (by kernel_rfl) ?_
     refine EV.done rfl ?_
     refine blockQ_n ?_
     refine thenV_n ?_
     refine V.region ?_
     refine EV.runS (hcS K w0) 3 [1, 3, 4, 5, 6, 7] (S2 := [(1, pT 2), (3, outV 5 zs), (4, .slice (some ⟨4, 0, none⟩) 16 16), (5, .int .i64 2), (6, outV 6 (p.tok.take 14)), (7, .int .i64 14)]) rfl (by kernel_rfl) ?_
     refine EV.done rfl ?_
     exact loopV_n 3 (by decide) ⟨14, g, N, rfl, by decide, hB, rfl, rfl⟩
    ·
     obtain rfl : k = 3 := by omega
     refine V.seq ?_
     refine V.sr ?_
     refine EV.run (hcS K w0) 2 [1, 3, 4, 5, 6, 7, 44] (S2 := [(1, pT 2), (3, outV 5 zs), (4, .slice (some ⟨4, 0, none⟩) 16 16), (5, .int .i64 2), (6, outV 6 (p.tok.take 14)), (7, .int .i64 14), (44, .bool true)]) (A2 := hp [r0, r1, pO fo fc zo zc co cc p 0 1, pO fo fc zo zc co cc p 0 1, tblO p, outO zs, outO (p.tok.take 14)] g N) rfl (by kernel_rfl) ?_
     refine EV.done rfl ?_
     refine V.cond true (by kernel_rfl) (fun _ => ?_) (fun h => Bool.noConfusion h)
     refine V.weak [1, 3, 4, 5, 6, 7] (S2 := [(1, pT 2), (3, outV 5 zs), (4, .slice (some ⟨4, 0, none⟩) 16 16), (5, .int .i64 2), (6, outV 6 (p.tok.take 14)), (7, .int .i64 14)]) rfl ?_
     refine V.skip ?_
     refine thenV_n ?_
     refine V.seq ?_
     refine V.block ?_
     refine V.region ?_
     refine EV.run (hcS K w0) 6 [1, 3, 4, 5, 7, 47, 52] (S2 := [(1, pT 2), (3, outV 5 zs), (4, .slice (some ⟨4, 0, none⟩) 16 16), (5, .int .i64 2), (7, .int .i64 14), (47, outV 6 (p.tok.take 14)), (52, .slice (some ⟨7, 0, none⟩) 1 1)]) (A2 := hp [r0, r1, pO fo fc zo zc co cc p 0 1, pO fo fc zo zc co cc p 0 1, tblO p, outO zs, outO (p.tok.take 14), .cells [.int .u8 p.t14] false false 1] g N) rfl (by kernel_rfl) ?_
     refine EV.app (hcS K w0) (zs := (p.tok.take 14)) (xs := [p.t14]) 6 53 [1, 3, 4, 5, 7] (S1 := [(1, pT 2), (3, outV 5 zs), (4, .slice (some ⟨4, 0, none⟩) 16 16), (5, .int .i64 2), (7, .int .i64 14)]) hB rfl rfl rfl rfl (by kernel_rfl) rfl (by kernel_rfl) (by kernel_rfl) (by kernel_rfl) (fun _ _ _ => rfl) (rowV_cells (k := 7) (zs := [p.t14]) rfl rfl (tokAt hpo 14 (by decide))) (tokTake hpo 14) (bl rfl) rfl (by kernel_rfl) (fun τ hτ => ⟨.inr (hro.obj _), .inr (hrc.obj _), .inr (ren_pcl (hro.rst (hτ 0 (by decide) (by decide) (by show 0 ≠ 8; decide))) (hrc.rst (hτ 1 (by decide) (by decide) (by show 1 ≠ 8; decide)))), .inr (ren_pcl (hro.rst (hτ 0 (by decide) (by decide) (by show 0 ≠ 8; decide))) (hrc.rst (hτ 1 (by decide) (by decide) (by show 1 ≠ 8; decide)))), .inr rfl, .inr (renO_outO _ _), .inl rfl, .inr rfl, trivial⟩) (by kernel_rfl) (by kernel_rfl) (fun τ hτ => (renS_cons (congrArg (fun q => Value.pointer (some ⟨q, 0, none⟩)) (hτ 2 (by decide) (by decide) (by show 2 ≠ 8; decide))) (renS_cons ((ren_outV τ 5 zs).trans (congrArg (fun q => outV q zs) (hτ 5 (by decide) (by decide) (by show 5 ≠ 8; decide)))) (renS_cons (congrArg (fun q => Value.slice (some ⟨q, 0, none⟩) 16 16) (hτ 4 (by decide) (by decide) (by show 4 ≠ 8; decide))) (renS_cons rfl (renS_cons rfl rfl)))))) ?_
     intro g N hB
     refine EV.norm [1, 3, 4, 5, 7, 53] (S2 := [(1, pT 2), (3, outV 5 zs), (4, .slice (some ⟨4, 0, none⟩) 16 16), (5, .int .i64 2), (7, .int .i64 14), (53, outV 6 ((p.tok.take 14) ++ [p.t14]))]) (A2 := hp [r0, r1, pO fo fc zo zc co cc p 0 1, pO fo fc zo zc co cc p 0 1, tblO p, outO zs, outO ((p.tok.take 14) ++ [p.t14]), .cells [.int .u8 p.t14] false false 1] g N) (by kernel_rfl) (by kernel_rfl) ?_
     refine EV.norm [1, 3, 4, 5, 7, 53] (S2 := [(1, pT 2), (3, outV 5 zs), (4, .slice (some ⟨4, 0, none⟩) 16 16), (5, .int .i64 2), (7, .int .i64 14), (53, outV 6 (p.tok.take 15))]) (A2 := hp [r0, r1, pO fo fc zo zc co cc p 0 1, pO fo fc zo zc co cc p 0 1, tblO p, outO zs, outO (p.tok.take 15), .cells [.int .u8 p.t14] false false 1] g N) (by kernel_rfl) (by kernel_rfl) ?_
     refine EV.reng hB [0, 1, 2, 3, 4, 5, 6, 64] [0, 1, 2, 3, 4, 5, 6] [1, 3, 4, 5, 7, 53] (S2 := [(1, pT 2), (3, outV 5 zs), (4, .slice (some ⟨4, 0, none⟩) 16 16), (5, .int .i64 2), (7, .int .i64 14), (53, outV 6 (p.tok.take 15))]) (s2 := [r0, r1, pO fo fc zo zc co cc p 0 1, pO fo fc zo zc co cc p 0 1, tblO p, outO zs, outO (p.tok.take 15)]) (by kernel_rfl) (by kernel_rfl) ⟨.inr ⟨(bl rfl), .inl ((hro.obj _).symm)⟩, .inr ⟨(bl rfl), .inl ((hrc.obj _).symm)⟩, .inr ⟨(bl rfl), .inl ((ren_pcl (τ := tau [0, 1, 2, 3, 4, 5, 6, 64] N) (vo := .slice (fo 0) zo.length co) (vc := .slice (fc 1) zc.length cc) (hro.ren _ 0) (hrc.ren _ 1)).symm)⟩, .inr ⟨(bl rfl), .inl ((ren_pcl (τ := tau [0, 1, 2, 3, 4, 5, 6, 64] N) (vo := .slice (fo 0) zo.length co) (vc := .slice (fc 1) zc.length cc) (hro.ren _ 0) (hrc.ren _ 1)).symm)⟩, .inr ⟨(bl rfl), .inl (rfl)⟩, .inr ⟨(bl rfl), .inl ((renO_outO (tau [0, 1, 2, 3, 4, 5, 6, 64] N) zs).symm)⟩, .inr ⟨(bl rfl), .inl ((renO_outO (tau [0, 1, 2, 3, 4, 5, 6, 64] N) (p.tok.take 15)).symm)⟩, .inl (by decide), trivial⟩ (renS_cons (rfl) (renS_cons (ren_outV (tau [0, 1, 2, 3, 4, 5, 6, 64] N) 5 zs) (renS_cons (rfl) (renS_cons (rfl) (renS_cons (rfl) (renS_cons (ren_outV (tau [0, 1, 2, 3, 4, 5, 6, 64] N) 6 (p.tok.take 15)) rfl)))))) ?_
     intro g N hB
     refine EV.run (hcS K w0) 8 [1, 3, 4, 5, 6, 7] (S2 := [(1, pT 2), (3, outV 5 zs), (4, .slice (some ⟨4, 0, none⟩) 16 16), (5, .int .i64 2), (6, outV 6 (p.tok.take 15)), (7, .int .i64 14)]) (A2 := hp [r0, r1, pO fo fc zo zc co cc p 0 1, pO fo fc zo zc co cc p 0 1, tblO p, outO zs, outO (p.tok.take 15)] g N) rfl (by kernel_rfl) ?_
     refine EV.done rfl ?_
     refine blockQ_n ?_
     refine thenV_n ?_
     refine V.region ?_
     refine EV.runS (hcS K w0) 3 [1, 3, 4, 5, 6, 7] (S2 := [(1, pT 2), (3, outV 5 zs), (4, .slice (some ⟨4, 0, none⟩) 16 16), (5, .int .i64 2), (6, outV 6 (p.tok.take 15)), (7, .int .i64 15)]) rfl (by kernel_rfl) ?_
     refine EV.done rfl ?_
     exact loopV_n 2 (by decide) ⟨15, g, N, rfl, by decide, hB, rfl, rfl⟩
    ·
     obtain rfl : k = 2 := by omega
     refine V.seq ?_
     refine V.sr ?_
     refine EV.run (hcS K w0) 2 [1, 3, 4, 5, 6, 7, 44] (S2 := [(1, pT 2), (3, outV 5 zs), (4, .slice (some ⟨4, 0, none⟩) 16 16), (5, .int .i64 2), (6, outV 6 (p.tok.take 15)), (7, .int .i64 15), (44, .bool true)]) (A2 := hp [r0, r1, pO fo fc zo zc co cc p 0 1, pO fo fc zo zc co cc p 0 1, tblO p, outO zs, outO (p.tok.take 15)] g N) rfl (by kernel_rfl) ?_
     refine EV.done rfl ?_
     refine V.cond true (by kernel_rfl) (fun _ => ?_) (fun h => Bool.noConfusion h)
     refine V.weak [1, 3, 4, 5, 6, 7] (S2 := [(1, pT 2), (3, outV 5 zs), (4, .slice (some ⟨4, 0, none⟩) 16 16), (5, .int .i64 2), (6, outV 6 (p.tok.take 15)), (7, .int .i64 15)]) rfl ?_
     refine V.skip ?_
     refine thenV_n ?_
     refine V.seq ?_
     refine V.block ?_
     refine V.region ?_
     refine EV.run (hcS K w0) 6 [1, 3, 4, 5, 7, 47, 52] (S2 := [(1, pT 2), (3, outV 5 zs), (4, .slice (some ⟨4, 0, none⟩) 16 16), (5, .int .i64 2), (7, .int .i64 15), (47, outV 6 (p.tok.take 15)), (52, .slice (some ⟨7, 0, none⟩) 1 1)]) (A2 := hp [r0, r1, pO fo fc zo zc co cc p 0 1, pO fo fc zo zc co cc p 0 1, tblO p, outO zs, outO (p.tok.take 15), .cells [.int .u8 p.t15] false false 1] g N) rfl (by kernel_rfl) ?_
     refine EV.app (hcS K w0) (zs := (p.tok.take 15)) (xs := [p.t15]) 6 53 [1, 3, 4, 5, 7] (S1 := [(1, pT 2), (3, outV 5 zs), (4, .slice (some ⟨4, 0, none⟩) 16 16), (5, .int .i64 2), (7, .int .i64 15)]) hB rfl rfl rfl rfl (by kernel_rfl) rfl (by kernel_rfl) (by kernel_rfl) (by kernel_rfl) (fun _ _ _ => rfl) (rowV_cells (k := 7) (zs := [p.t15]) rfl rfl (tokAt hpo 15 (by decide))) (tokTake hpo 15) (bl rfl) rfl (by kernel_rfl) (fun τ hτ => ⟨.inr (hro.obj _), .inr (hrc.obj _), .inr (ren_pcl (hro.rst (hτ 0 (by decide) (by decide) (by show 0 ≠ 8; decide))) (hrc.rst (hτ 1 (by decide) (by decide) (by show 1 ≠ 8; decide)))), .inr (ren_pcl (hro.rst (hτ 0 (by decide) (by decide) (by show 0 ≠ 8; decide))) (hrc.rst (hτ 1 (by decide) (by decide) (by show 1 ≠ 8; decide)))), .inr rfl, .inr (renO_outO _ _), .inl rfl, .inr rfl, trivial⟩) (by kernel_rfl) (by kernel_rfl) (fun τ hτ => (renS_cons (congrArg (fun q => Value.pointer (some ⟨q, 0, none⟩)) (hτ 2 (by decide) (by decide) (by show 2 ≠ 8; decide))) (renS_cons ((ren_outV τ 5 zs).trans (congrArg (fun q => outV q zs) (hτ 5 (by decide) (by decide) (by show 5 ≠ 8; decide)))) (renS_cons (congrArg (fun q => Value.slice (some ⟨q, 0, none⟩) 16 16) (hτ 4 (by decide) (by decide) (by show 4 ≠ 8; decide))) (renS_cons rfl (renS_cons rfl rfl)))))) ?_
     intro g N hB
     refine EV.norm [1, 3, 4, 5, 7, 53] (S2 := [(1, pT 2), (3, outV 5 zs), (4, .slice (some ⟨4, 0, none⟩) 16 16), (5, .int .i64 2), (7, .int .i64 15), (53, outV 6 ((p.tok.take 15) ++ [p.t15]))]) (A2 := hp [r0, r1, pO fo fc zo zc co cc p 0 1, pO fo fc zo zc co cc p 0 1, tblO p, outO zs, outO ((p.tok.take 15) ++ [p.t15]), .cells [.int .u8 p.t15] false false 1] g N) (by kernel_rfl) (by kernel_rfl) ?_
     refine EV.norm [1, 3, 4, 5, 7, 53] (S2 := [(1, pT 2), (3, outV 5 zs), (4, .slice (some ⟨4, 0, none⟩) 16 16), (5, .int .i64 2), (7, .int .i64 15), (53, outV 6 (p.tok.take 16))]) (A2 := hp [r0, r1, pO fo fc zo zc co cc p 0 1, pO fo fc zo zc co cc p 0 1, tblO p, outO zs, outO (p.tok.take 16), .cells [.int .u8 p.t15] false false 1] g N) (by kernel_rfl) (by kernel_rfl) ?_
     refine EV.reng hB [0, 1, 2, 3, 4, 5, 6, 64] [0, 1, 2, 3, 4, 5, 6] [1, 3, 4, 5, 7, 53] (S2 := [(1, pT 2), (3, outV 5 zs), (4, .slice (some ⟨4, 0, none⟩) 16 16), (5, .int .i64 2), (7, .int .i64 15), (53, outV 6 (p.tok.take 16))]) (s2 := [r0, r1, pO fo fc zo zc co cc p 0 1, pO fo fc zo zc co cc p 0 1, tblO p, outO zs, outO (p.tok.take 16)]) (by kernel_rfl) (by kernel_rfl) ⟨.inr ⟨(bl rfl), .inl ((hro.obj _).symm)⟩, .inr ⟨(bl rfl), .inl ((hrc.obj _).symm)⟩, .inr ⟨(bl rfl), .inl ((ren_pcl (τ := tau [0, 1, 2, 3, 4, 5, 6, 64] N) (vo := .slice (fo 0) zo.length co) (vc := .slice (fc 1) zc.length cc) (hro.ren _ 0) (hrc.ren _ 1)).symm)⟩, .inr ⟨(bl rfl), .inl ((ren_pcl (τ := tau [0, 1, 2, 3, 4, 5, 6, 64] N) (vo := .slice (fo 0) zo.length co) (vc := .slice (fc 1) zc.length cc) (hro.ren _ 0) (hrc.ren _ 1)).symm)⟩, .inr ⟨(bl rfl), .inl (rfl)⟩, .inr ⟨(bl rfl), .inl ((renO_outO (tau [0, 1, 2, 3, 4, 5, 6, 64] N) zs).symm)⟩, .inr ⟨(bl rfl), .inl ((renO_outO (tau [0, 1, 2, 3, 4, 5, 6, 64] N) (p.tok.take 16)).symm)⟩, .inl (by decide), trivial⟩ (renS_cons (rfl) (renS_cons (ren_outV (tau [0, 1, 2, 3, 4, 5, 6, 64] N) 5 zs) (renS_cons (rfl) (renS_cons (rfl) (renS_cons (rfl) (renS_cons (ren_outV (tau [0, 1, 2, 3, 4, 5, 6, 64] N) 6 (p.tok.take 16)) rfl)))))) ?_
     intro g N hB
     refine EV.run (hcS K w0) 8 [1, 3, 4, 5, 6, 7] (S2 := [(1, pT 2), (3, outV 5 zs), (4, .slice (some ⟨4, 0, none⟩) 16 16), (5, .int .i64 2), (6, outV 6 (p.tok.take 16)), (7, .int .i64 15)]) (A2 := hp [r0, r1, pO fo fc zo zc co cc p 0 1, pO fo fc zo zc co cc p 0 1, tblO p, outO zs, outO (p.tok.take 16)] g N) rfl (by kernel_rfl) ?_
     refine EV.done rfl ?_
     refine blockQ_n ?_
     refine thenV_n ?_
     refine V.region ?_
     refine EV.runS (hcS K w0) 3 [1, 3, 4, 5, 6, 7] (S2 := [(1, pT 2), (3, outV 5 zs), (4, .slice (some ⟨4, 0, none⟩) 16 16), (5, .int .i64 2), (6, outV 6 (p.tok.take 16)), (7, .int .i64 16)]) rfl (by kernel_rfl) ?_
     refine EV.done rfl ?_
     exact loopV_n 1 (by decide) ⟨16, g, N, rfl, by decide, hB, rfl, rfl⟩
    ·
     obtain rfl : k = 1 := by omega
     refine V.seq ?_
     refine V.sr ?_
     refine EV.run (hcS K w0) 2 [1, 3, 4, 5, 6, 7, 44] (S2 := [(1, pT 2), (3, outV 5 zs), (4, .slice (some ⟨4, 0, none⟩) 16 16), (5, .int .i64 2), (6, outV 6 (p.tok.take 16)), (7, .int .i64 16), (44, .bool false)]) (A2 := hp [r0, r1, pO fo fc zo zc co cc p 0 1, pO fo fc zo zc co cc p 0 1, tblO p, outO zs, outO (p.tok.take 16)] g N) rfl (by kernel_rfl) ?_
     refine EV.done rfl ?_
     refine V.cond false (by kernel_rfl) (fun h => Bool.noConfusion h) (fun _ => ?_)
     refine V.weak [1, 3, 4, 5, 6] (S2 := [(1, pT 2), (3, outV 5 zs), (4, .slice (some ⟨4, 0, none⟩) 16 16), (5, .int .i64 2), (6, outV 6 (p.tok.take 16))]) rfl ?_
     refine V.exit ?_
     refine thenV_e ?_
     refine loopV_e ?_
     refine blockQ_hit ?_
     refine thenV_n ?_
     refine V.region ?_
     refine EV.run (hcS K w0) 2 [1, 4, 5, 54, 55] (S2 := [(1, pT 2), (4, .slice (some ⟨4, 0, none⟩) 16 16), (5, .int .i64 2), (54, outV 5 zs), (55, outV 6 (p.tok.take 16))]) (A2 := hp [r0, r1, pO fo fc zo zc co cc p 0 1, pO fo fc zo zc co cc p 0 1, tblO p, outO zs, outO (p.tok.take 16)] g N) rfl (by kernel_rfl) ?_
     refine EV.callh (fs := #[]) (vs := [.int .i64 2, outV 6 (p.tok.take 16)]) (cs := #[]) [6] (f35_fh (rowF_out (tokTake hpo 16)) 2 (by decide) (by show 16 ≤ 100000; decide)) rfl rfl rfl (by kernel_rfl) (by kernel_rfl) (by kernel_rfl) (by kernel_rfl) (argsCons (σ := sigma [6] (N + 64)) (a := .int .i64 2) (xs := [outV 0 (p.tok.take 16)]) rfl (argsCons (σ := sigma [6] (N + 64)) (a := outV 0 (p.tok.take 16)) (xs := []) (ren_outV (sigma [6] (N + 64)) 0 (p.tok.take 16)) rfl)).symm (by kernel_rfl) ⟨view_out _ rfl (bl rfl), trivial⟩ ?_
     rintro v s1 ⟨rfl, rfl⟩
     refine ⟨_, outV 7 (putB 2 (p.tok.take 16)), ⟨[outR (p.tok.take 16)], [outO (putB 2 (p.tok.take 16))], [none], [outO (putB 2 (p.tok.take 16))], rfl, by kernel_rfl, ⟨start_row (rowF_out (tokTake hpo 16)), trivial⟩, ⟨new_out _ _, trivial⟩, rfl⟩, (ren_outV (sigma1 [6] N 1 7) 1 (putB 2 (p.tok.take 16))).symm, ?_⟩
     refine EV.norm [1, 4, 5, 54, 56] (S2 := [(1, pT 2), (4, .slice (some ⟨4, 0, none⟩) 16 16), (5, .int .i64 2), (54, outV 5 zs), (56, outV 7 (putB 2 (p.tok.take 16)))]) (A2 := hp [r0, r1, pO fo fc zo zc co cc p 0 1, pO fo fc zo zc co cc p 0 1, tblO p, outO zs, outO (p.tok.take 16), outO (putB 2 (p.tok.take 16))] g N) (by kernel_rfl) (by kernel_rfl) ?_
     refine EV.app (hcS K w0) (zs := zs) (xs := (putB 2 (p.tok.take 16))) 5 57 [1, 4, 5] (S1 := [(1, pT 2), (4, .slice (some ⟨4, 0, none⟩) 16 16), (5, .int .i64 2)]) hB rfl rfl rfl rfl (by kernel_rfl) rfl (by kernel_rfl) (by kernel_rfl) (by kernel_rfl) (fun _ _ _ => rfl) (rowV_own (k := 7) rfl rfl (putB_byte (tokTake hpo 16))) (hzsb) (by have := putB_len 2 (p.tok.take 16) (by show 16 ≤ 20; decide); (have : (zs).length ≤ 1000 := by first | exact hzsl | simp); omega) rfl (by kernel_rfl) (fun τ hτ => ⟨.inr (hro.obj _), .inr (hrc.obj _), .inr (ren_pcl (hro.rst (hτ 0 (by decide) (by decide) (by show 0 ≠ 8; decide))) (hrc.rst (hτ 1 (by decide) (by decide) (by show 1 ≠ 8; decide)))), .inr (ren_pcl (hro.rst (hτ 0 (by decide) (by decide) (by show 0 ≠ 8; decide))) (hrc.rst (hτ 1 (by decide) (by decide) (by show 1 ≠ 8; decide)))), .inr rfl, .inl rfl, .inr (renO_outO _ _), .inr (renO_outO _ _), trivial⟩) (by kernel_rfl) (by kernel_rfl) (fun τ hτ => (renS_cons (congrArg (fun q => Value.pointer (some ⟨q, 0, none⟩)) (hτ 2 (by decide) (by decide) (by show 2 ≠ 8; decide))) (renS_cons (congrArg (fun q => Value.slice (some ⟨q, 0, none⟩) 16 16) (hτ 4 (by decide) (by decide) (by show 4 ≠ 8; decide))) (renS_cons rfl rfl)))) ?_
     intro g N hB
     refine EV.norm [1, 4, 5, 57] (S2 := [(1, pT 2), (4, .slice (some ⟨4, 0, none⟩) 16 16), (5, .int .i64 2), (57, outV 5 (zs ++ (putB 2 (p.tok.take 16))))]) (A2 := hp [r0, r1, pO fo fc zo zc co cc p 0 1, pO fo fc zo zc co cc p 0 1, tblO p, outO (zs ++ (putB 2 (p.tok.take 16))), outO (p.tok.take 16), outO (putB 2 (p.tok.take 16))] g N) (by kernel_rfl) (by kernel_rfl) ?_
     refine EV.reng hB [0, 1, 2, 3, 4, 5, 64, 64] [0, 1, 2, 3, 4, 5] [1, 4, 5, 57] (S2 := [(1, pT 2), (4, .slice (some ⟨4, 0, none⟩) 16 16), (5, .int .i64 2), (57, outV 5 (zs ++ (putB 2 (p.tok.take 16))))]) (s2 := [r0, r1, pO fo fc zo zc co cc p 0 1, pO fo fc zo zc co cc p 0 1, tblO p, outO (zs ++ (putB 2 (p.tok.take 16)))]) (by kernel_rfl) (by kernel_rfl) ⟨.inr ⟨(bl rfl), .inl ((hro.obj _).symm)⟩, .inr ⟨(bl rfl), .inl ((hrc.obj _).symm)⟩, .inr ⟨(bl rfl), .inl ((ren_pcl (τ := tau [0, 1, 2, 3, 4, 5, 64, 64] N) (vo := .slice (fo 0) zo.length co) (vc := .slice (fc 1) zc.length cc) (hro.ren _ 0) (hrc.ren _ 1)).symm)⟩, .inr ⟨(bl rfl), .inl ((ren_pcl (τ := tau [0, 1, 2, 3, 4, 5, 64, 64] N) (vo := .slice (fo 0) zo.length co) (vc := .slice (fc 1) zc.length cc) (hro.ren _ 0) (hrc.ren _ 1)).symm)⟩, .inr ⟨(bl rfl), .inl (rfl)⟩, .inr ⟨(bl rfl), .inl ((renO_outO (tau [0, 1, 2, 3, 4, 5, 64, 64] N) (zs ++ (putB 2 (p.tok.take 16)))).symm)⟩, .inl (by decide), .inl (by decide), trivial⟩ (renS_cons (rfl) (renS_cons (rfl) (renS_cons (rfl) (renS_cons (ren_outV (tau [0, 1, 2, 3, 4, 5, 64, 64] N) 5 (zs ++ (putB 2 (p.tok.take 16)))) rfl)))) ?_
     intro g N hB
     refine EV.run (hcS K w0) 5 [1, 3, 4, 5] (S2 := [(1, pT 2), (3, outV 5 (zs ++ (putB 2 (p.tok.take 16)))), (4, .slice (some ⟨4, 0, none⟩) 16 16), (5, .int .i64 2)]) (A2 := hp [r0, r1, pO fo fc zo zc co cc p 0 1, pO fo fc zo zc co cc p 0 1, tblO p, outO (zs ++ (putB 2 (p.tok.take 16)))] g N) rfl (by kernel_rfl) ?_
     refine EV.done rfl ?_
     refine blockQ_n ?_
     refine thenV_n ?_
     refine V.region ?_
     refine EV.runS (hcS K w0) 3 [1, 3, 4, 5] (S2 := [(1, pT 2), (3, outV 5 (zs ++ (putB 2 (p.tok.take 16)))), (4, .slice (some ⟨4, 0, none⟩) 16 16), (5, .int .i64 3)]) rfl (by kernel_rfl) ?_
     refine EV.done rfl ?_
     exact loopV_n 13 (by decide) ⟨3, (zs ++ (putB 2 (p.tok.take 16))), g, N, rfl, by decide, by decide, by rw [hinv]; simp [upB, itemB, h4]; rfl, hB, rfl, rfl⟩
   ·
    refine V.weak [1, 3, 4, 5] (S2 := [(1, pT 2), (3, outV 5 zs), (4, .slice (some ⟨4, 0, none⟩) 16 16), (5, .int .i64 2)]) rfl ?_
    refine V.skip ?_
    refine blockQ_n ?_
    refine thenV_n ?_
    refine V.region ?_
    refine EV.runS (hcS K w0) 3 [1, 3, 4, 5] (S2 := [(1, pT 2), (3, outV 5 zs), (4, .slice (some ⟨4, 0, none⟩) 16 16), (5, .int .i64 3)]) rfl (by kernel_rfl) ?_
    refine EV.done rfl ?_
    exact loopV_n 13 (by decide) ⟨3, zs, g, N, rfl, by decide, by decide, by rw [hinv]; simp [upB, itemB, h4], hB, rfl, rfl⟩
  ·
   obtain rfl : k = 13 := by omega
   refine V.seq ?_
   refine V.sr ?_
   refine EV.run (hcS K w0) 2 [1, 3, 4, 5, 20] (S2 := [(1, pT 2), (3, outV 5 zs), (4, .slice (some ⟨4, 0, none⟩) 16 16), (5, .int .i64 3), (20, .bool true)]) (A2 := hp [r0, r1, pO fo fc zo zc co cc p 0 1, pO fo fc zo zc co cc p 0 1, tblO p, outO zs] g N) rfl (by kernel_rfl) ?_
   refine EV.done rfl ?_
   refine V.cond true (by kernel_rfl) (fun _ => ?_) (fun h => Bool.noConfusion h)
   refine V.weak [1, 3, 4, 5] (S2 := [(1, pT 2), (3, outV 5 zs), (4, .slice (some ⟨4, 0, none⟩) 16 16), (5, .int .i64 3)]) rfl ?_
   refine V.skip ?_
   refine thenV_n ?_
   refine V.seq ?_
   refine V.block ?_
   refine V.seq ?_
   refine V.sr ?_
   refine EV.runS (hcS K w0) 5 [1, 3, 4, 5, 27] (S2 := [(1, pT 2), (3, outV 5 zs), (4, .slice (some ⟨4, 0, none⟩) 16 16), (5, .int .i64 3), (27, .bool false)]) rfl (by kernel_rfl) ?_
   refine EV.done rfl ?_
   refine V.cond false (by kernel_rfl) (fun h => Bool.noConfusion h) (fun _ => ?_)
   refine V.weak [1, 3, 4, 5] (S2 := [(1, pT 2), (3, outV 5 zs), (4, .slice (some ⟨4, 0, none⟩) 16 16), (5, .int .i64 3)]) rfl ?_
   refine V.skip ?_
   refine thenV_n ?_
   refine V.sr ?_
   refine EV.runS (hcS K w0) 6 [1, 3, 4, 5, 42] (S2 := [(1, pT 2), (3, outV 5 zs), (4, .slice (some ⟨4, 0, none⟩) 16 16), (5, .int .i64 3), (42, .bool false)]) rfl (by kernel_rfl) ?_
   refine EV.done rfl ?_
   refine V.cond false (by kernel_rfl) (fun h => Bool.noConfusion h) (fun _ => ?_)
   refine V.weak [1, 3, 4, 5] (S2 := [(1, pT 2), (3, outV 5 zs), (4, .slice (some ⟨4, 0, none⟩) 16 16), (5, .int .i64 3)]) rfl ?_
   refine V.skip ?_
   refine blockQ_n ?_
   refine thenV_n ?_
   refine V.region ?_
   refine EV.runS (hcS K w0) 3 [1, 3, 4, 5] (S2 := [(1, pT 2), (3, outV 5 zs), (4, .slice (some ⟨4, 0, none⟩) 16 16), (5, .int .i64 4)]) rfl (by kernel_rfl) ?_
   refine EV.done rfl ?_
   exact loopV_n 12 (by decide) ⟨4, zs, g, N, rfl, by decide, by decide, by rw [hinv]; simp [upB, itemB, PN.num], hB, rfl, rfl⟩
  ·
   obtain rfl : k = 12 := by omega
   refine V.seq ?_
   refine V.sr ?_
   refine EV.run (hcS K w0) 2 [1, 3, 4, 5, 20] (S2 := [(1, pT 2), (3, outV 5 zs), (4, .slice (some ⟨4, 0, none⟩) 16 16), (5, .int .i64 4), (20, .bool true)]) (A2 := hp [r0, r1, pO fo fc zo zc co cc p 0 1, pO fo fc zo zc co cc p 0 1, tblO p, outO zs] g N) rfl (by kernel_rfl) ?_
   refine EV.done rfl ?_
   refine V.cond true (by kernel_rfl) (fun _ => ?_) (fun h => Bool.noConfusion h)
   refine V.weak [1, 3, 4, 5] (S2 := [(1, pT 2), (3, outV 5 zs), (4, .slice (some ⟨4, 0, none⟩) 16 16), (5, .int .i64 4)]) rfl ?_
   refine V.skip ?_
   refine thenV_n ?_
   refine V.seq ?_
   refine V.block ?_
   refine V.seq ?_
   refine V.sr ?_
   refine EV.runS (hcS K w0) 5 [1, 3, 4, 5, 27] (S2 := [(1, pT 2), (3, outV 5 zs), (4, .slice (some ⟨4, 0, none⟩) 16 16), (5, .int .i64 4), (27, .bool (decide (p.i4 > 0)))]) rfl (by kernel_rfl) ?_
   refine EV.done rfl ?_
   refine V.cond (decide (p.i4 > 0)) (by kernel_rfl) (fun h5 => ?_) (fun h5 => ?_)
   ·
    refine V.weak [1, 3, 4, 5] (S2 := [(1, pT 2), (3, outV 5 zs), (4, .slice (some ⟨4, 0, none⟩) 16 16), (5, .int .i64 4)]) rfl ?_
    refine V.region ?_
    refine EV.runS (hcS K w0) 6 [1, 4, 5, 28, 29, 33] (S2 := [(1, pT 2), (4, .slice (some ⟨4, 0, none⟩) 16 16), (5, .int .i64 4), (28, outV 5 zs), (29, .int .i64 4), (33, .int .u64 p.i4)]) rfl (by kernel_rfl) ?_
    refine EV.callh (fs := #[]) (vs := [.int .u64 p.i4]) (cs := #[]) [] (f16_fh p.i4 hn4) rfl rfl rfl (by kernel_rfl) (by kernel_rfl) (by kernel_rfl) (by kernel_rfl) (argsCons (σ := sigma [] (N + 64)) (a := .int .u64 p.i4) (xs := []) rfl rfl).symm (by kernel_rfl) trivial ?_
    rintro v s1 ⟨rfl, rfl⟩
    refine ⟨_, outV 6 (shortOf p.i4), ⟨[], [outO (shortOf p.i4)], [], [outO (shortOf p.i4)], rfl, by kernel_rfl, trivial, ⟨new_out _ _, trivial⟩, rfl⟩, (ren_outV (sigma1 [] N 0 6) 0 (shortOf p.i4)).symm, ?_⟩
    refine EV.norm [1, 4, 5, 28, 29, 34] (S2 := [(1, pT 2), (4, .slice (some ⟨4, 0, none⟩) 16 16), (5, .int .i64 4), (28, outV 5 zs), (29, .int .i64 4), (34, outV 6 (shortOf p.i4))]) (A2 := hp [r0, r1, pO fo fc zo zc co cc p 0 1, pO fo fc zo zc co cc p 0 1, tblO p, outO zs, outO (shortOf p.i4)] g N) (by kernel_rfl) (by kernel_rfl) ?_
    refine EV.callh (fs := #[]) (vs := [.int .i64 4, outV 6 (shortOf p.i4)]) (cs := #[]) [6] (f35_fh (rowF_out (shortOf_byte _ hn4)) 4 (by decide) (by have := shortOf_le p.i4; omega)) rfl rfl rfl (by kernel_rfl) (by kernel_rfl) (by kernel_rfl) (by kernel_rfl) (argsCons (σ := sigma [6] (N + 64)) (a := .int .i64 4) (xs := [outV 0 (shortOf p.i4)]) rfl (argsCons (σ := sigma [6] (N + 64)) (a := outV 0 (shortOf p.i4)) (xs := []) (ren_outV (sigma [6] (N + 64)) 0 (shortOf p.i4)) rfl)).symm (by kernel_rfl) ⟨view_out _ rfl (bl rfl), trivial⟩ ?_
    rintro v s1 ⟨rfl, rfl⟩
    refine ⟨_, outV 7 (putB 4 (shortOf p.i4)), ⟨[outR (shortOf p.i4)], [outO (putB 4 (shortOf p.i4))], [none], [outO (putB 4 (shortOf p.i4))], rfl, by kernel_rfl, ⟨start_row (rowF_out (shortOf_byte _ hn4)), trivial⟩, ⟨new_out _ _, trivial⟩, rfl⟩, (ren_outV (sigma1 [6] N 1 7) 1 (putB 4 (shortOf p.i4))).symm, ?_⟩
    refine EV.norm [1, 4, 5, 28, 35] (S2 := [(1, pT 2), (4, .slice (some ⟨4, 0, none⟩) 16 16), (5, .int .i64 4), (28, outV 5 zs), (35, outV 7 (putB 4 (shortOf p.i4)))]) (A2 := hp [r0, r1, pO fo fc zo zc co cc p 0 1, pO fo fc zo zc co cc p 0 1, tblO p, outO zs, outO (shortOf p.i4), outO (putB 4 (shortOf p.i4))] g N) (by kernel_rfl) (by kernel_rfl) ?_
    refine EV.app (hcS K w0) (zs := zs) (xs := (putB 4 (shortOf p.i4))) 5 36 [1, 4, 5] (S1 := [(1, pT 2), (4, .slice (some ⟨4, 0, none⟩) 16 16), (5, .int .i64 4)]) hB rfl rfl rfl rfl (by kernel_rfl) rfl (by kernel_rfl) (by kernel_rfl) (by kernel_rfl) (fun _ _ _ => rfl) (rowV_own (k := 7) rfl rfl (putB_byte (shortOf_byte _ hn4))) (hzsb) (by have := putB_len 4 (shortOf p.i4) (by have := shortOf_le p.i4; omega); (have : (zs).length ≤ 1000 := by first | exact hzsl | simp); omega) rfl (by kernel_rfl) (fun τ hτ => ⟨.inr (hro.obj _), .inr (hrc.obj _), .inr (ren_pcl (hro.rst (hτ 0 (by decide) (by decide) (by show 0 ≠ 8; decide))) (hrc.rst (hτ 1 (by decide) (by decide) (by show 1 ≠ 8; decide)))), .inr (ren_pcl (hro.rst (hτ 0 (by decide) (by decide) (by show 0 ≠ 8; decide))) (hrc.rst (hτ 1 (by decide) (by decide) (by show 1 ≠ 8; decide)))), .inr rfl, .inl rfl, .inr (renO_outO _ _), .inr (renO_outO _ _), trivial⟩) (by kernel_rfl) (by kernel_rfl) (fun τ hτ => (renS_cons (congrArg (fun q => Value.pointer (some ⟨q, 0, none⟩)) (hτ 2 (by decide) (by decide) (by show 2 ≠ 8; decide))) (renS_cons (congrArg (fun q => Value.slice (some ⟨q, 0, none⟩) 16 16) (hτ 4 (by decide) (by decide) (by show 4 ≠ 8; decide))) (renS_cons rfl rfl)))) ?_
    intro g N hB
    refine EV.norm [1, 4, 5, 36] (S2 := [(1, pT 2), (4, .slice (some ⟨4, 0, none⟩) 16 16), (5, .int .i64 4), (36, outV 5 (zs ++ (putB 4 (shortOf p.i4))))]) (A2 := hp [r0, r1, pO fo fc zo zc co cc p 0 1, pO fo fc zo zc co cc p 0 1, tblO p, outO (zs ++ (putB 4 (shortOf p.i4))), outO (shortOf p.i4), outO (putB 4 (shortOf p.i4))] g N) (by kernel_rfl) (by kernel_rfl) ?_
    refine EV.reng hB [0, 1, 2, 3, 4, 5, 64, 64] [0, 1, 2, 3, 4, 5] [1, 4, 5, 36] (S2 := [(1, pT 2), (4, .slice (some ⟨4, 0, none⟩) 16 16), (5, .int .i64 4), (36, outV 5 (zs ++ (putB 4 (shortOf p.i4))))]) (s2 := [r0, r1, pO fo fc zo zc co cc p 0 1, pO fo fc zo zc co cc p 0 1, tblO p, outO (zs ++ (putB 4 (shortOf p.i4)))]) (by kernel_rfl) (by kernel_rfl) ⟨.inr ⟨(bl rfl), .inl ((hro.obj _).symm)⟩, .inr ⟨(bl rfl), .inl ((hrc.obj _).symm)⟩, .inr ⟨(bl rfl), .inl ((ren_pcl (τ := tau [0, 1, 2, 3, 4, 5, 64, 64] N) (vo := .slice (fo 0) zo.length co) (vc := .slice (fc 1) zc.length cc) (hro.ren _ 0) (hrc.ren _ 1)).symm)⟩, .inr ⟨(bl rfl), .inl ((ren_pcl (τ := tau [0, 1, 2, 3, 4, 5, 64, 64] N) (vo := .slice (fo 0) zo.length co) (vc := .slice (fc 1) zc.length cc) (hro.ren _ 0) (hrc.ren _ 1)).symm)⟩, .inr ⟨(bl rfl), .inl (rfl)⟩, .inr ⟨(bl rfl), .inl ((renO_outO (tau [0, 1, 2, 3, 4, 5, 64, 64] N) (zs ++ (putB 4 (shortOf p.i4)))).symm)⟩, .inl (by decide), .inl (by decide), trivial⟩ (renS_cons (rfl) (renS_cons (rfl) (renS_cons (rfl) (renS_cons (ren_outV (tau [0, 1, 2, 3, 4, 5, 64, 64] N) 5 (zs ++ (putB 4 (shortOf p.i4)))) rfl)))) ?_
    intro g N hB
    refine EV.run (hcS K w0) 10 [1, 3, 4, 5] (S2 := [(1, pT 2), (3, outV 5 (zs ++ (putB 4 (shortOf p.i4)))), (4, .slice (some ⟨4, 0, none⟩) 16 16), (5, .int .i64 4)]) (A2 := hp [r0, r1, pO fo fc zo zc co cc p 0 1, pO fo fc zo zc co cc p 0 1, tblO p, outO (zs ++ (putB 4 (shortOf p.i4)))] g N) rfl (by kernel_rfl) ?_
    refine EV.done rfl ?_
    refine thenV_n ?_
    refine V.sr ?_
    refine EV.runS (hcS K w0) 6 [1, 3, 4, 5, 42] (S2 := [(1, pT 2), (3, outV 5 (zs ++ (putB 4 (shortOf p.i4)))), (4, .slice (some ⟨4, 0, none⟩) 16 16), (5, .int .i64 4), (42, .bool false)]) rfl (by kernel_rfl) ?_
    refine EV.done rfl ?_
    refine V.cond false (by kernel_rfl) (fun h => Bool.noConfusion h) (fun _ => ?_)
    refine V.weak [1, 3, 4, 5] (S2 := [(1, pT 2), (3, outV 5 (zs ++ (putB 4 (shortOf p.i4)))), (4, .slice (some ⟨4, 0, none⟩) 16 16), (5, .int .i64 4)]) rfl ?_
    refine V.skip ?_
    refine blockQ_n ?_
    refine thenV_n ?_
    refine V.region ?_
    refine EV.runS (hcS K w0) 3 [1, 3, 4, 5] (S2 := [(1, pT 2), (3, outV 5 (zs ++ (putB 4 (shortOf p.i4)))), (4, .slice (some ⟨4, 0, none⟩) 16 16), (5, .int .i64 5)]) rfl (by kernel_rfl) ?_
    refine EV.done rfl ?_
    exact loopV_n 11 (by decide) ⟨5, (zs ++ (putB 4 (shortOf p.i4))), g, N, rfl, by decide, by decide, by rw [hinv]; (have hz : ¬ p.i4 = 0 := by (simp at h5; omega)); simp [upB, itemB, hz, PN.num], hB, rfl, rfl⟩
   ·
    refine V.weak [1, 3, 4, 5] (S2 := [(1, pT 2), (3, outV 5 zs), (4, .slice (some ⟨4, 0, none⟩) 16 16), (5, .int .i64 4)]) rfl ?_
    refine V.skip ?_
    refine thenV_n ?_
    refine V.sr ?_
    refine EV.runS (hcS K w0) 6 [1, 3, 4, 5, 42] (S2 := [(1, pT 2), (3, outV 5 zs), (4, .slice (some ⟨4, 0, none⟩) 16 16), (5, .int .i64 4), (42, .bool false)]) rfl (by kernel_rfl) ?_
    refine EV.done rfl ?_
    refine V.cond false (by kernel_rfl) (fun h => Bool.noConfusion h) (fun _ => ?_)
    refine V.weak [1, 3, 4, 5] (S2 := [(1, pT 2), (3, outV 5 zs), (4, .slice (some ⟨4, 0, none⟩) 16 16), (5, .int .i64 4)]) rfl ?_
    refine V.skip ?_
    refine blockQ_n ?_
    refine thenV_n ?_
    refine V.region ?_
    refine EV.runS (hcS K w0) 3 [1, 3, 4, 5] (S2 := [(1, pT 2), (3, outV 5 zs), (4, .slice (some ⟨4, 0, none⟩) 16 16), (5, .int .i64 5)]) rfl (by kernel_rfl) ?_
    refine EV.done rfl ?_
    exact loopV_n 11 (by decide) ⟨5, zs, g, N, rfl, by decide, by decide, by rw [hinv]; (have hz : p.num 4 = 0 := by (show p.i4 = 0; simp at h5; omega)); simp [upB, itemB, hz], hB, rfl, rfl⟩
  ·
   obtain rfl : k = 11 := by omega
   refine V.seq ?_
   refine V.sr ?_
   refine EV.run (hcS K w0) 2 [1, 3, 4, 5, 20] (S2 := [(1, pT 2), (3, outV 5 zs), (4, .slice (some ⟨4, 0, none⟩) 16 16), (5, .int .i64 5), (20, .bool true)]) (A2 := hp [r0, r1, pO fo fc zo zc co cc p 0 1, pO fo fc zo zc co cc p 0 1, tblO p, outO zs] g N) rfl (by kernel_rfl) ?_
   refine EV.done rfl ?_
   refine V.cond true (by kernel_rfl) (fun _ => ?_) (fun h => Bool.noConfusion h)
   refine V.weak [1, 3, 4, 5] (S2 := [(1, pT 2), (3, outV 5 zs), (4, .slice (some ⟨4, 0, none⟩) 16 16), (5, .int .i64 5)]) rfl ?_
   refine V.skip ?_
   refine thenV_n ?_
   refine V.seq ?_
   refine V.block ?_
   refine V.seq ?_
   refine V.sr ?_
   refine EV.runS (hcS K w0) 5 [1, 3, 4, 5, 27] (S2 := [(1, pT 2), (3, outV 5 zs), (4, .slice (some ⟨4, 0, none⟩) 16 16), (5, .int .i64 5), (27, .bool (decide (p.i5 > 0)))]) rfl (by kernel_rfl) ?_
   refine EV.done rfl ?_
   refine V.cond (decide (p.i5 > 0)) (by kernel_rfl) (fun h6 => ?_) (fun h6 => ?_)
   ·
    refine V.weak [1, 3, 4, 5] (S2 := [(1, pT 2), (3, outV 5 zs), (4, .slice (some ⟨4, 0, none⟩) 16 16), (5, .int .i64 5)]) rfl ?_
    refine V.region ?_
    refine EV.runS (hcS K w0) 6 [1, 4, 5, 28, 29, 33] (S2 := [(1, pT 2), (4, .slice (some ⟨4, 0, none⟩) 16 16), (5, .int .i64 5), (28, outV 5 zs), (29, .int .i64 5), (33, .int .u64 p.i5)]) rfl (by kernel_rfl) ?_
    refine EV.callh (fs := #[]) (vs := [.int .u64 p.i5]) (cs := #[]) [] (f16_fh p.i5 hn5) rfl rfl rfl (by kernel_rfl) (by kernel_rfl) (by kernel_rfl) (by kernel_rfl) (argsCons (σ := sigma [] (N + 64)) (a := .int .u64 p.i5) (xs := []) rfl rfl).symm (by kernel_rfl) trivial ?_
    rintro v s1 ⟨rfl, rfl⟩
    refine ⟨_, outV 6 (shortOf p.i5), ⟨[], [outO (shortOf p.i5)], [], [outO (shortOf p.i5)], rfl, by kernel_rfl, trivial, ⟨new_out _ _, trivial⟩, rfl⟩, (ren_outV (sigma1 [] N 0 6) 0 (shortOf p.i5)).symm, ?_⟩
    refine EV.norm [1, 4, 5, 28, 29, 34] (S2 := [(1, pT 2), (4, .slice (some ⟨4, 0, none⟩) 16 16), (5, .int .i64 5), (28, outV 5 zs), (29, .int .i64 5), (34, outV 6 (shortOf p.i5))]) (A2 := hp [r0, r1, pO fo fc zo zc co cc p 0 1, pO fo fc zo zc co cc p 0 1, tblO p, outO zs, outO (shortOf p.i5)] g N) (by kernel_rfl) (by kernel_rfl) ?_
    refine EV.callh (fs := #[]) (vs := [.int .i64 5, outV 6 (shortOf p.i5)]) (cs := #[]) [6] (f35_fh (rowF_out (shortOf_byte _ hn5)) 5 (by decide) (by have := shortOf_le p.i5; omega)) rfl rfl rfl (by kernel_rfl) (by kernel_rfl) (by kernel_rfl) (by kernel_rfl) (argsCons (σ := sigma [6] (N + 64)) (a := .int .i64 5) (xs := [outV 0 (shortOf p.i5)]) rfl (argsCons (σ := sigma [6] (N + 64)) (a := outV 0 (shortOf p.i5)) (xs := []) (ren_outV (sigma [6] (N + 64)) 0 (shortOf p.i5)) rfl)).symm (by kernel_rfl) ⟨view_out _ rfl (bl rfl), trivial⟩ ?_
    rintro v s1 ⟨rfl, rfl⟩
    refine ⟨_, outV 7 (putB 5 (shortOf p.i5)), ⟨[outR (shortOf p.i5)], [outO (putB 5 (shortOf p.i5))], [none], [outO (putB 5 (shortOf p.i5))], rfl, by kernel_rfl, ⟨start_row (rowF_out (shortOf_byte _ hn5)), trivial⟩, ⟨new_out _ _, trivial⟩, rfl⟩, (ren_outV (sigma1 [6] N 1 7) 1 (putB 5 (shortOf p.i5))).symm, ?_⟩
    refine EV.norm [1, 4, 5, 28, 35] (S2 := [(1, pT 2), (4, .slice (some ⟨4, 0, none⟩) 16 16), (5, .int .i64 5), (28, outV 5 zs), (35, outV 7 (putB 5 (shortOf p.i5)))]) (A2 := hp [r0, r1, pO fo fc zo zc co cc p 0 1, pO fo fc zo zc co cc p 0 1, tblO p, outO zs, outO (shortOf p.i5), outO (putB 5 (shortOf p.i5))] g N) (by kernel_rfl) (by kernel_rfl) ?_
    refine EV.app (hcS K w0) (zs := zs) (xs := (putB 5 (shortOf p.i5))) 5 36 [1, 4, 5] (S1 := [(1, pT 2), (4, .slice (some ⟨4, 0, none⟩) 16 16), (5, .int .i64 5)]) hB rfl rfl rfl rfl (by kernel_rfl) rfl (by kernel_rfl) (by kernel_rfl) (by kernel_rfl) (fun _ _ _ => rfl) (rowV_own (k := 7) rfl rfl (putB_byte (shortOf_byte _ hn5))) (hzsb) (by have := putB_len 5 (shortOf p.i5) (by have := shortOf_le p.i5; omega); (have : (zs).length ≤ 1000 := by first | exact hzsl | simp); omega) rfl (by kernel_rfl) (fun τ hτ => ⟨.inr (hro.obj _), .inr (hrc.obj _), .inr (ren_pcl (hro.rst (hτ 0 (by decide) (by decide) (by show 0 ≠ 8; decide))) (hrc.rst (hτ 1 (by decide) (by decide) (by show 1 ≠ 8; decide)))), .inr (ren_pcl (hro.rst (hτ 0 (by decide) (by decide) (by show 0 ≠ 8; decide))) (hrc.rst (hτ 1 (by decide) (by decide) (by show 1 ≠ 8; decide)))), .inr rfl, .inl rfl, .inr (renO_outO _ _), .inr (renO_outO _ _), trivial⟩) (by kernel_rfl) (by kernel_rfl) (fun τ hτ => (renS_cons (congrArg (fun q => Value.pointer (some ⟨q, 0, none⟩)) (hτ 2 (by decide) (by decide) (by show 2 ≠ 8; decide))) (renS_cons (congrArg (fun q => Value.slice (some ⟨q, 0, none⟩) 16 16) (hτ 4 (by decide) (by decide) (by show 4 ≠ 8; decide))) (renS_cons rfl rfl)))) ?_
    intro g N hB
    refine EV.norm [1, 4, 5, 36] (S2 := [(1, pT 2), (4, .slice (some ⟨4, 0, none⟩) 16 16), (5, .int .i64 5), (36, outV 5 (zs ++ (putB 5 (shortOf p.i5))))]) (A2 := hp [r0, r1, pO fo fc zo zc co cc p 0 1, pO fo fc zo zc co cc p 0 1, tblO p, outO (zs ++ (putB 5 (shortOf p.i5))), outO (shortOf p.i5), outO (putB 5 (shortOf p.i5))] g N) (by kernel_rfl) (by kernel_rfl) ?_
    refine EV.reng hB [0, 1, 2, 3, 4, 5, 64, 64] [0, 1, 2, 3, 4, 5] [1, 4, 5, 36] (S2 := [(1, pT 2), (4, .slice (some ⟨4, 0, none⟩) 16 16), (5, .int .i64 5), (36, outV 5 (zs ++ (putB 5 (shortOf p.i5))))]) (s2 := [r0, r1, pO fo fc zo zc co cc p 0 1, pO fo fc zo zc co cc p 0 1, tblO p, outO (zs ++ (putB 5 (shortOf p.i5)))]) (by kernel_rfl) (by kernel_rfl) ⟨.inr ⟨(bl rfl), .inl ((hro.obj _).symm)⟩, .inr ⟨(bl rfl), .inl ((hrc.obj _).symm)⟩, .inr ⟨(bl rfl), .inl ((ren_pcl (τ := tau [0, 1, 2, 3, 4, 5, 64, 64] N) (vo := .slice (fo 0) zo.length co) (vc := .slice (fc 1) zc.length cc) (hro.ren _ 0) (hrc.ren _ 1)).symm)⟩, .inr ⟨(bl rfl), .inl ((ren_pcl (τ := tau [0, 1, 2, 3, 4, 5, 64, 64] N) (vo := .slice (fo 0) zo.length co) (vc := .slice (fc 1) zc.length cc) (hro.ren _ 0) (hrc.ren _ 1)).symm)⟩, .inr ⟨(bl rfl), .inl (rfl)⟩, .inr ⟨(bl rfl), .inl ((renO_outO (tau [0, 1, 2, 3, 4, 5, 64, 64] N) (zs ++ (putB 5 (shortOf p.i5)))).symm)⟩, .inl (by decide), .inl (by decide), trivial⟩ (renS_cons (rfl) (renS_cons (rfl) (renS_cons (rfl) (renS_cons (ren_outV (tau [0, 1, 2, 3, 4, 5, 64, 64] N) 5 (zs ++ (putB 5 (shortOf p.i5)))) rfl)))) ?_
    intro g N hB
    refine EV.run (hcS K w0) 10 [1, 3, 4, 5] (S2 := [(1, pT 2), (3, outV 5 (zs ++ (putB 5 (shortOf p.i5)))), (4, .slice (some ⟨4, 0, none⟩) 16 16), (5, .int .i64 5)]) (A2 := hp [r0, r1, pO fo fc zo zc co cc p 0 1, pO fo fc zo zc co cc p 0 1, tblO p, outO (zs ++ (putB 5 (shortOf p.i5)))] g N) rfl (by kernel_rfl) ?_
    refine EV.done rfl ?_
    refine thenV_n ?_
    refine V.sr ?_
    refine EV.runS (hcS K w0) 6 [1, 3, 4, 5, 42] (S2 := [(1, pT 2), (3, outV 5 (zs ++ (putB 5 (shortOf p.i5)))), (4, .slice (some ⟨4, 0, none⟩) 16 16), (5, .int .i64 5), (42, .bool false)]) rfl (by kernel_rfl) ?_
    refine EV.done rfl ?_
    refine V.cond false (by kernel_rfl) (fun h => Bool.noConfusion h) (fun _ => ?_)
    refine V.weak [1, 3, 4, 5] (S2 := [(1, pT 2), (3, outV 5 (zs ++ (putB 5 (shortOf p.i5)))), (4, .slice (some ⟨4, 0, none⟩) 16 16), (5, .int .i64 5)]) rfl ?_
    refine V.skip ?_
    refine blockQ_n ?_
    refine thenV_n ?_
    refine V.region ?_
    refine EV.runS (hcS K w0) 3 [1, 3, 4, 5] (S2 := [(1, pT 2), (3, outV 5 (zs ++ (putB 5 (shortOf p.i5)))), (4, .slice (some ⟨4, 0, none⟩) 16 16), (5, .int .i64 6)]) rfl (by kernel_rfl) ?_
    refine EV.done rfl ?_
    exact loopV_n 10 (by decide) ⟨6, (zs ++ (putB 5 (shortOf p.i5))), g, N, rfl, by decide, by decide, by rw [hinv]; (have hz : ¬ p.i5 = 0 := by (simp at h6; omega)); simp [upB, itemB, hz, PN.num], hB, rfl, rfl⟩
   ·
    refine V.weak [1, 3, 4, 5] (S2 := [(1, pT 2), (3, outV 5 zs), (4, .slice (some ⟨4, 0, none⟩) 16 16), (5, .int .i64 5)]) rfl ?_
    refine V.skip ?_
    refine thenV_n ?_
    refine V.sr ?_
    refine EV.runS (hcS K w0) 6 [1, 3, 4, 5, 42] (S2 := [(1, pT 2), (3, outV 5 zs), (4, .slice (some ⟨4, 0, none⟩) 16 16), (5, .int .i64 5), (42, .bool false)]) rfl (by kernel_rfl) ?_
    refine EV.done rfl ?_
    refine V.cond false (by kernel_rfl) (fun h => Bool.noConfusion h) (fun _ => ?_)
    refine V.weak [1, 3, 4, 5] (S2 := [(1, pT 2), (3, outV 5 zs), (4, .slice (some ⟨4, 0, none⟩) 16 16), (5, .int .i64 5)]) rfl ?_
    refine V.skip ?_
    refine blockQ_n ?_
    refine thenV_n ?_
    refine V.region ?_
    refine EV.runS (hcS K w0) 3 [1, 3, 4, 5] (S2 := [(1, pT 2), (3, outV 5 zs), (4, .slice (some ⟨4, 0, none⟩) 16 16), (5, .int .i64 6)]) rfl (by kernel_rfl) ?_
    refine EV.done rfl ?_
    exact loopV_n 10 (by decide) ⟨6, zs, g, N, rfl, by decide, by decide, by rw [hinv]; (have hz : p.num 5 = 0 := by (show p.i5 = 0; simp at h6; omega)); simp [upB, itemB, hz], hB, rfl, rfl⟩
  ·
   obtain rfl : k = 10 := by omega
   refine V.seq ?_
   refine V.sr ?_
   refine EV.run (hcS K w0) 2 [1, 3, 4, 5, 20] (S2 := [(1, pT 2), (3, outV 5 zs), (4, .slice (some ⟨4, 0, none⟩) 16 16), (5, .int .i64 6), (20, .bool true)]) (A2 := hp [r0, r1, pO fo fc zo zc co cc p 0 1, pO fo fc zo zc co cc p 0 1, tblO p, outO zs] g N) rfl (by kernel_rfl) ?_
   refine EV.done rfl ?_
   refine V.cond true (by kernel_rfl) (fun _ => ?_) (fun h => Bool.noConfusion h)
   refine V.weak [1, 3, 4, 5] (S2 := [(1, pT 2), (3, outV 5 zs), (4, .slice (some ⟨4, 0, none⟩) 16 16), (5, .int .i64 6)]) rfl ?_
   refine V.skip ?_
   refine thenV_n ?_
   refine V.seq ?_
   refine V.block ?_
   refine V.seq ?_
   refine V.sr ?_
   refine EV.runS (hcS K w0) 5 [1, 3, 4, 5, 27] (S2 := [(1, pT 2), (3, outV 5 zs), (4, .slice (some ⟨4, 0, none⟩) 16 16), (5, .int .i64 6), (27, .bool (decide (p.i6 > 0)))]) rfl (by kernel_rfl) ?_
   refine EV.done rfl ?_
   refine V.cond (decide (p.i6 > 0)) (by kernel_rfl) (fun h7 => ?_) (fun h7 => ?_)
   ·
    refine V.weak [1, 3, 4, 5] (S2 := [(1, pT 2), (3, outV 5 zs), (4, .slice (some ⟨4, 0, none⟩) 16 16), (5, .int .i64 6)]) rfl ?_
    refine V.region ?_
    refine EV.runS (hcS K w0) 6 [1, 4, 5, 28, 29, 33] (S2 := [(1, pT 2), (4, .slice (some ⟨4, 0, none⟩) 16 16), (5, .int .i64 6), (28, outV 5 zs), (29, .int .i64 6), (33, .int .u64 p.i6)]) rfl (by kernel_rfl) ?_
    refine EV.callh (fs := #[]) (vs := [.int .u64 p.i6]) (cs := #[]) [] (f16_fh p.i6 hn6) rfl rfl rfl (by kernel_rfl) (by kernel_rfl) (by kernel_rfl) (by kernel_rfl) (argsCons (σ := sigma [] (N + 64)) (a := .int .u64 p.i6) (xs := []) rfl rfl).symm (by kernel_rfl) trivial ?_
    rintro v s1 ⟨rfl, rfl⟩
    refine ⟨_, outV 6 (shortOf p.i6), ⟨[], [outO (shortOf p.i6)], [], [outO (shortOf p.i6)], rfl, by kernel_rfl, trivial, ⟨new_out _ _, trivial⟩, rfl⟩, (ren_outV (sigma1 [] N 0 6) 0 (shortOf p.i6)).symm, ?_⟩
    refine EV.norm [1, 4, 5, 28, 29, 34] (S2 := [(1, pT 2), (4, .slice (some ⟨4, 0, none⟩) 16 16), (5, .int .i64 6), (28, outV 5 zs), (29, .int .i64 6), (34, outV 6 (shortOf p.i6))]) (A2 := hp [r0, r1, pO fo fc zo zc co cc p 0 1, pO fo fc zo zc co cc p 0 1, tblO p, outO zs, outO (shortOf p.i6)] g N) (by kernel_rfl) (by kernel_rfl) ?_
    refine EV.callh (fs := #[]) (vs := [.int .i64 6, outV 6 (shortOf p.i6)]) (cs := #[]) [6] (f35_fh (rowF_out (shortOf_byte _ hn6)) 6 (by decide) (by have := shortOf_le p.i6; omega)) rfl rfl rfl (by kernel_rfl) (by kernel_rfl) (by kernel_rfl) (by kernel_rfl) (argsCons (σ := sigma [6] (N + 64)) (a := .int .i64 6) (xs := [outV 0 (shortOf p.i6)]) rfl (argsCons (σ := sigma [6] (N + 64)) (a := outV 0 (shortOf p.i6)) (xs := []) (ren_outV (sigma [6] (N + 64)) 0 (shortOf p.i6)) rfl)).symm (by kernel_rfl) ⟨view_out _ rfl (bl rfl), trivial⟩ ?_
    rintro v s1 ⟨rfl, rfl⟩
    refine ⟨_, outV 7 (putB 6 (shortOf p.i6)), ⟨[outR (shortOf p.i6)], [outO (putB 6 (shortOf p.i6))], [none], [outO (putB 6 (shortOf p.i6))], rfl, by kernel_rfl, ⟨start_row (rowF_out (shortOf_byte _ hn6)), trivial⟩, ⟨new_out _ _, trivial⟩, rfl⟩, (ren_outV (sigma1 [6] N 1 7) 1 (putB 6 (shortOf p.i6))).symm, ?_⟩
    refine EV.norm [1, 4, 5, 28, 35] (S2 := [(1, pT 2), (4, .slice (some ⟨4, 0, none⟩) 16 16), (5, .int .i64 6), (28, outV 5 zs), (35, outV 7 (putB 6 (shortOf p.i6)))]) (A2 := hp [r0, r1, pO fo fc zo zc co cc p 0 1, pO fo fc zo zc co cc p 0 1, tblO p, outO zs, outO (shortOf p.i6), outO (putB 6 (shortOf p.i6))] g N) (by kernel_rfl) (by kernel_rfl) ?_
    refine EV.app (hcS K w0) (zs := zs) (xs := (putB 6 (shortOf p.i6))) 5 36 [1, 4, 5] (S1 := [(1, pT 2), (4, .slice (some ⟨4, 0, none⟩) 16 16), (5, .int .i64 6)]) hB rfl rfl rfl rfl (by kernel_rfl) rfl (by kernel_rfl) (by kernel_rfl) (by kernel_rfl) (fun _ _ _ => rfl) (rowV_own (k := 7) rfl rfl (putB_byte (shortOf_byte _ hn6))) (hzsb) (by have := putB_len 6 (shortOf p.i6) (by have := shortOf_le p.i6; omega); (have : (zs).length ≤ 1000 := by first | exact hzsl | simp); omega) rfl (by kernel_rfl) (fun τ hτ => ⟨.inr (hro.obj _), .inr (hrc.obj _), .inr (ren_pcl (hro.rst (hτ 0 (by decide) (by decide) (by show 0 ≠ 8; decide))) (hrc.rst (hτ 1 (by decide) (by decide) (by show 1 ≠ 8; decide)))), .inr (ren_pcl (hro.rst (hτ 0 (by decide) (by decide) (by show 0 ≠ 8; decide))) (hrc.rst (hτ 1 (by decide) (by decide) (by show 1 ≠ 8; decide)))), .inr rfl, .inl rfl, .inr (renO_outO _ _), .inr (renO_outO _ _), trivial⟩) (by kernel_rfl) (by kernel_rfl) (fun τ hτ => (renS_cons (congrArg (fun q => Value.pointer (some ⟨q, 0, none⟩)) (hτ 2 (by decide) (by decide) (by show 2 ≠ 8; decide))) (renS_cons (congrArg (fun q => Value.slice (some ⟨q, 0, none⟩) 16 16) (hτ 4 (by decide) (by decide) (by show 4 ≠ 8; decide))) (renS_cons rfl rfl)))) ?_
    intro g N hB
    refine EV.norm [1, 4, 5, 36] (S2 := [(1, pT 2), (4, .slice (some ⟨4, 0, none⟩) 16 16), (5, .int .i64 6), (36, outV 5 (zs ++ (putB 6 (shortOf p.i6))))]) (A2 := hp [r0, r1, pO fo fc zo zc co cc p 0 1, pO fo fc zo zc co cc p 0 1, tblO p, outO (zs ++ (putB 6 (shortOf p.i6))), outO (shortOf p.i6), outO (putB 6 (shortOf p.i6))] g N) (by kernel_rfl) (by kernel_rfl) ?_
    refine EV.reng hB [0, 1, 2, 3, 4, 5, 64, 64] [0, 1, 2, 3, 4, 5] [1, 4, 5, 36] (S2 := [(1, pT 2), (4, .slice (some ⟨4, 0, none⟩) 16 16), (5, .int .i64 6), (36, outV 5 (zs ++ (putB 6 (shortOf p.i6))))]) (s2 := [r0, r1, pO fo fc zo zc co cc p 0 1, pO fo fc zo zc co cc p 0 1, tblO p, outO (zs ++ (putB 6 (shortOf p.i6)))]) (by kernel_rfl) (by kernel_rfl) ⟨.inr ⟨(bl rfl), .inl ((hro.obj _).symm)⟩, .inr ⟨(bl rfl), .inl ((hrc.obj _).symm)⟩, .inr ⟨(bl rfl), .inl ((ren_pcl (τ := tau [0, 1, 2, 3, 4, 5, 64, 64] N) (vo := .slice (fo 0) zo.length co) (vc := .slice (fc 1) zc.length cc) (hro.ren _ 0) (hrc.ren _ 1)).symm)⟩, .inr ⟨(bl rfl), .inl ((ren_pcl (τ := tau [0, 1, 2, 3, 4, 5, 64, 64] N) (vo := .slice (fo 0) zo.length co) (vc := .slice (fc 1) zc.length cc) (hro.ren _ 0) (hrc.ren _ 1)).symm)⟩, .inr ⟨(bl rfl), .inl (rfl)⟩, .inr ⟨(bl rfl), .inl ((renO_outO (tau [0, 1, 2, 3, 4, 5, 64, 64] N) (zs ++ (putB 6 (shortOf p.i6)))).symm)⟩, .inl (by decide), .inl (by decide), trivial⟩ (renS_cons (rfl) (renS_cons (rfl) (renS_cons (rfl) (renS_cons (ren_outV (tau [0, 1, 2, 3, 4, 5, 64, 64] N) 5 (zs ++ (putB 6 (shortOf p.i6)))) rfl)))) ?_
    intro g N hB
    refine EV.run (hcS K w0) 10 [1, 3, 4, 5] (S2 := [(1, pT 2), (3, outV 5 (zs ++ (putB 6 (shortOf p.i6)))), (4, .slice (some ⟨4, 0, none⟩) 16 16), (5, .int .i64 6)]) (A2 := hp [r0, r1, pO fo fc zo zc co cc p 0 1, pO fo fc zo zc co cc p 0 1, tblO p, outO (zs ++ (putB 6 (shortOf p.i6)))] g N) rfl (by kernel_rfl) ?_
    refine EV.done rfl ?_
    refine thenV_n ?_
    refine V.sr ?_
    refine EV.runS (hcS K w0) 6 [1, 3, 4, 5, 42] (S2 := [(1, pT 2), (3, outV 5 (zs ++ (putB 6 (shortOf p.i6)))), (4, .slice (some ⟨4, 0, none⟩) 16 16), (5, .int .i64 6), (42, .bool false)]) rfl (by kernel_rfl) ?_
    refine EV.done rfl ?_
    refine V.cond false (by kernel_rfl) (fun h => Bool.noConfusion h) (fun _ => ?_)
    refine V.weak [1, 3, 4, 5] (S2 := [(1, pT 2), (3, outV 5 (zs ++ (putB 6 (shortOf p.i6)))), (4, .slice (some ⟨4, 0, none⟩) 16 16), (5, .int .i64 6)]) rfl ?_
    refine V.skip ?_
    refine blockQ_n ?_
    refine thenV_n ?_
    refine V.region ?_
    refine EV.runS (hcS K w0) 3 [1, 3, 4, 5] (S2 := [(1, pT 2), (3, outV 5 (zs ++ (putB 6 (shortOf p.i6)))), (4, .slice (some ⟨4, 0, none⟩) 16 16), (5, .int .i64 7)]) rfl (by kernel_rfl) ?_
    refine EV.done rfl ?_
    exact loopV_n 9 (by decide) ⟨7, (zs ++ (putB 6 (shortOf p.i6))), g, N, rfl, by decide, by decide, by rw [hinv]; (have hz : ¬ p.i6 = 0 := by (simp at h7; omega)); simp [upB, itemB, hz, PN.num], hB, rfl, rfl⟩
   ·
    refine V.weak [1, 3, 4, 5] (S2 := [(1, pT 2), (3, outV 5 zs), (4, .slice (some ⟨4, 0, none⟩) 16 16), (5, .int .i64 6)]) rfl ?_
    refine V.skip ?_
    refine thenV_n ?_
    refine V.sr ?_
    refine EV.runS (hcS K w0) 6 [1, 3, 4, 5, 42] (S2 := [(1, pT 2), (3, outV 5 zs), (4, .slice (some ⟨4, 0, none⟩) 16 16), (5, .int .i64 6), (42, .bool false)]) rfl (by kernel_rfl) ?_
    refine EV.done rfl ?_
    refine V.cond false (by kernel_rfl) (fun h => Bool.noConfusion h) (fun _ => ?_)
    refine V.weak [1, 3, 4, 5] (S2 := [(1, pT 2), (3, outV 5 zs), (4, .slice (some ⟨4, 0, none⟩) 16 16), (5, .int .i64 6)]) rfl ?_
    refine V.skip ?_
    refine blockQ_n ?_
    refine thenV_n ?_
    refine V.region ?_
    refine EV.runS (hcS K w0) 3 [1, 3, 4, 5] (S2 := [(1, pT 2), (3, outV 5 zs), (4, .slice (some ⟨4, 0, none⟩) 16 16), (5, .int .i64 7)]) rfl (by kernel_rfl) ?_
    refine EV.done rfl ?_
    exact loopV_n 9 (by decide) ⟨7, zs, g, N, rfl, by decide, by decide, by rw [hinv]; (have hz : p.num 6 = 0 := by (show p.i6 = 0; simp at h7; omega)); simp [upB, itemB, hz], hB, rfl, rfl⟩
  ·
   obtain rfl : k = 9 := by omega
   refine V.seq ?_
   refine V.sr ?_
   refine EV.run (hcS K w0) 2 [1, 3, 4, 5, 20] (S2 := [(1, pT 2), (3, outV 5 zs), (4, .slice (some ⟨4, 0, none⟩) 16 16), (5, .int .i64 7), (20, .bool true)]) (A2 := hp [r0, r1, pO fo fc zo zc co cc p 0 1, pO fo fc zo zc co cc p 0 1, tblO p, outO zs] g N) rfl (by kernel_rfl) ?_
   refine EV.done rfl ?_
   refine V.cond true (by kernel_rfl) (fun _ => ?_) (fun h => Bool.noConfusion h)
   refine V.weak [1, 3, 4, 5] (S2 := [(1, pT 2), (3, outV 5 zs), (4, .slice (some ⟨4, 0, none⟩) 16 16), (5, .int .i64 7)]) rfl ?_
   refine V.skip ?_
   refine thenV_n ?_
   refine V.seq ?_
   refine V.block ?_
   refine V.seq ?_
   refine V.sr ?_
   refine EV.runS (hcS K w0) 5 [1, 3, 4, 5, 27] (S2 := [(1, pT 2), (3, outV 5 zs), (4, .slice (some ⟨4, 0, none⟩) 16 16), (5, .int .i64 7), (27, .bool (decide (p.i7 > 0)))]) rfl (by kernel_rfl) ?_
   refine EV.done rfl ?_
   refine V.cond (decide (p.i7 > 0)) (by kernel_rfl) (fun h8 => ?_) (fun h8 => ?_)
   ·
    refine V.weak [1, 3, 4, 5] (S2 := [(1, pT 2), (3, outV 5 zs), (4, .slice (some ⟨4, 0, none⟩) 16 16), (5, .int .i64 7)]) rfl ?_
    refine V.region ?_
    refine EV.runS (hcS K w0) 6 [1, 4, 5, 28, 29, 33] (S2 := [(1, pT 2), (4, .slice (some ⟨4, 0, none⟩) 16 16), (5, .int .i64 7), (28, outV 5 zs), (29, .int .i64 7), (33, .int .u64 p.i7)]) rfl (by kernel_rfl) ?_
    refine EV.callh (fs := #[]) (vs := [.int .u64 p.i7]) (cs := #[]) [] (f16_fh p.i7 hn7) rfl rfl rfl (by kernel_rfl) (by kernel_rfl) (by kernel_rfl) (by kernel_rfl) (argsCons (σ := sigma [] (N + 64)) (a := .int .u64 p.i7) (xs := []) rfl rfl).symm (by kernel_rfl) trivial ?_
    rintro v s1 ⟨rfl, rfl⟩
    refine ⟨_, outV 6 (shortOf p.i7), ⟨[], [outO (shortOf p.i7)], [], [outO (shortOf p.i7)], rfl, by kernel_rfl, trivial, ⟨new_out _ _, trivial⟩, rfl⟩, (ren_outV (sigma1 [] N 0 6) 0 (shortOf p.i7)).symm, ?_⟩
    refine EV.norm [1, 4, 5, 28, 29, 34] (S2 := [(1, pT 2), (4, .slice (some ⟨4, 0, none⟩) 16 16), (5, .int .i64 7), (28, outV 5 zs), (29, .int .i64 7), (34, outV 6 (shortOf p.i7))]) (A2 := hp [r0, r1, pO fo fc zo zc co cc p 0 1, pO fo fc zo zc co cc p 0 1, tblO p, outO zs, outO (shortOf p.i7)] g N) (by kernel_rfl) (by kernel_rfl) ?_
    refine EV.callh (fs := #[]) (vs := [.int .i64 7, outV 6 (shortOf p.i7)]) (cs := #[]) [6] (f35_fh (rowF_out (shortOf_byte _ hn7)) 7 (by decide) (by have := shortOf_le p.i7; omega)) rfl rfl rfl (by kernel_rfl) (by kernel_rfl) (by kernel_rfl) (by kernel_rfl) (argsCons (σ := sigma [6] (N + 64)) (a := .int .i64 7) (xs := [outV 0 (shortOf p.i7)]) rfl (argsCons (σ := sigma [6] (N + 64)) (a := outV 0 (shortOf p.i7)) (xs := []) (ren_outV (sigma [6] (N + 64)) 0 (shortOf p.i7)) rfl)).symm (by kernel_rfl) ⟨view_out _ rfl (bl rfl), trivial⟩ ?_
    rintro v s1 ⟨rfl, rfl⟩
    refine ⟨_, outV 7 (putB 7 (shortOf p.i7)), ⟨[outR (shortOf p.i7)], [outO (putB 7 (shortOf p.i7))], [none], [outO (putB 7 (shortOf p.i7))], rfl, by kernel_rfl, ⟨start_row (rowF_out (shortOf_byte _ hn7)), trivial⟩, ⟨new_out _ _, trivial⟩, rfl⟩, (ren_outV (sigma1 [6] N 1 7) 1 (putB 7 (shortOf p.i7))).symm, ?_⟩
    refine EV.norm [1, 4, 5, 28, 35] (S2 := [(1, pT 2), (4, .slice (some ⟨4, 0, none⟩) 16 16), (5, .int .i64 7), (28, outV 5 zs), (35, outV 7 (putB 7 (shortOf p.i7)))]) (A2 := hp [r0, r1, pO fo fc zo zc co cc p 0 1, pO fo fc zo zc co cc p 0 1, tblO p, outO zs, outO (shortOf p.i7), outO (putB 7 (shortOf p.i7))] g N) (by kernel_rfl) (by kernel_rfl) ?_
    refine EV.app (hcS K w0) (zs := zs) (xs := (putB 7 (shortOf p.i7))) 5 36 [1, 4, 5] (S1 := [(1, pT 2), (4, .slice (some ⟨4, 0, none⟩) 16 16), (5, .int .i64 7)]) hB rfl rfl rfl rfl (by kernel_rfl) rfl (by kernel_rfl) (by kernel_rfl) (by kernel_rfl) (fun _ _ _ => rfl) (rowV_own (k := 7) rfl rfl (putB_byte (shortOf_byte _ hn7))) (hzsb) (by have := putB_len 7 (shortOf p.i7) (by have := shortOf_le p.i7; omega); (have : (zs).length ≤ 1000 := by first | exact hzsl | simp); omega) rfl (by kernel_rfl) (fun τ hτ => ⟨.inr (hro.obj _), .inr (hrc.obj _), .inr (ren_pcl (hro.rst (hτ 0 (by decide) (by decide) (by show 0 ≠ 8; decide))) (hrc.rst (hτ 1 (by decide) (by decide) (by show 1 ≠ 8; decide)))), .inr (ren_pcl (hro.rst (hτ 0 (by decide) (by decide) (by show 0 ≠ 8; decide))) (hrc.rst (hτ 1 (by decide) (by decide) (by show 1 ≠ 8; decide)))), .inr rfl, .inl rfl, .inr (renO_outO _ _), .inr (renO_outO _ _), trivial⟩) (by kernel_rfl) (by kernel_rfl) (fun τ hτ => (renS_cons (congrArg (fun q => Value.pointer (some ⟨q, 0, none⟩)) (hτ 2 (by decide) (by decide) (by show 2 ≠ 8; decide))) (renS_cons (congrArg (fun q => Value.slice (some ⟨q, 0, none⟩) 16 16) (hτ 4 (by decide) (by decide) (by show 4 ≠ 8; decide))) (renS_cons rfl rfl)))) ?_
    intro g N hB
    refine EV.norm [1, 4, 5, 36] (S2 := [(1, pT 2), (4, .slice (some ⟨4, 0, none⟩) 16 16), (5, .int .i64 7), (36, outV 5 (zs ++ (putB 7 (shortOf p.i7))))]) (A2 := hp [r0, r1, pO fo fc zo zc co cc p 0 1, pO fo fc zo zc co cc p 0 1, tblO p, outO (zs ++ (putB 7 (shortOf p.i7))), outO (shortOf p.i7), outO (putB 7 (shortOf p.i7))] g N) (by kernel_rfl) (by kernel_rfl) ?_
    refine EV.reng hB [0, 1, 2, 3, 4, 5, 64, 64] [0, 1, 2, 3, 4, 5] [1, 4, 5, 36] (S2 := [(1, pT 2), (4, .slice (some ⟨4, 0, none⟩) 16 16), (5, .int .i64 7), (36, outV 5 (zs ++ (putB 7 (shortOf p.i7))))]) (s2 := [r0, r1, pO fo fc zo zc co cc p 0 1, pO fo fc zo zc co cc p 0 1, tblO p, outO (zs ++ (putB 7 (shortOf p.i7)))]) (by kernel_rfl) (by kernel_rfl) ⟨.inr ⟨(bl rfl), .inl ((hro.obj _).symm)⟩, .inr ⟨(bl rfl), .inl ((hrc.obj _).symm)⟩, .inr ⟨(bl rfl), .inl ((ren_pcl (τ := tau [0, 1, 2, 3, 4, 5, 64, 64] N) (vo := .slice (fo 0) zo.length co) (vc := .slice (fc 1) zc.length cc) (hro.ren _ 0) (hrc.ren _ 1)).symm)⟩, .inr ⟨(bl rfl), .inl ((ren_pcl (τ := tau [0, 1, 2, 3, 4, 5, 64, 64] N) (vo := .slice (fo 0) zo.length co) (vc := .slice (fc 1) zc.length cc) (hro.ren _ 0) (hrc.ren _ 1)).symm)⟩, .inr ⟨(bl rfl), .inl (rfl)⟩, .inr ⟨(bl rfl), .inl ((renO_outO (tau [0, 1, 2, 3, 4, 5, 64, 64] N) (zs ++ (putB 7 (shortOf p.i7)))).symm)⟩, .inl (by decide), .inl (by decide), trivial⟩ (renS_cons (rfl) (renS_cons (rfl) (renS_cons (rfl) (renS_cons (ren_outV (tau [0, 1, 2, 3, 4, 5, 64, 64] N) 5 (zs ++ (putB 7 (shortOf p.i7)))) rfl)))) ?_
    intro g N hB
    refine EV.run (hcS K w0) 10 [1, 3, 4, 5] (S2 := [(1, pT 2), (3, outV 5 (zs ++ (putB 7 (shortOf p.i7)))), (4, .slice (some ⟨4, 0, none⟩) 16 16), (5, .int .i64 7)]) (A2 := hp [r0, r1, pO fo fc zo zc co cc p 0 1, pO fo fc zo zc co cc p 0 1, tblO p, outO (zs ++ (putB 7 (shortOf p.i7)))] g N) rfl (by kernel_rfl) ?_
    refine EV.done rfl ?_
    refine thenV_n ?_
    refine V.sr ?_
    refine EV.runS (hcS K w0) 6 [1, 3, 4, 5, 42] (S2 := [(1, pT 2), (3, outV 5 (zs ++ (putB 7 (shortOf p.i7)))), (4, .slice (some ⟨4, 0, none⟩) 16 16), (5, .int .i64 7), (42, .bool false)]) rfl (by kernel_rfl) ?_
    refine EV.done rfl ?_
    refine V.cond false (by kernel_rfl) (fun h => Bool.noConfusion h) (fun _ => ?_)
    refine V.weak [1, 3, 4, 5] (S2 := [(1, pT 2), (3, outV 5 (zs ++ (putB 7 (shortOf p.i7)))), (4, .slice (some ⟨4, 0, none⟩) 16 16), (5, .int .i64 7)]) rfl ?_
    refine V.skip ?_
    refine blockQ_n ?_
    refine thenV_n ?_
    refine V.region ?_
    refine EV.runS (hcS K w0) 3 [1, 3, 4, 5] (S2 := [(1, pT 2), (3, outV 5 (zs ++ (putB 7 (shortOf p.i7)))), (4, .slice (some ⟨4, 0, none⟩) 16 16), (5, .int .i64 8)]) rfl (by kernel_rfl) ?_
    refine EV.done rfl ?_
    exact loopV_n 8 (by decide) ⟨8, (zs ++ (putB 7 (shortOf p.i7))), g, N, rfl, by decide, by decide, by rw [hinv]; (have hz : ¬ p.i7 = 0 := by (simp at h8; omega)); simp [upB, itemB, hz, PN.num], hB, rfl, rfl⟩
   ·
    refine V.weak [1, 3, 4, 5] (S2 := [(1, pT 2), (3, outV 5 zs), (4, .slice (some ⟨4, 0, none⟩) 16 16), (5, .int .i64 7)]) rfl ?_
    refine V.skip ?_
    refine thenV_n ?_
    refine V.sr ?_
    refine EV.runS (hcS K w0) 6 [1, 3, 4, 5, 42] (S2 := [(1, pT 2), (3, outV 5 zs), (4, .slice (some ⟨4, 0, none⟩) 16 16), (5, .int .i64 7), (42, .bool false)]) rfl (by kernel_rfl) ?_
    refine EV.done rfl ?_
    refine V.cond false (by kernel_rfl) (fun h => Bool.noConfusion h) (fun _ => ?_)
    refine V.weak [1, 3, 4, 5] (S2 := [(1, pT 2), (3, outV 5 zs), (4, .slice (some ⟨4, 0, none⟩) 16 16), (5, .int .i64 7)]) rfl ?_
    refine V.skip ?_
    refine blockQ_n ?_
    refine thenV_n ?_
    refine V.region ?_
    refine EV.runS (hcS K w0) 3 [1, 3, 4, 5] (S2 := [(1, pT 2), (3, outV 5 zs), (4, .slice (some ⟨4, 0, none⟩) 16 16), (5, .int .i64 8)]) rfl (by kernel_rfl) ?_
    refine EV.done rfl ?_
    exact loopV_n 8 (by decide) ⟨8, zs, g, N, rfl, by decide, by decide, by rw [hinv]; (have hz : p.num 7 = 0 := by (show p.i7 = 0; simp at h8; omega)); simp [upB, itemB, hz], hB, rfl, rfl⟩
  ·
   obtain rfl : k = 8 := by omega
   refine V.seq ?_
   refine V.sr ?_
   refine EV.run (hcS K w0) 2 [1, 3, 4, 5, 20] (S2 := [(1, pT 2), (3, outV 5 zs), (4, .slice (some ⟨4, 0, none⟩) 16 16), (5, .int .i64 8), (20, .bool true)]) (A2 := hp [r0, r1, pO fo fc zo zc co cc p 0 1, pO fo fc zo zc co cc p 0 1, tblO p, outO zs] g N) rfl (by kernel_rfl) ?_
   refine EV.done rfl ?_
   refine V.cond true (by kernel_rfl) (fun _ => ?_) (fun h => Bool.noConfusion h)
   refine V.weak [1, 3, 4, 5] (S2 := [(1, pT 2), (3, outV 5 zs), (4, .slice (some ⟨4, 0, none⟩) 16 16), (5, .int .i64 8)]) rfl ?_
   refine V.skip ?_
   refine thenV_n ?_
   refine V.seq ?_
   refine V.block ?_
   refine V.seq ?_
   refine V.sr ?_
   refine EV.runS (hcS K w0) 5 [1, 3, 4, 5, 27] (S2 := [(1, pT 2), (3, outV 5 zs), (4, .slice (some ⟨4, 0, none⟩) 16 16), (5, .int .i64 8), (27, .bool (decide (p.i8 > 0)))]) rfl (by kernel_rfl) ?_
   refine EV.done rfl ?_
   refine V.cond (decide (p.i8 > 0)) (by kernel_rfl) (fun h9 => ?_) (fun h9 => ?_)
   ·
    refine V.weak [1, 3, 4, 5] (S2 := [(1, pT 2), (3, outV 5 zs), (4, .slice (some ⟨4, 0, none⟩) 16 16), (5, .int .i64 8)]) rfl ?_
    refine V.region ?_
    refine EV.runS (hcS K w0) 6 [1, 4, 5, 28, 29, 33] (S2 := [(1, pT 2), (4, .slice (some ⟨4, 0, none⟩) 16 16), (5, .int .i64 8), (28, outV 5 zs), (29, .int .i64 8), (33, .int .u64 p.i8)]) rfl (by kernel_rfl) ?_
    refine EV.callh (fs := #[]) (vs := [.int .u64 p.i8]) (cs := #[]) [] (f16_fh p.i8 hn8) rfl rfl rfl (by kernel_rfl) (by kernel_rfl) (by kernel_rfl) (by kernel_rfl) (argsCons (σ := sigma [] (N + 64)) (a := .int .u64 p.i8) (xs := []) rfl rfl).symm (by kernel_rfl) trivial ?_
    rintro v s1 ⟨rfl, rfl⟩
    refine ⟨_, outV 6 (shortOf p.i8), ⟨[], [outO (shortOf p.i8)], [], [outO (shortOf p.i8)], rfl, by kernel_rfl, trivial, ⟨new_out _ _, trivial⟩, rfl⟩, (ren_outV (sigma1 [] N 0 6) 0 (shortOf p.i8)).symm, ?_⟩
    refine EV.norm [1, 4, 5, 28, 29, 34] (S2 := [(1, pT 2), (4, .slice (some ⟨4, 0, none⟩) 16 16), (5, .int .i64 8), (28, outV 5 zs), (29, .int .i64 8), (34, outV 6 (shortOf p.i8))]) (A2 := hp [r0, r1, pO fo fc zo zc co cc p 0 1, pO fo fc zo zc co cc p 0 1, tblO p, outO zs, outO (shortOf p.i8)] g N) (by kernel_rfl) (by kernel_rfl) ?_
    refine EV.callh (fs := #[]) (vs := [.int .i64 8, outV 6 (shortOf p.i8)]) (cs := #[]) [6] (f35_fh (rowF_out (shortOf_byte _ hn8)) 8 (by decide) (by have := shortOf_le p.i8; omega)) rfl rfl rfl (by kernel_rfl) (by kernel_rfl) (by kernel_rfl) (by kernel_rfl) (argsCons (σ := sigma [6] (N + 64)) (a := .int .i64 8) (xs := [outV 0 (shortOf p.i8)]) rfl (argsCons (σ := sigma [6] (N + 64)) (a := outV 0 (shortOf p.i8)) (xs := []) (ren_outV (sigma [6] (N + 64)) 0 (shortOf p.i8)) rfl)).symm (by kernel_rfl) ⟨view_out _ rfl (bl rfl), trivial⟩ ?_
    rintro v s1 ⟨rfl, rfl⟩
    refine ⟨_, outV 7 (putB 8 (shortOf p.i8)), ⟨[outR (shortOf p.i8)], [outO (putB 8 (shortOf p.i8))], [none], [outO (putB 8 (shortOf p.i8))], rfl, by kernel_rfl, ⟨start_row (rowF_out (shortOf_byte _ hn8)), trivial⟩, ⟨new_out _ _, trivial⟩, rfl⟩, (ren_outV (sigma1 [6] N 1 7) 1 (putB 8 (shortOf p.i8))).symm, ?_⟩
    refine EV.norm [1, 4, 5, 28, 35] (S2 := [(1, pT 2), (4, .slice (some ⟨4, 0, none⟩) 16 16), (5, .int .i64 8), (28, outV 5 zs), (35, outV 7 (putB 8 (shortOf p.i8)))]) (A2 := hp [r0, r1, pO fo fc zo zc co cc p 0 1, pO fo fc zo zc co cc p 0 1, tblO p, outO zs, outO (shortOf p.i8), outO (putB 8 (shortOf p.i8))] g N) (by kernel_rfl) (by kernel_rfl) ?_
    refine EV.app (hcS K w0) (zs := zs) (xs := (putB 8 (shortOf p.i8))) 5 36 [1, 4, 5] (S1 := [(1, pT 2), (4, .slice (some ⟨4, 0, none⟩) 16 16), (5, .int .i64 8)]) hB rfl rfl rfl rfl (by kernel_rfl) rfl (by kernel_rfl) (by kernel_rfl) (by kernel_rfl) (fun _ _ _ => rfl) (rowV_own (k := 7) rfl rfl (putB_byte (shortOf_byte _ hn8))) (hzsb) (by have := putB_len 8 (shortOf p.i8) (by have := shortOf_le p.i8; omega); (have : (zs).length ≤ 1000 := by first | exact hzsl | simp); omega) rfl (by kernel_rfl) (fun τ hτ => ⟨.inr (hro.obj _), .inr (hrc.obj _), .inr (ren_pcl (hro.rst (hτ 0 (by decide) (by decide) (by show 0 ≠ 8; decide))) (hrc.rst (hτ 1 (by decide) (by decide) (by show 1 ≠ 8; decide)))), .inr (ren_pcl (hro.rst (hτ 0 (by decide) (by decide) (by show 0 ≠ 8; decide))) (hrc.rst (hτ 1 (by decide) (by decide) (by show 1 ≠ 8; decide)))), .inr rfl, .inl rfl, .inr (renO_outO _ _), .inr (renO_outO _ _), trivial⟩) (by kernel_rfl) (by kernel_rfl) (fun τ hτ => (renS_cons (congrArg (fun q => Value.pointer (some ⟨q, 0, none⟩)) (hτ 2 (by decide) (by decide) (by show 2 ≠ 8; decide))) (renS_cons (congrArg (fun q => Value.slice (some ⟨q, 0, none⟩) 16 16) (hτ 4 (by decide) (by decide) (by show 4 ≠ 8; decide))) (renS_cons rfl rfl)))) ?_
    intro g N hB
    refine EV.norm [1, 4, 5, 36] (S2 := [(1, pT 2), (4, .slice (some ⟨4, 0, none⟩) 16 16), (5, .int .i64 8), (36, outV 5 (zs ++ (putB 8 (shortOf p.i8))))]) (A2 := hp [r0, r1, pO fo fc zo zc co cc p 0 1, pO fo fc zo zc co cc p 0 1, tblO p, outO (zs ++ (putB 8 (shortOf p.i8))), outO (shortOf p.i8), outO (putB 8 (shortOf p.i8))] g N) (by kernel_rfl) (by kernel_rfl) ?_
    refine EV.reng hB [0, 1, 2, 3, 4, 5, 64, 64] [0, 1, 2, 3, 4, 5] [1, 4, 5, 36] (S2 := [(1, pT 2), (4, .slice (some ⟨4, 0, none⟩) 16 16), (5, .int .i64 8), (36, outV 5 (zs ++ (putB 8 (shortOf p.i8))))]) (s2 := [r0, r1, pO fo fc zo zc co cc p 0 1, pO fo fc zo zc co cc p 0 1, tblO p, outO (zs ++ (putB 8 (shortOf p.i8)))]) (by kernel_rfl) (by kernel_rfl) ⟨.inr ⟨(bl rfl), .inl ((hro.obj _).symm)⟩, .inr ⟨(bl rfl), .inl ((hrc.obj _).symm)⟩, .inr ⟨(bl rfl), .inl ((ren_pcl (τ := tau [0, 1, 2, 3, 4, 5, 64, 64] N) (vo := .slice (fo 0) zo.length co) (vc := .slice (fc 1) zc.length cc) (hro.ren _ 0) (hrc.ren _ 1)).symm)⟩, .inr ⟨(bl rfl), .inl ((ren_pcl (τ := tau [0, 1, 2, 3, 4, 5, 64, 64] N) (vo := .slice (fo 0) zo.length co) (vc := .slice (fc 1) zc.length cc) (hro.ren _ 0) (hrc.ren _ 1)).symm)⟩, .inr ⟨(bl rfl), .inl (rfl)⟩, .inr ⟨(bl rfl), .inl ((renO_outO (tau [0, 1, 2, 3, 4, 5, 64, 64] N) (zs ++ (putB 8 (shortOf p.i8)))).symm)⟩, .inl (by decide), .inl (by decide), trivial⟩ (renS_cons (rfl) (renS_cons (rfl) (renS_cons (rfl) (renS_cons (ren_outV (tau [0, 1, 2, 3, 4, 5, 64, 64] N) 5 (zs ++ (putB 8 (shortOf p.i8)))) rfl)))) ?_
    intro g N hB
    refine EV.run (hcS K w0) 10 [1, 3, 4, 5] (S2 := [(1, pT 2), (3, outV 5 (zs ++ (putB 8 (shortOf p.i8)))), (4, .slice (some ⟨4, 0, none⟩) 16 16), (5, .int .i64 8)]) (A2 := hp [r0, r1, pO fo fc zo zc co cc p 0 1, pO fo fc zo zc co cc p 0 1, tblO p, outO (zs ++ (putB 8 (shortOf p.i8)))] g N) rfl (by kernel_rfl) ?_
    refine EV.done rfl ?_
    refine thenV_n ?_
    refine V.sr ?_
    refine EV.runS (hcS K w0) 6 [1, 3, 4, 5, 42] (S2 := [(1, pT 2), (3, outV 5 (zs ++ (putB 8 (shortOf p.i8)))), (4, .slice (some ⟨4, 0, none⟩) 16 16), (5, .int .i64 8), (42, .bool false)]) rfl (by kernel_rfl) ?_
    refine EV.done rfl ?_
    refine V.cond false (by kernel_rfl) (fun h => Bool.noConfusion h) (fun _ => ?_)
    refine V.weak [1, 3, 4, 5] (S2 := [(1, pT 2), (3, outV 5 (zs ++ (putB 8 (shortOf p.i8)))), (4, .slice (some ⟨4, 0, none⟩) 16 16), (5, .int .i64 8)]) rfl ?_
    refine V.skip ?_
    refine blockQ_n ?_
    refine thenV_n ?_
    refine V.region ?_
    refine EV.runS (hcS K w0) 3 [1, 3, 4, 5] (S2 := [(1, pT 2), (3, outV 5 (zs ++ (putB 8 (shortOf p.i8)))), (4, .slice (some ⟨4, 0, none⟩) 16 16), (5, .int .i64 9)]) rfl (by kernel_rfl) ?_
    refine EV.done rfl ?_
    exact loopV_n 7 (by decide) ⟨9, (zs ++ (putB 8 (shortOf p.i8))), g, N, rfl, by decide, by decide, by rw [hinv]; (have hz : ¬ p.i8 = 0 := by (simp at h9; omega)); simp [upB, itemB, hz, PN.num], hB, rfl, rfl⟩
   ·
    refine V.weak [1, 3, 4, 5] (S2 := [(1, pT 2), (3, outV 5 zs), (4, .slice (some ⟨4, 0, none⟩) 16 16), (5, .int .i64 8)]) rfl ?_
    refine V.skip ?_
    refine thenV_n ?_
    refine V.sr ?_
    refine EV.runS (hcS K w0) 6 [1, 3, 4, 5, 42] (S2 := [(1, pT 2), (3, outV 5 zs), (4, .slice (some ⟨4, 0, none⟩) 16 16), (5, .int .i64 8), (42, .bool false)]) rfl (by kernel_rfl) ?_
    refine EV.done rfl ?_
    refine V.cond false (by kernel_rfl) (fun h => Bool.noConfusion h) (fun _ => ?_)
    refine V.weak [1, 3, 4, 5] (S2 := [(1, pT 2), (3, outV 5 zs), (4, .slice (some ⟨4, 0, none⟩) 16 16), (5, .int .i64 8)]) rfl ?_
    refine V.skip ?_
    refine blockQ_n ?_
    refine thenV_n ?_
    refine V.region ?_
    refine EV.runS (hcS K w0) 3 [1, 3, 4, 5] (S2 := [(1, pT 2), (3, outV 5 zs), (4, .slice (some ⟨4, 0, none⟩) 16 16), (5, .int .i64 9)]) rfl (by kernel_rfl) ?_
    refine EV.done rfl ?_
    exact loopV_n 7 (by decide) ⟨9, zs, g, N, rfl, by decide, by decide, by rw [hinv]; (have hz : p.num 8 = 0 := by (show p.i8 = 0; simp at h9; omega)); simp [upB, itemB, hz], hB, rfl, rfl⟩
  ·
   obtain rfl : k = 7 := by omega
   refine V.seq ?_
   refine V.sr ?_
   refine EV.run (hcS K w0) 2 [1, 3, 4, 5, 20] (S2 := [(1, pT 2), (3, outV 5 zs), (4, .slice (some ⟨4, 0, none⟩) 16 16), (5, .int .i64 9), (20, .bool true)]) (A2 := hp [r0, r1, pO fo fc zo zc co cc p 0 1, pO fo fc zo zc co cc p 0 1, tblO p, outO zs] g N) rfl (by kernel_rfl) ?_
   refine EV.done rfl ?_
   refine V.cond true (by kernel_rfl) (fun _ => ?_) (fun h => Bool.noConfusion h)
   refine V.weak [1, 3, 4, 5] (S2 := [(1, pT 2), (3, outV 5 zs), (4, .slice (some ⟨4, 0, none⟩) 16 16), (5, .int .i64 9)]) rfl ?_
   refine V.skip ?_
   refine thenV_n ?_
   refine V.seq ?_
   refine V.block ?_
   refine V.seq ?_
   refine V.sr ?_
   refine EV.runS (hcS K w0) 5 [1, 3, 4, 5, 27] (S2 := [(1, pT 2), (3, outV 5 zs), (4, .slice (some ⟨4, 0, none⟩) 16 16), (5, .int .i64 9), (27, .bool (decide (p.i9 > 0)))]) rfl (by kernel_rfl) ?_
   refine EV.done rfl ?_
   refine V.cond (decide (p.i9 > 0)) (by kernel_rfl) (fun h10 => ?_) (fun h10 => ?_)
   ·
    refine V.weak [1, 3, 4, 5] (S2 := [(1, pT 2), (3, outV 5 zs), (4, .slice (some ⟨4, 0, none⟩) 16 16), (5, .int .i64 9)]) rfl ?_
    refine V.region ?_
    refine EV.runS (hcS K w0) 6 [1, 4, 5, 28, 29, 33] (S2 := [(1, pT 2), (4, .slice (some ⟨4, 0, none⟩) 16 16), (5, .int .i64 9), (28, outV 5 zs), (29, .int .i64 9), (33, .int .u64 p.i9)]) rfl (by kernel_rfl) ?_
    refine EV.callh (fs := #[]) (vs := [.int .u64 p.i9]) (cs := #[]) [] (f16_fh p.i9 hn9) rfl rfl rfl (by kernel_rfl) (by kernel_rfl) (by kernel_rfl) (by kernel_rfl) (argsCons (σ := sigma [] (N + 64)) (a := .int .u64 p.i9) (xs := []) rfl rfl).symm (by kernel_rfl) trivial ?_
    rintro v s1 ⟨rfl, rfl⟩
    refine ⟨_, outV 6 (shortOf p.i9), ⟨[], [outO (shortOf p.i9)], [], [outO (shortOf p.i9)], rfl, by kernel_rfl, trivial, ⟨new_out _ _, trivial⟩, rfl⟩, (ren_outV (sigma1 [] N 0 6) 0 (shortOf p.i9)).symm, ?_⟩
    refine EV.norm [1, 4, 5, 28, 29, 34] (S2 := [(1, pT 2), (4, .slice (some ⟨4, 0, none⟩) 16 16), (5, .int .i64 9), (28, outV 5 zs), (29, .int .i64 9), (34, outV 6 (shortOf p.i9))]) (A2 := hp [r0, r1, pO fo fc zo zc co cc p 0 1, pO fo fc zo zc co cc p 0 1, tblO p, outO zs, outO (shortOf p.i9)] g N) (by kernel_rfl) (by kernel_rfl) ?_
    refine EV.callh (fs := #[]) (vs := [.int .i64 9, outV 6 (shortOf p.i9)]) (cs := #[]) [6] (f35_fh (rowF_out (shortOf_byte _ hn9)) 9 (by decide) (by have := shortOf_le p.i9; omega)) rfl rfl rfl (by kernel_rfl) (by kernel_rfl) (by kernel_rfl) (by kernel_rfl) (argsCons (σ := sigma [6] (N + 64)) (a := .int .i64 9) (xs := [outV 0 (shortOf p.i9)]) rfl (argsCons (σ := sigma [6] (N + 64)) (a := outV 0 (shortOf p.i9)) (xs := []) (ren_outV (sigma [6] (N + 64)) 0 (shortOf p.i9)) rfl)).symm (by kernel_rfl) ⟨view_out _ rfl (bl rfl), trivial⟩ ?_
    rintro v s1 ⟨rfl, rfl⟩
    refine ⟨_, outV 7 (putB 9 (shortOf p.i9)), ⟨[outR (shortOf p.i9)], [outO (putB 9 (shortOf p.i9))], [none], [outO (putB 9 (shortOf p.i9))], rfl, by kernel_rfl, ⟨start_row (rowF_out (shortOf_byte _ hn9)), trivial⟩, ⟨new_out _ _, trivial⟩, rfl⟩, (ren_outV (sigma1 [6] N 1 7) 1 (putB 9 (shortOf p.i9))).symm, ?_⟩
    refine EV.norm [1, 4, 5, 28, 35] (S2 := [(1, pT 2), (4, .slice (some ⟨4, 0, none⟩) 16 16), (5, .int .i64 9), (28, outV 5 zs), (35, outV 7 (putB 9 (shortOf p.i9)))]) (A2 := hp [r0, r1, pO fo fc zo zc co cc p 0 1, pO fo fc zo zc co cc p 0 1, tblO p, outO zs, outO (shortOf p.i9), outO (putB 9 (shortOf p.i9))] g N) (by kernel_rfl) (by kernel_rfl) ?_
    refine EV.app (hcS K w0) (zs := zs) (xs := (putB 9 (shortOf p.i9))) 5 36 [1, 4, 5] (S1 := [(1, pT 2), (4, .slice (some ⟨4, 0, none⟩) 16 16), (5, .int .i64 9)]) hB rfl rfl rfl rfl (by kernel_rfl) rfl (by kernel_rfl) (by kernel_rfl) (by kernel_rfl) (fun _ _ _ => rfl) (rowV_own (k := 7) rfl rfl (putB_byte (shortOf_byte _ hn9))) (hzsb) (by have := putB_len 9 (shortOf p.i9) (by have := shortOf_le p.i9; omega); (have : (zs).length ≤ 1000 := by first | exact hzsl | simp); omega) rfl (by kernel_rfl) (fun τ hτ => ⟨.inr (hro.obj _), .inr (hrc.obj _), .inr (ren_pcl (hro.rst (hτ 0 (by decide) (by decide) (by show 0 ≠ 8; decide))) (hrc.rst (hτ 1 (by decide) (by decide) (by show 1 ≠ 8; decide)))), .inr (ren_pcl (hro.rst (hτ 0 (by decide) (by decide) (by show 0 ≠ 8; decide))) (hrc.rst (hτ 1 (by decide) (by decide) (by show 1 ≠ 8; decide)))), .inr rfl, .inl rfl, .inr (renO_outO _ _), .inr (renO_outO _ _), trivial⟩) (by kernel_rfl) (by kernel_rfl) (fun τ hτ => (renS_cons (congrArg (fun q => Value.pointer (some ⟨q, 0, none⟩)) (hτ 2 (by decide) (by decide) (by show 2 ≠ 8; decide))) (renS_cons (congrArg (fun q => Value.slice (some ⟨q, 0, none⟩) 16 16) (hτ 4 (by decide) (by decide) (by show 4 ≠ 8; decide))) (renS_cons rfl rfl)))) ?_
    intro g N hB
    refine EV.norm [1, 4, 5, 36] (S2 := [(1, pT 2), (4, .slice (some ⟨4, 0, none⟩) 16 16), (5, .int .i64 9), (36, outV 5 (zs ++ (putB 9 (shortOf p.i9))))]) (A2 := hp [r0, r1, pO fo fc zo zc co cc p 0 1, pO fo fc zo zc co cc p 0 1, tblO p, outO (zs ++ (putB 9 (shortOf p.i9))), outO (shortOf p.i9), outO (putB 9 (shortOf p.i9))] g N) (by kernel_rfl) (by kernel_rfl) ?_
    refine EV.reng hB [0, 1, 2, 3, 4, 5, 64, 64] [0, 1, 2, 3, 4, 5] [1, 4, 5, 36] (S2 := [(1, pT 2), (4, .slice (some ⟨4, 0, none⟩) 16 16), (5, .int .i64 9), (36, outV 5 (zs ++ (putB 9 (shortOf p.i9))))]) (s2 := [r0, r1, pO fo fc zo zc co cc p 0 1, pO fo fc zo zc co cc p 0 1, tblO p, outO (zs ++ (putB 9 (shortOf p.i9)))]) (by kernel_rfl) (by kernel_rfl) ⟨.inr ⟨(bl rfl), .inl ((hro.obj _).symm)⟩, .inr ⟨(bl rfl), .inl ((hrc.obj _).symm)⟩, .inr ⟨(bl rfl), .inl ((ren_pcl (τ := tau [0, 1, 2, 3, 4, 5, 64, 64] N) (vo := .slice (fo 0) zo.length co) (vc := .slice (fc 1) zc.length cc) (hro.ren _ 0) (hrc.ren _ 1)).symm)⟩, .inr ⟨(bl rfl), .inl ((ren_pcl (τ := tau [0, 1, 2, 3, 4, 5, 64, 64] N) (vo := .slice (fo 0) zo.length co) (vc := .slice (fc 1) zc.length cc) (hro.ren _ 0) (hrc.ren _ 1)).symm)⟩, .inr ⟨(bl rfl), .inl (rfl)⟩, .inr ⟨(bl rfl), .inl ((renO_outO (tau [0, 1, 2, 3, 4, 5, 64, 64] N) (zs ++ (putB 9 (shortOf p.i9)))).symm)⟩, .inl (by decide), .inl (by decide), trivial⟩ (renS_cons (rfl) (renS_cons (rfl) (renS_cons (rfl) (renS_cons (ren_outV (tau [0, 1, 2, 3, 4, 5, 64, 64] N) 5 (zs ++ (putB 9 (shortOf p.i9)))) rfl)))) ?_
    intro g N hB
    refine EV.run (hcS K w0) 10 [1, 3, 4, 5] (S2 := [(1, pT 2), (3, outV 5 (zs ++ (putB 9 (shortOf p.i9)))), (4, .slice (some ⟨4, 0, none⟩) 16 16), (5, .int .i64 9)]) (A2 := hp [r0, r1, pO fo fc zo zc co cc p 0 1, pO fo fc zo zc co cc p 0 1, tblO p, outO (zs ++ (putB 9 (shortOf p.i9)))] g N) rfl (by kernel_rfl) ?_
    refine EV.done rfl ?_
    refine thenV_n ?_
    refine V.sr ?_
    refine EV.runS (hcS K w0) 6 [1, 3, 4, 5, 42] (S2 := [(1, pT 2), (3, outV 5 (zs ++ (putB 9 (shortOf p.i9)))), (4, .slice (some ⟨4, 0, none⟩) 16 16), (5, .int .i64 9), (42, .bool false)]) rfl (by kernel_rfl) ?_
    refine EV.done rfl ?_
    refine V.cond false (by kernel_rfl) (fun h => Bool.noConfusion h) (fun _ => ?_)
    refine V.weak [1, 3, 4, 5] (S2 := [(1, pT 2), (3, outV 5 (zs ++ (putB 9 (shortOf p.i9)))), (4, .slice (some ⟨4, 0, none⟩) 16 16), (5, .int .i64 9)]) rfl ?_
    refine V.skip ?_
    refine blockQ_n ?_
    refine thenV_n ?_
    refine V.region ?_
    refine EV.runS (hcS K w0) 3 [1, 3, 4, 5] (S2 := [(1, pT 2), (3, outV 5 (zs ++ (putB 9 (shortOf p.i9)))), (4, .slice (some ⟨4, 0, none⟩) 16 16), (5, .int .i64 10)]) rfl (by kernel_rfl) ?_
    refine EV.done rfl ?_
    exact loopV_n 6 (by decide) ⟨10, (zs ++ (putB 9 (shortOf p.i9))), g, N, rfl, by decide, by decide, by rw [hinv]; (have hz : ¬ p.i9 = 0 := by (simp at h10; omega)); simp [upB, itemB, hz, PN.num], hB, rfl, rfl⟩
   ·
    refine V.weak [1, 3, 4, 5] (S2 := [(1, pT 2), (3, outV 5 zs), (4, .slice (some ⟨4, 0, none⟩) 16 16), (5, .int .i64 9)]) rfl ?_
    refine V.skip ?_
    refine thenV_n ?_
    refine V.sr ?_
    refine EV.runS (hcS K w0) 6 [1, 3, 4, 5, 42] (S2 := [(1, pT 2), (3, outV 5 zs), (4, .slice (some ⟨4, 0, none⟩) 16 16), (5, .int .i64 9), (42, .bool false)]) rfl (by kernel_rfl) ?_
    refine EV.done rfl ?_
    refine V.cond false (by kernel_rfl) (fun h => Bool.noConfusion h) (fun _ => ?_)
    refine V.weak [1, 3, 4, 5] (S2 := [(1, pT 2), (3, outV 5 zs), (4, .slice (some ⟨4, 0, none⟩) 16 16), (5, .int .i64 9)]) rfl ?_
    refine V.skip ?_
    refine blockQ_n ?_
    refine thenV_n ?_
    refine V.region ?_
    refine EV.runS (hcS K w0) 3 [1, 3, 4, 5] (S2 := [(1, pT 2), (3, outV 5 zs), (4, .slice (some ⟨4, 0, none⟩) 16 16), (5, .int .i64 10)]) rfl (by kernel_rfl) ?_
    refine EV.done rfl ?_
    exact loopV_n 6 (by decide) ⟨10, zs, g, N, rfl, by decide, by decide, by rw [hinv]; (have hz : p.num 9 = 0 := by (show p.i9 = 0; simp at h10; omega)); simp [upB, itemB, hz], hB, rfl, rfl⟩
  ·
   obtain rfl : k = 6 := by omega
   refine V.seq ?_
   refine V.sr ?_
   refine EV.run (hcS K w0) 2 [1, 3, 4, 5, 20] (S2 := [(1, pT 2), (3, outV 5 zs), (4, .slice (some ⟨4, 0, none⟩) 16 16), (5, .int .i64 10), (20, .bool true)]) (A2 := hp [r0, r1, pO fo fc zo zc co cc p 0 1, pO fo fc zo zc co cc p 0 1, tblO p, outO zs] g N) rfl (by kernel_rfl) ?_
   refine EV.done rfl ?_
   refine V.cond true (by kernel_rfl) (fun _ => ?_) (fun h => Bool.noConfusion h)
   refine V.weak [1, 3, 4, 5] (S2 := [(1, pT 2), (3, outV 5 zs), (4, .slice (some ⟨4, 0, none⟩) 16 16), (5, .int .i64 10)]) rfl ?_
   refine V.skip ?_
   refine thenV_n ?_
   refine V.seq ?_
   refine V.block ?_
   refine V.seq ?_
   refine V.sr ?_
   refine EV.runS (hcS K w0) 5 [1, 3, 4, 5, 27] (S2 := [(1, pT 2), (3, outV 5 zs), (4, .slice (some ⟨4, 0, none⟩) 16 16), (5, .int .i64 10), (27, .bool false)]) rfl (by kernel_rfl) ?_
   refine EV.done rfl ?_
   refine V.cond false (by kernel_rfl) (fun h => Bool.noConfusion h) (fun _ => ?_)
   refine V.weak [1, 3, 4, 5] (S2 := [(1, pT 2), (3, outV 5 zs), (4, .slice (some ⟨4, 0, none⟩) 16 16), (5, .int .i64 10)]) rfl ?_
   refine V.skip ?_
   refine thenV_n ?_
   refine V.sr ?_
   refine EV.runS (hcS K w0) 6 [1, 3, 4, 5, 42] (S2 := [(1, pT 2), (3, outV 5 zs), (4, .slice (some ⟨4, 0, none⟩) 16 16), (5, .int .i64 10), (42, .bool false)]) rfl (by kernel_rfl) ?_
   refine EV.done rfl ?_
   refine V.cond false (by kernel_rfl) (fun h => Bool.noConfusion h) (fun _ => ?_)
   refine V.weak [1, 3, 4, 5] (S2 := [(1, pT 2), (3, outV 5 zs), (4, .slice (some ⟨4, 0, none⟩) 16 16), (5, .int .i64 10)]) rfl ?_
   refine V.skip ?_
   refine blockQ_n ?_
   refine thenV_n ?_
   refine V.region ?_
   refine EV.runS (hcS K w0) 3 [1, 3, 4, 5] (S2 := [(1, pT 2), (3, outV 5 zs), (4, .slice (some ⟨4, 0, none⟩) 16 16), (5, .int .i64 11)]) rfl (by kernel_rfl) ?_
   refine EV.done rfl ?_
   exact loopV_n 5 (by decide) ⟨11, zs, g, N, rfl, by decide, by decide, by rw [hinv]; simp [upB, itemB, PN.num], hB, rfl, rfl⟩
  ·
   obtain rfl : k = 5 := by omega
   refine V.seq ?_
   refine V.sr ?_
   refine EV.run (hcS K w0) 2 [1, 3, 4, 5, 20] (S2 := [(1, pT 2), (3, outV 5 zs), (4, .slice (some ⟨4, 0, none⟩) 16 16), (5, .int .i64 11), (20, .bool true)]) (A2 := hp [r0, r1, pO fo fc zo zc co cc p 0 1, pO fo fc zo zc co cc p 0 1, tblO p, outO zs] g N) rfl (by kernel_rfl) ?_
   refine EV.done rfl ?_
   refine V.cond true (by kernel_rfl) (fun _ => ?_) (fun h => Bool.noConfusion h)
   refine V.weak [1, 3, 4, 5] (S2 := [(1, pT 2), (3, outV 5 zs), (4, .slice (some ⟨4, 0, none⟩) 16 16), (5, .int .i64 11)]) rfl ?_
   refine V.skip ?_
   refine thenV_n ?_
   refine V.seq ?_
   refine V.block ?_
   refine V.seq ?_
   refine V.sr ?_
   refine EV.runS (hcS K w0) 5 [1, 3, 4, 5, 27] (S2 := [(1, pT 2), (3, outV 5 zs), (4, .slice (some ⟨4, 0, none⟩) 16 16), (5, .int .i64 11), (27, .bool (decide (p.i11 > 0)))]) rfl (by kernel_rfl) ?_
   refine EV.done rfl ?_
   refine V.cond (decide (p.i11 > 0)) (by kernel_rfl) (fun h11 => ?_) (fun h11 => ?_)
   ·
    refine V.weak [1, 3, 4, 5] (S2 := [(1, pT 2), (3, outV 5 zs), (4, .slice (some ⟨4, 0, none⟩) 16 16), (5, .int .i64 11)]) rfl ?_
    refine V.region ?_
    refine EV.runS (hcS K w0) 6 [1, 4, 5, 28, 29, 33] (S2 := [(1, pT 2), (4, .slice (some ⟨4, 0, none⟩) 16 16), (5, .int .i64 11), (28, outV 5 zs), (29, .int .i64 11), (33, .int .u64 p.i11)]) rfl (by kernel_rfl) ?_
    refine EV.callh (fs := #[]) (vs := [.int .u64 p.i11]) (cs := #[]) [] (f16_fh p.i11 hn11) rfl rfl rfl (by kernel_rfl) (by kernel_rfl) (by kernel_rfl) (by kernel_rfl) (argsCons (σ := sigma [] (N + 64)) (a := .int .u64 p.i11) (xs := []) rfl rfl).symm (by kernel_rfl) trivial ?_
    rintro v s1 ⟨rfl, rfl⟩
    refine ⟨_, outV 6 (shortOf p.i11), ⟨[], [outO (shortOf p.i11)], [], [outO (shortOf p.i11)], rfl, by kernel_rfl, trivial, ⟨new_out _ _, trivial⟩, rfl⟩, (ren_outV (sigma1 [] N 0 6) 0 (shortOf p.i11)).symm, ?_⟩
    refine EV.norm [1, 4, 5, 28, 29, 34] (S2 := [(1, pT 2), (4, .slice (some ⟨4, 0, none⟩) 16 16), (5, .int .i64 11), (28, outV 5 zs), (29, .int .i64 11), (34, outV 6 (shortOf p.i11))]) (A2 := hp [r0, r1, pO fo fc zo zc co cc p 0 1, pO fo fc zo zc co cc p 0 1, tblO p, outO zs, outO (shortOf p.i11)] g N) (by kernel_rfl) (by kernel_rfl) ?_
    refine EV.callh (fs := #[]) (vs := [.int .i64 11, outV 6 (shortOf p.i11)]) (cs := #[]) [6] (f35_fh (rowF_out (shortOf_byte _ hn11)) 11 (by decide) (by have := shortOf_le p.i11; omega)) rfl rfl rfl (by kernel_rfl) (by kernel_rfl) (by kernel_rfl) (by kernel_rfl) (argsCons (σ := sigma [6] (N + 64)) (a := .int .i64 11) (xs := [outV 0 (shortOf p.i11)]) rfl (argsCons (σ := sigma [6] (N + 64)) (a := outV 0 (shortOf p.i11)) (xs := []) (ren_outV (sigma [6] (N + 64)) 0 (shortOf p.i11)) rfl)).symm (by kernel_rfl) ⟨view_out _ rfl (bl rfl), trivial⟩ ?_
    rintro v s1 ⟨rfl, rfl⟩
    refine ⟨_, outV 7 (putB 11 (shortOf p.i11)), ⟨[outR (shortOf p.i11)], [outO (putB 11 (shortOf p.i11))], [none], [outO (putB 11 (shortOf p.i11))], rfl, by kernel_rfl, ⟨start_row (rowF_out (shortOf_byte _ hn11)), trivial⟩, ⟨new_out _ _, trivial⟩, rfl⟩, (ren_outV (sigma1 [6] N 1 7) 1 (putB 11 (shortOf p.i11))).symm, ?_⟩
    refine EV.norm [1, 4, 5, 28, 35] (S2 := [(1, pT 2), (4, .slice (some ⟨4, 0, none⟩) 16 16), (5, .int .i64 11), (28, outV 5 zs), (35, outV 7 (putB 11 (shortOf p.i11)))]) (A2 := hp [r0, r1, pO fo fc zo zc co cc p 0 1, pO fo fc zo zc co cc p 0 1, tblO p, outO zs, outO (shortOf p.i11), outO (putB 11 (shortOf p.i11))] g N) (by kernel_rfl) (by kernel_rfl) ?_
    refine EV.app (hcS K w0) (zs := zs) (xs := (putB 11 (shortOf p.i11))) 5 36 [1, 4, 5] (S1 := [(1, pT 2), (4, .slice (some ⟨4, 0, none⟩) 16 16), (5, .int .i64 11)]) hB rfl rfl rfl rfl (by kernel_rfl) rfl (by kernel_rfl) (by kernel_rfl) (by kernel_rfl) (fun _ _ _ => rfl) (rowV_own (k := 7) rfl rfl (putB_byte (shortOf_byte _ hn11))) (hzsb) (by have := putB_len 11 (shortOf p.i11) (by have := shortOf_le p.i11; omega); (have : (zs).length ≤ 1000 := by first | exact hzsl | simp); omega) rfl (by kernel_rfl) (fun τ hτ => ⟨.inr (hro.obj _), .inr (hrc.obj _), .inr (ren_pcl (hro.rst (hτ 0 (by decide) (by decide) (by show 0 ≠ 8; decide))) (hrc.rst (hτ 1 (by decide) (by decide) (by show 1 ≠ 8; decide)))), .inr (ren_pcl (hro.rst (hτ 0 (by decide) (by decide) (by show 0 ≠ 8; decide))) (hrc.rst (hτ 1 (by decide) (by decide) (by show 1 ≠ 8; decide)))), .inr rfl, .inl rfl, .inr (renO_outO _ _), .inr (renO_outO _ _), trivial⟩) (by kernel_rfl) (by kernel_rfl) (fun τ hτ => (renS_cons (congrArg (fun q => Value.pointer (some ⟨q, 0, none⟩)) (hτ 2 (by decide) (by decide) (by show 2 ≠ 8; decide))) (renS_cons (congrArg (fun q => Value.slice (some ⟨q, 0, none⟩) 16 16) (hτ 4 (by decide) (by decide) (by show 4 ≠ 8; decide))) (renS_cons rfl rfl)))) ?_
    intro g N hB
    refine EV.norm [1, 4, 5, 36] (S2 := [(1, pT 2), (4, .slice (some ⟨4, 0, none⟩) 16 16), (5, .int .i64 11), (36, outV 5 (zs ++ (putB 11 (shortOf p.i11))))]) (A2 := hp [r0, r1, pO fo fc zo zc co cc p 0 1, pO fo fc zo zc co cc p 0 1, tblO p, outO (zs ++ (putB 11 (shortOf p.i11))), outO (shortOf p.i11), outO (putB 11 (shortOf p.i11))] g N) (by kernel_rfl) (by kernel_rfl) ?_
    refine EV.reng hB [0, 1, 2, 3, 4, 5, 64, 64] [0, 1, 2, 3, 4, 5] [1, 4, 5, 36] (S2 := [(1, pT 2), (4, .slice (some ⟨4, 0, none⟩) 16 16), (5, .int .i64 11), (36, outV 5 (zs ++ (putB 11 (shortOf p.i11))))]) (s2 := [r0, r1, pO fo fc zo zc co cc p 0 1, pO fo fc zo zc co cc p 0 1, tblO p, outO (zs ++ (putB 11 (shortOf p.i11)))]) (by kernel_rfl) (by kernel_rfl) ⟨.inr ⟨(bl rfl), .inl ((hro.obj _).symm)⟩, .inr ⟨(bl rfl), .inl ((hrc.obj _).symm)⟩, .inr ⟨(bl rfl), .inl ((ren_pcl (τ := tau [0, 1, 2, 3, 4, 5, 64, 64] N) (vo := .slice (fo 0) zo.length co) (vc := .slice (fc 1) zc.length cc) (hro.ren _ 0) (hrc.ren _ 1)).symm)⟩, .inr ⟨(bl rfl), .inl ((ren_pcl (τ := tau [0, 1, 2, 3, 4, 5, 64, 64] N) (vo := .slice (fo 0) zo.length co) (vc := .slice (fc 1) zc.length cc) (hro.ren _ 0) (hrc.ren _ 1)).symm)⟩, .inr ⟨(bl rfl), .inl (rfl)⟩, .inr ⟨(bl rfl), .inl ((renO_outO (tau [0, 1, 2, 3, 4, 5, 64, 64] N) (zs ++ (putB 11 (shortOf p.i11)))).symm)⟩, .inl (by decide), .inl (by decide), trivial⟩ (renS_cons (rfl) (renS_cons (rfl) (renS_cons (rfl) (renS_cons (ren_outV (tau [0, 1, 2, 3, 4, 5, 64, 64] N) 5 (zs ++ (putB 11 (shortOf p.i11)))) rfl)))) ?_
    intro g N hB
    refine EV.run (hcS K w0) 10 [1, 3, 4, 5] (S2 := [(1, pT 2), (3, outV 5 (zs ++ (putB 11 (shortOf p.i11)))), (4, .slice (some ⟨4, 0, none⟩) 16 16), (5, .int .i64 11)]) (A2 := hp [r0, r1, pO fo fc zo zc co cc p 0 1, pO fo fc zo zc co cc p 0 1, tblO p, outO (zs ++ (putB 11 (shortOf p.i11)))] g N) rfl (by kernel_rfl) ?_
    refine EV.done rfl ?_
    refine thenV_n ?_
    refine V.sr ?_
    refine EV.runS (hcS K w0) 6 [1, 3, 4, 5, 42] (S2 := [(1, pT 2), (3, outV 5 (zs ++ (putB 11 (shortOf p.i11)))), (4, .slice (some ⟨4, 0, none⟩) 16 16), (5, .int .i64 11), (42, .bool false)]) rfl (by kernel_rfl) ?_
    refine EV.done rfl ?_
    refine V.cond false (by kernel_rfl) (fun h => Bool.noConfusion h) (fun _ => ?_)
    refine V.weak [1, 3, 4, 5] (S2 := [(1, pT 2), (3, outV 5 (zs ++ (putB 11 (shortOf p.i11)))), (4, .slice (some ⟨4, 0, none⟩) 16 16), (5, .int .i64 11)]) rfl ?_
    refine V.skip ?_
    refine blockQ_n ?_
    refine thenV_n ?_
    refine V.region ?_
    refine EV.runS (hcS K w0) 3 [1, 3, 4, 5] (S2 := [(1, pT 2), (3, outV 5 (zs ++ (putB 11 (shortOf p.i11)))), (4, .slice (some ⟨4, 0, none⟩) 16 16), (5, .int .i64 12)]) rfl (by kernel_rfl) ?_
    refine EV.done rfl ?_
    exact loopV_n 4 (by decide) ⟨12, (zs ++ (putB 11 (shortOf p.i11))), g, N, rfl, by decide, by decide, by rw [hinv]; (have hz : ¬ p.i11 = 0 := by (simp at h11; omega)); simp [upB, itemB, hz, PN.num], hB, rfl, rfl⟩
   ·
    refine V.weak [1, 3, 4, 5] (S2 := [(1, pT 2), (3, outV 5 zs), (4, .slice (some ⟨4, 0, none⟩) 16 16), (5, .int .i64 11)]) rfl ?_
    refine V.skip ?_
    refine thenV_n ?_
    refine V.sr ?_
    refine EV.runS (hcS K w0) 6 [1, 3, 4, 5, 42] (S2 := [(1, pT 2), (3, outV 5 zs), (4, .slice (some ⟨4, 0, none⟩) 16 16), (5, .int .i64 11), (42, .bool false)]) rfl (by kernel_rfl) ?_
    refine EV.done rfl ?_
    refine V.cond false (by kernel_rfl) (fun h => Bool.noConfusion h) (fun _ => ?_)
    refine V.weak [1, 3, 4, 5] (S2 := [(1, pT 2), (3, outV 5 zs), (4, .slice (some ⟨4, 0, none⟩) 16 16), (5, .int .i64 11)]) rfl ?_
    refine V.skip ?_
    refine blockQ_n ?_
    refine thenV_n ?_
    refine V.region ?_
    refine EV.runS (hcS K w0) 3 [1, 3, 4, 5] (S2 := [(1, pT 2), (3, outV 5 zs), (4, .slice (some ⟨4, 0, none⟩) 16 16), (5, .int .i64 12)]) rfl (by kernel_rfl) ?_
    refine EV.done rfl ?_
    exact loopV_n 4 (by decide) ⟨12, zs, g, N, rfl, by decide, by decide, by rw [hinv]; (have hz : p.num 11 = 0 := by (show p.i11 = 0; simp at h11; omega)); simp [upB, itemB, hz], hB, rfl, rfl⟩
  ·
   obtain rfl : k = 4 := by omega
   refine V.seq ?_
   refine V.sr ?_
   refine EV.run (hcS K w0) 2 [1, 3, 4, 5, 20] (S2 := [(1, pT 2), (3, outV 5 zs), (4, .slice (some ⟨4, 0, none⟩) 16 16), (5, .int .i64 12), (20, .bool true)]) (A2 := hp [r0, r1, pO fo fc zo zc co cc p 0 1, pO fo fc zo zc co cc p 0 1, tblO p, outO zs] g N) rfl (by kernel_rfl) ?_
   refine EV.done rfl ?_
   refine V.cond true (by kernel_rfl) (fun _ => ?_) (fun h => Bool.noConfusion h)
   refine V.weak [1, 3, 4, 5] (S2 := [(1, pT 2), (3, outV 5 zs), (4, .slice (some ⟨4, 0, none⟩) 16 16), (5, .int .i64 12)]) rfl ?_
   refine V.skip ?_
   refine thenV_n ?_
   refine V.seq ?_
   refine V.block ?_
   refine V.seq ?_
   refine V.sr ?_
   refine EV.runS (hcS K w0) 5 [1, 3, 4, 5, 27] (S2 := [(1, pT 2), (3, outV 5 zs), (4, .slice (some ⟨4, 0, none⟩) 16 16), (5, .int .i64 12), (27, .bool false)]) rfl (by kernel_rfl) ?_
   refine EV.done rfl ?_
   refine V.cond false (by kernel_rfl) (fun h => Bool.noConfusion h) (fun _ => ?_)
   refine V.weak [1, 3, 4, 5] (S2 := [(1, pT 2), (3, outV 5 zs), (4, .slice (some ⟨4, 0, none⟩) 16 16), (5, .int .i64 12)]) rfl ?_
   refine V.skip ?_
   refine thenV_n ?_
   refine V.sr ?_
   refine EV.runS (hcS K w0) 6 [1, 3, 4, 5, 42] (S2 := [(1, pT 2), (3, outV 5 zs), (4, .slice (some ⟨4, 0, none⟩) 16 16), (5, .int .i64 12), (42, .bool false)]) rfl (by kernel_rfl) ?_
   refine EV.done rfl ?_
   refine V.cond false (by kernel_rfl) (fun h => Bool.noConfusion h) (fun _ => ?_)
   refine V.weak [1, 3, 4, 5] (S2 := [(1, pT 2), (3, outV 5 zs), (4, .slice (some ⟨4, 0, none⟩) 16 16), (5, .int .i64 12)]) rfl ?_
   refine V.skip ?_
   refine blockQ_n ?_
   refine thenV_n ?_
   refine V.region ?_
   refine EV.runS (hcS K w0) 3 [1, 3, 4, 5] (S2 := [(1, pT 2), (3, outV 5 zs), (4, .slice (some ⟨4, 0, none⟩) 16 16), (5, .int .i64 13)]) rfl (by kernel_rfl) ?_
   refine EV.done rfl ?_
   exact loopV_n 3 (by decide) ⟨13, zs, g, N, rfl, by decide, by decide, by rw [hinv]; simp [upB, itemB, PN.num], hB, rfl, rfl⟩
  ·
   obtain rfl : k = 3 := by omega
   refine V.seq ?_
   refine V.sr ?_
   refine EV.run (hcS K w0) 2 [1, 3, 4, 5, 20] (S2 := [(1, pT 2), (3, outV 5 zs), (4, .slice (some ⟨4, 0, none⟩) 16 16), (5, .int .i64 13), (20, .bool true)]) (A2 := hp [r0, r1, pO fo fc zo zc co cc p 0 1, pO fo fc zo zc co cc p 0 1, tblO p, outO zs] g N) rfl (by kernel_rfl) ?_
   refine EV.done rfl ?_
   refine V.cond true (by kernel_rfl) (fun _ => ?_) (fun h => Bool.noConfusion h)
   refine V.weak [1, 3, 4, 5] (S2 := [(1, pT 2), (3, outV 5 zs), (4, .slice (some ⟨4, 0, none⟩) 16 16), (5, .int .i64 13)]) rfl ?_
   refine V.skip ?_
   refine thenV_n ?_
   refine V.seq ?_
   refine V.block ?_
   refine V.seq ?_
   refine V.sr ?_
   refine EV.runS (hcS K w0) 5 [1, 3, 4, 5, 27] (S2 := [(1, pT 2), (3, outV 5 zs), (4, .slice (some ⟨4, 0, none⟩) 16 16), (5, .int .i64 13), (27, .bool false)]) rfl (by kernel_rfl) ?_
   refine EV.done rfl ?_
   refine V.cond false (by kernel_rfl) (fun h => Bool.noConfusion h) (fun _ => ?_)
   refine V.weak [1, 3, 4, 5] (S2 := [(1, pT 2), (3, outV 5 zs), (4, .slice (some ⟨4, 0, none⟩) 16 16), (5, .int .i64 13)]) rfl ?_
   refine V.skip ?_
   refine thenV_n ?_
   refine V.sr ?_
   refine EV.runS (hcS K w0) 6 [1, 3, 4, 5, 42] (S2 := [(1, pT 2), (3, outV 5 zs), (4, .slice (some ⟨4, 0, none⟩) 16 16), (5, .int .i64 13), (42, .bool false)]) rfl (by kernel_rfl) ?_
   refine EV.done rfl ?_
   refine V.cond false (by kernel_rfl) (fun h => Bool.noConfusion h) (fun _ => ?_)
   refine V.weak [1, 3, 4, 5] (S2 := [(1, pT 2), (3, outV 5 zs), (4, .slice (some ⟨4, 0, none⟩) 16 16), (5, .int .i64 13)]) rfl ?_
   refine V.skip ?_
   refine blockQ_n ?_
   refine thenV_n ?_
   refine V.region ?_
   refine EV.runS (hcS K w0) 3 [1, 3, 4, 5] (S2 := [(1, pT 2), (3, outV 5 zs), (4, .slice (some ⟨4, 0, none⟩) 16 16), (5, .int .i64 14)]) rfl (by kernel_rfl) ?_
   refine EV.done rfl ?_
   exact loopV_n 2 (by decide) ⟨14, zs, g, N, rfl, by decide, by decide, by rw [hinv]; simp [upB, itemB, PN.num], hB, rfl, rfl⟩
  ·
   obtain rfl : k = 2 := by omega
   refine V.seq ?_
   refine V.sr ?_
   refine EV.run (hcS K w0) 2 [1, 3, 4, 5, 20] (S2 := [(1, pT 2), (3, outV 5 zs), (4, .slice (some ⟨4, 0, none⟩) 16 16), (5, .int .i64 14), (20, .bool true)]) (A2 := hp [r0, r1, pO fo fc zo zc co cc p 0 1, pO fo fc zo zc co cc p 0 1, tblO p, outO zs] g N) rfl (by kernel_rfl) ?_
   refine EV.done rfl ?_
   refine V.cond true (by kernel_rfl) (fun _ => ?_) (fun h => Bool.noConfusion h)
   refine V.weak [1, 3, 4, 5] (S2 := [(1, pT 2), (3, outV 5 zs), (4, .slice (some ⟨4, 0, none⟩) 16 16), (5, .int .i64 14)]) rfl ?_
   refine V.skip ?_
   refine thenV_n ?_
   refine V.seq ?_
   refine V.block ?_
   refine V.seq ?_
   refine V.sr ?_
   refine EV.runS (hcS K w0) 5 [1, 3, 4, 5, 27] (S2 := [(1, pT 2), (3, outV 5 zs), (4, .slice (some ⟨4, 0, none⟩) 16 16), (5, .int .i64 14), (27, .bool (decide (p.i14 > 0)))]) rfl (by kernel_rfl) ?_
   refine EV.done rfl ?_
   refine V.cond (decide (p.i14 > 0)) (by kernel_rfl) (fun h12 => ?_) (fun h12 => ?_)
   ·
    refine V.weak [1, 3, 4, 5] (S2 := [(1, pT 2), (3, outV 5 zs), (4, .slice (some ⟨4, 0, none⟩) 16 16), (5, .int .i64 14)]) rfl ?_
    refine V.region ?_
    refine EV.runS (hcS K w0) 6 [1, 4, 5, 28, 29, 33] (S2 := [(1, pT 2), (4, .slice (some ⟨4, 0, none⟩) 16 16), (5, .int .i64 14), (28, outV 5 zs), (29, .int .i64 14), (33, .int .u64 p.i14)]) rfl (by kernel_rfl) ?_
    refine EV.callh (fs := #[]) (vs := [.int .u64 p.i14]) (cs := #[]) [] (f16_fh p.i14 hn14) rfl rfl rfl (by kernel_rfl) (by kernel_rfl) (by kernel_rfl) (by kernel_rfl) (argsCons (σ := sigma [] (N + 64)) (a := .int .u64 p.i14) (xs := []) rfl rfl).symm (by kernel_rfl) trivial ?_
    rintro v s1 ⟨rfl, rfl⟩
    refine ⟨_, outV 6 (shortOf p.i14), ⟨[], [outO (shortOf p.i14)], [], [outO (shortOf p.i14)], rfl, by kernel_rfl, trivial, ⟨new_out _ _, trivial⟩, rfl⟩, (ren_outV (sigma1 [] N 0 6) 0 (shortOf p.i14)).symm, ?_⟩
    refine EV.norm [1, 4, 5, 28, 29, 34] (S2 := [(1, pT 2), (4, .slice (some ⟨4, 0, none⟩) 16 16), (5, .int .i64 14), (28, outV 5 zs), (29, .int .i64 14), (34, outV 6 (shortOf p.i14))]) (A2 := hp [r0, r1, pO fo fc zo zc co cc p 0 1, pO fo fc zo zc co cc p 0 1, tblO p, outO zs, outO (shortOf p.i14)] g N) (by kernel_rfl) (by kernel_rfl) ?_
    refine EV.callh (fs := #[]) (vs := [.int .i64 14, outV 6 (shortOf p.i14)]) (cs := #[]) [6] (f35_fh (rowF_out (shortOf_byte _ hn14)) 14 (by decide) (by have := shortOf_le p.i14; omega)) rfl rfl rfl (by kernel_rfl) (by kernel_rfl) (by kernel_rfl) (by kernel_rfl) (argsCons (σ := sigma [6] (N + 64)) (a := .int .i64 14) (xs := [outV 0 (shortOf p.i14)]) rfl (argsCons (σ := sigma [6] (N + 64)) (a := outV 0 (shortOf p.i14)) (xs := []) (ren_outV (sigma [6] (N + 64)) 0 (shortOf p.i14)) rfl)).symm (by kernel_rfl) ⟨view_out _ rfl (bl rfl), trivial⟩ ?_
    rintro v s1 ⟨rfl, rfl⟩
    refine ⟨_, outV 7 (putB 14 (shortOf p.i14)), ⟨[outR (shortOf p.i14)], [outO (putB 14 (shortOf p.i14))], [none], [outO (putB 14 (shortOf p.i14))], rfl, by kernel_rfl, ⟨start_row (rowF_out (shortOf_byte _ hn14)), trivial⟩, ⟨new_out _ _, trivial⟩, rfl⟩, (ren_outV (sigma1 [6] N 1 7) 1 (putB 14 (shortOf p.i14))).symm, ?_⟩
    refine EV.norm [1, 4, 5, 28, 35] (S2 := [(1, pT 2), (4, .slice (some ⟨4, 0, none⟩) 16 16), (5, .int .i64 14), (28, outV 5 zs), (35, outV 7 (putB 14 (shortOf p.i14)))]) (A2 := hp [r0, r1, pO fo fc zo zc co cc p 0 1, pO fo fc zo zc co cc p 0 1, tblO p, outO zs, outO (shortOf p.i14), outO (putB 14 (shortOf p.i14))] g N) (by kernel_rfl) (by kernel_rfl) ?_
    refine EV.app (hcS K w0) (zs := zs) (xs := (putB 14 (shortOf p.i14))) 5 36 [1, 4, 5] (S1 := [(1, pT 2), (4, .slice (some ⟨4, 0, none⟩) 16 16), (5, .int .i64 14)]) hB rfl rfl rfl rfl (by kernel_rfl) rfl (by kernel_rfl) (by kernel_rfl) (by kernel_rfl) (fun _ _ _ => rfl) (rowV_own (k := 7) rfl rfl (putB_byte (shortOf_byte _ hn14))) (hzsb) (by have := putB_len 14 (shortOf p.i14) (by have := shortOf_le p.i14; omega); (have : (zs).length ≤ 1000 := by first | exact hzsl | simp); omega) rfl (by kernel_rfl) (fun τ hτ => ⟨.inr (hro.obj _), .inr (hrc.obj _), .inr (ren_pcl (hro.rst (hτ 0 (by decide) (by decide) (by show 0 ≠ 8; decide))) (hrc.rst (hτ 1 (by decide) (by decide) (by show 1 ≠ 8; decide)))), .inr (ren_pcl (hro.rst (hτ 0 (by decide) (by decide) (by show 0 ≠ 8; decide))) (hrc.rst (hτ 1 (by decide) (by decide) (by show 1 ≠ 8; decide)))), .inr rfl, .inl rfl, .inr (renO_outO _ _), .inr (renO_outO _ _), trivial⟩) (by kernel_rfl) (by kernel_rfl) (fun τ hτ => (renS_cons (congrArg (fun q => Value.pointer (some ⟨q, 0, none⟩)) (hτ 2 (by decide) (by decide) (by show 2 ≠ 8; decide))) (renS_cons (congrArg (fun q => Value.slice (some ⟨q, 0, none⟩) 16 16) (hτ 4 (by decide) (by decide) (by show 4 ≠ 8; decide))) (renS_cons rfl rfl)))) ?_
    intro g N hB
    refine EV.norm [1, 4, 5, 36] (S2 := [(1, pT 2), (4, .slice (some ⟨4, 0, none⟩) 16 16), (5, .int .i64 14), (36, outV 5 (zs ++ (putB 14 (shortOf p.i14))))]) (A2 := hp [r0, r1, pO fo fc zo zc co cc p 0 1, pO fo fc zo zc co cc p 0 1, tblO p, outO (zs ++ (putB 14 (shortOf p.i14))), outO (shortOf p.i14), outO (putB 14 (shortOf p.i14))] g N) (by kernel_rfl) (by kernel_rfl) ?_
    refine EV.reng hB [0, 1, 2, 3, 4, 5, 64, 64] [0, 1, 2, 3, 4, 5] [1, 4, 5, 36] (S2 := [(1, pT 2), (4, .slice (some ⟨4, 0, none⟩) 16 16), (5, .int .i64 14), (36, outV 5 (zs ++ (putB 14 (shortOf p.i14))))]) (s2 := [r0, r1, pO fo fc zo zc co cc p 0 1, pO fo fc zo zc co cc p 0 1, tblO p, outO (zs ++ (putB 14 (shortOf p.i14)))]) (by kernel_rfl) (by kernel_rfl) ⟨.inr ⟨(bl rfl), .inl ((hro.obj _).symm)⟩, .inr ⟨(bl rfl), .inl ((hrc.obj _).symm)⟩, .inr ⟨(bl rfl), .inl ((ren_pcl (τ := tau [0, 1, 2, 3, 4, 5, 64, 64] N) (vo := .slice (fo 0) zo.length co) (vc := .slice (fc 1) zc.length cc) (hro.ren _ 0) (hrc.ren _ 1)).symm)⟩, .inr ⟨(bl rfl), .inl ((ren_pcl (τ := tau [0, 1, 2, 3, 4, 5, 64, 64] N) (vo := .slice (fo 0) zo.length co) (vc := .slice (fc 1) zc.length cc) (hro.ren _ 0) (hrc.ren _ 1)).symm)⟩, .inr ⟨(bl rfl), .inl (rfl)⟩, .inr ⟨(bl rfl), .inl ((renO_outO (tau [0, 1, 2, 3, 4, 5, 64, 64] N) (zs ++ (putB 14 (shortOf p.i14)))).symm)⟩, .inl (by decide), .inl (by decide), trivial⟩ (renS_cons (rfl) (renS_cons (rfl) (renS_cons (rfl) (renS_cons (ren_outV (tau [0, 1, 2, 3, 4, 5, 64, 64] N) 5 (zs ++ (putB 14 (shortOf p.i14)))) rfl)))) ?_
    intro g N hB
    refine EV.run (hcS K w0) 10 [1, 3, 4, 5] (S2 := [(1, pT 2), (3, outV 5 (zs ++ (putB 14 (shortOf p.i14)))), (4, .slice (some ⟨4, 0, none⟩) 16 16), (5, .int .i64 14)]) (A2 := hp [r0, r1, pO fo fc zo zc co cc p 0 1, pO fo fc zo zc co cc p 0 1, tblO p, outO (zs ++ (putB 14 (shortOf p.i14)))] g N) rfl (by kernel_rfl) ?_
    refine EV.done rfl ?_
    refine thenV_n ?_
    refine V.sr ?_
    refine EV.runS (hcS K w0) 6 [1, 3, 4, 5, 42] (S2 := [(1, pT 2), (3, outV 5 (zs ++ (putB 14 (shortOf p.i14)))), (4, .slice (some ⟨4, 0, none⟩) 16 16), (5, .int .i64 14), (42, .bool false)]) rfl (by kernel_rfl) ?_
    refine EV.done rfl ?_
    refine V.cond false (by kernel_rfl) (fun h => Bool.noConfusion h) (fun _ => ?_)
    refine V.weak [1, 3, 4, 5] (S2 := [(1, pT 2), (3, outV 5 (zs ++ (putB 14 (shortOf p.i14)))), (4, .slice (some ⟨4, 0, none⟩) 16 16), (5, .int .i64 14)]) rfl ?_
    refine V.skip ?_
    refine blockQ_n ?_
    refine thenV_n ?_
    refine V.region ?_
    refine EV.runS (hcS K w0) 3 [1, 3, 4, 5] (S2 := [(1, pT 2), (3, outV 5 (zs ++ (putB 14 (shortOf p.i14)))), (4, .slice (some ⟨4, 0, none⟩) 16 16), (5, .int .i64 15)]) rfl (by kernel_rfl) ?_
    refine EV.done rfl ?_
    exact loopV_n 1 (by decide) ⟨15, (zs ++ (putB 14 (shortOf p.i14))), g, N, rfl, by decide, by decide, by rw [hinv]; (have hz : ¬ p.i14 = 0 := by (simp at h12; omega)); simp [upB, itemB, hz, PN.num], hB, rfl, rfl⟩
   ·
    refine V.weak [1, 3, 4, 5] (S2 := [(1, pT 2), (3, outV 5 zs), (4, .slice (some ⟨4, 0, none⟩) 16 16), (5, .int .i64 14)]) rfl ?_
    refine V.skip ?_
    refine thenV_n ?_
    refine V.sr ?_
    refine EV.runS (hcS K w0) 6 [1, 3, 4, 5, 42] (S2 := [(1, pT 2), (3, outV 5 zs), (4, .slice (some ⟨4, 0, none⟩) 16 16), (5, .int .i64 14), (42, .bool false)]) rfl (by kernel_rfl) ?_
    refine EV.done rfl ?_
    refine V.cond false (by kernel_rfl) (fun h => Bool.noConfusion h) (fun _ => ?_)
    refine V.weak [1, 3, 4, 5] (S2 := [(1, pT 2), (3, outV 5 zs), (4, .slice (some ⟨4, 0, none⟩) 16 16), (5, .int .i64 14)]) rfl ?_
    refine V.skip ?_
    refine blockQ_n ?_
    refine thenV_n ?_
    refine V.region ?_
    refine EV.runS (hcS K w0) 3 [1, 3, 4, 5] (S2 := [(1, pT 2), (3, outV 5 zs), (4, .slice (some ⟨4, 0, none⟩) 16 16), (5, .int .i64 15)]) rfl (by kernel_rfl) ?_
    refine EV.done rfl ?_
    exact loopV_n 1 (by decide) ⟨15, zs, g, N, rfl, by decide, by decide, by rw [hinv]; (have hz : p.num 14 = 0 := by (show p.i14 = 0; simp at h12; omega)); simp [upB, itemB, hz], hB, rfl, rfl⟩
  ·
   obtain rfl : k = 1 := by omega
   refine V.seq ?_
   refine V.sr ?_
   refine EV.run (hcS K w0) 2 [1, 3, 4, 5, 20] (S2 := [(1, pT 2), (3, outV 5 zs), (4, .slice (some ⟨4, 0, none⟩) 16 16), (5, .int .i64 15), (20, .bool false)]) (A2 := hp [r0, r1, pO fo fc zo zc co cc p 0 1, pO fo fc zo zc co cc p 0 1, tblO p, outO zs] g N) rfl (by kernel_rfl) ?_
   refine EV.done rfl ?_
   refine V.cond false (by kernel_rfl) (fun h => Bool.noConfusion h) (fun _ => ?_)
   refine V.weak [1, 3] (S2 := [(1, pT 2), (3, outV 5 zs)]) rfl ?_
   refine V.exit ?_
   refine thenV_e ?_
   refine loopV_e ?_
   refine blockQ_hit ?_
   refine thenV_n ?_
   refine V.join (fun S A => ∃ (zs : List Int) (g : Nat → AObj) (N : Nat), zs = upB zo zc p 16 ∧ Bulk g N ∧ S = [(3, outV 5 zs)] ∧ A = hp [r0, r1, pO fo fc zo zc co cc p 0 1, pO fo fc zo zc co cc p 0 1, tblO p, outO zs] g N) ?_ ?_
   ·
    rcases (show zc = [] ∨ ¬ zc = [] from Classical.em _) with hvne | hvne
    ·
     have hlen : decide (((zc.length : Nat) : Int) > 0) = false := by rw [hvne]; rfl
     refine V.sr ?_
     refine EV.run (hcS K w0) 4 [1, 3, 61] (S2 := [(1, pT 2), (3, outV 5 zs), (61, .bool (decide (((zc.length : Nat) : Int) > 0)))]) (A2 := hp [r0, r1, pO fo fc zo zc co cc p 0 1, pO fo fc zo zc co cc p 0 1, tblO p, outO zs] g N) rfl (by kernel_rfl) ?_
     refine EV.done rfl ?_
     have d13 : (decide (((zc.length : Nat) : Int) > 0)) = false := hlen
     refine V.cast (S2 := [(1, pT 2), (3, outV 5 zs), (61, .bool false)]) (by rw [d13]) rfl ?_
     refine V.cond false (by kernel_rfl) (fun h => Bool.noConfusion h) (fun _ => ?_)
     refine V.weak [3] (S2 := [(3, outV 5 zs)]) rfl ?_
     refine V.skip ?_
     refine joinV_n ⟨zs, g, N, ?_, hB, rfl, rfl⟩
     rw [hinv]; simp [upB, itemB, hvne]
    ·
     have hlen := lenpos hvne
     refine V.sr ?_
     refine EV.run (hcS K w0) 4 [1, 3, 61] (S2 := [(1, pT 2), (3, outV 5 zs), (61, .bool (decide (((zc.length : Nat) : Int) > 0)))]) (A2 := hp [r0, r1, pO fo fc zo zc co cc p 0 1, pO fo fc zo zc co cc p 0 1, tblO p, outO zs] g N) rfl (by kernel_rfl) ?_
     refine EV.done rfl ?_
     have d14 : (decide (((zc.length : Nat) : Int) > 0)) = true := hlen
     refine V.cast (S2 := [(1, pT 2), (3, outV 5 zs), (61, .bool true)]) (by rw [d14]) rfl ?_
     refine V.cond true (by kernel_rfl) (fun _ => ?_) (fun h => Bool.noConfusion h)
     refine V.weak [1, 3] (S2 := [(1, pT 2), (3, outV 5 zs)]) rfl ?_
     refine V.region ?_
     refine EV.run (hcS K w0) 3 [62, 64] (S2 := [(62, outV 5 zs), (64, .slice (fc 1) zc.length cc)]) (A2 := hp [r0, r1, pO fo fc zo zc co cc p 0 1, pO fo fc zo zc co cc p 0 1, tblO p, outO zs] g N) rfl (by kernel_rfl) ?_
     refine EV.callh (fs := #[]) (vs := [.int .i64 15, .slice (fc 1) zc.length cc]) (cs := #[]) [1] (f35_fh hrc 15 (by decide) (by omega)) rfl rfl rfl (by kernel_rfl) (by kernel_rfl) (by kernel_rfl) (by kernel_rfl) (argsCons (σ := sigma [1] (N + 64)) (a := .int .i64 15) (xs := [.slice (fc 0) zc.length cc]) rfl (argsCons (σ := sigma [1] (N + 64)) (a := .slice (fc 0) zc.length cc) (xs := []) (hrc.ren (sigma [1] (N + 64)) 0) rfl)).symm (by kernel_rfl) ⟨view_row _ hrc rfl (bl rfl), trivial⟩ ?_
     rintro v s1 ⟨rfl, rfl⟩
     refine ⟨_, outV 6 (putB 15 zc), ⟨[r1], [outO (putB 15 zc)], [none], [outO (putB 15 zc)], rfl, by kernel_rfl, ⟨start_row hrc, trivial⟩, ⟨new_out _ _, trivial⟩, rfl⟩, (ren_outV (sigma1 [1] N 1 6) 1 (putB 15 zc)).symm, ?_⟩
     refine EV.norm [62, 65] (S2 := [(62, outV 5 zs), (65, outV 6 (putB 15 zc))]) (A2 := hp [r0, r1, pO fo fc zo zc co cc p 0 1, pO fo fc zo zc co cc p 0 1, tblO p, outO zs, outO (putB 15 zc)] g N) (by kernel_rfl) (by kernel_rfl) ?_
     refine EV.app (hcS K w0) (zs := zs) (xs := (putB 15 zc)) 5 66 [] (S1 := []) hB rfl rfl rfl rfl (by kernel_rfl) rfl (by kernel_rfl) (by kernel_rfl) (by kernel_rfl) (fun _ _ _ => rfl) (rowV_own (k := 6) rfl rfl (putB_byte (hzcb))) (hzsb) (by have := putB_len 15 zc (by omega); (have : (zs).length ≤ 1000 := by first | exact hzsl | simp); omega) rfl (by kernel_rfl) (fun τ hτ => ⟨.inr (hro.obj _), .inr (hrc.obj _), .inr (ren_pcl (hro.rst (hτ 0 (by decide) (by decide) (by show 0 ≠ 7; decide))) (hrc.rst (hτ 1 (by decide) (by decide) (by show 1 ≠ 7; decide)))), .inr (ren_pcl (hro.rst (hτ 0 (by decide) (by decide) (by show 0 ≠ 7; decide))) (hrc.rst (hτ 1 (by decide) (by decide) (by show 1 ≠ 7; decide)))), .inr rfl, .inl rfl, .inr (renO_outO _ _), trivial⟩) (by kernel_rfl) (by kernel_rfl) (fun τ hτ => rfl) ?_
     intro g N hB
     refine EV.norm [66] (S2 := [(66, outV 5 (zs ++ (putB 15 zc)))]) (A2 := hp [r0, r1, pO fo fc zo zc co cc p 0 1, pO fo fc zo zc co cc p 0 1, tblO p, outO (zs ++ (putB 15 zc)), outO (putB 15 zc)] g N) (by kernel_rfl) (by kernel_rfl) ?_
     refine EV.reng hB [0, 1, 2, 3, 4, 5, 64] [0, 1, 2, 3, 4, 5] [66] (S2 := [(66, outV 5 (zs ++ (putB 15 zc)))]) (s2 := [r0, r1, pO fo fc zo zc co cc p 0 1, pO fo fc zo zc co cc p 0 1, tblO p, outO (zs ++ (putB 15 zc))]) (by kernel_rfl) (by kernel_rfl) ⟨.inr ⟨(bl rfl), .inl ((hro.obj _).symm)⟩, .inr ⟨(bl rfl), .inl ((hrc.obj _).symm)⟩, .inr ⟨(bl rfl), .inl ((ren_pcl (τ := tau [0, 1, 2, 3, 4, 5, 64] N) (vo := .slice (fo 0) zo.length co) (vc := .slice (fc 1) zc.length cc) (hro.ren _ 0) (hrc.ren _ 1)).symm)⟩, .inr ⟨(bl rfl), .inl ((ren_pcl (τ := tau [0, 1, 2, 3, 4, 5, 64] N) (vo := .slice (fo 0) zo.length co) (vc := .slice (fc 1) zc.length cc) (hro.ren _ 0) (hrc.ren _ 1)).symm)⟩, .inr ⟨(bl rfl), .inl (rfl)⟩, .inr ⟨(bl rfl), .inl ((renO_outO (tau [0, 1, 2, 3, 4, 5, 64] N) (zs ++ (putB 15 zc))).symm)⟩, .inl (by decide), trivial⟩ (renS_cons (ren_outV (tau [0, 1, 2, 3, 4, 5, 64] N) 5 (zs ++ (putB 15 zc))) rfl) ?_
     intro g N hB
     refine EV.run (hcS K w0) 6 [3] (S2 := [(3, outV 5 (zs ++ (putB 15 zc)))]) (A2 := hp [r0, r1, pO fo fc zo zc co cc p 0 1, pO fo fc zo zc co cc p 0 1, tblO p, outO (zs ++ (putB 15 zc))] g N) rfl (by kernel_rfl) ?_
     refine EV.done rfl ?_
     refine joinV_n ⟨(zs ++ (putB 15 zc)), g, N, ?_, hB, rfl, rfl⟩
     rw [hinv]; simp [upB, itemB, hvne]
   ·
    rintro S A ⟨zs, g, N, hjoin, hB, rfl, rfl⟩
    have hzsl : zs.length ≤ 1000 := by have := hup 16; rw [hjoin]; omega
    have hzsb : isByte zs := by rw [hjoin]; exact hupb _
    refine V.sr ?_
    refine EV.run (hcS K w0) 2 [2] (S2 := [(2, outV 5 zs)]) (A2 := hp [r0, r1, pO fo fc zo zc co cc p 0 1, pO fo fc zo zc co cc p 0 1, tblO p, outO zs] g N) rfl (by kernel_rfl) ?_
    refine EV.done rfl ?_
    refine V.ret ?_
    exact EndsH_r hB [outV 5 zs] [0, 1, 64, 64, 64, 2] [0, 1, 5] [r0, r1, outO zs] (outV 2 zs) (by kernel_rfl) (by kernel_rfl) (by kernel_rfl) ⟨.inr ⟨(bl rfl), .inl (hro.obj _).symm⟩, .inr ⟨(bl rfl), .inl (hrc.obj _).symm⟩, .inl (by decide), .inl (by decide), .inl (by decide), .inr ⟨(bl rfl), .inl (renO_outO (tau [0, 1, 64, 64, 64, 2] N) zs).symm⟩, trivial⟩ (ren_outV (tau [0, 1, 64, 64, 64, 2] N) 5 zs) (shut_intro rfl fun τ hτ => ⟨(ren_outV _ _ _).trans (by rw [hτ 2 (by decide)]), .inr (hro.obj _), .inr (hrc.obj _), .inr (renO_outO _ _), trivial⟩) (by rw [hjoin]; exact ⟨rfl, rfl⟩)
end Go.Proofs.Ytioggedadamoaaa
