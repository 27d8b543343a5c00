/- param: the document's one parameter. -/
import Derived.Test.YtioggedadamoaaaTiPh
set_option autoImplicit false
set_option linter.unusedVariables false
set_option linter.unusedSimpArgs false
namespace Go.Proofs.Ytioggedadamoaaa
open Go.Abs Go.RowKit
theorem putB_eq {id : Nat} (h : id < 64) (v : List Int) : putB id v = [(id : Int)] ++ shortOf (v.length : Int) ++ v := by
 have hc : clsN (id : Int) = 0 := by unfold clsN; rw [if_pos (by omega)]
 have h1 : shortOf (id : Int) = [(id : Int)] := by
  unfold shortOf
  rw [hc, if_pos (by decide)]
  show [(id : Int) % 256 + 0] = _
  rw [Int.emod_eq_of_lt (by omega) (by omega)]; simp
 unfold putB encL
 simp only [List.flatMap_cons, List.flatMap_nil, List.append_nil, h1]
set_option maxHeartbeats 4000000 in
theorem f35_fh {rv : AObj} {fv : Nat → Option Addr} {cv : Nat} {zv : List Int} (hrv : RowF rv fv zv cv) (id : Nat) (hid : id < 64) (hsv : zv.length ≤ 100000) : FH Try.prog 35 [rv] [.int .i64 (id : Int), .slice (fv 0) zv.length cv] (fun v s1 => v = outV 1 (putB id zv) ∧ s1 = [rv, outO (putB id zv)]) := by
 rw [putB_eq hid]
 have hwl := wrapLen (n := zv.length) (by omega)
 have hwi : IntKind.wrap .u8 (id : Int) = (id : Int) := wrap_u8 (by omega) (by omega)
 have hsl := shortOf_le (zv.length : Int)
 have hsb := shortOf_byte (zv.length : Int) (by omega)
 have hib : isByte [(id : Int)] := by intro z hz; simp at hz; omega
 refine V.fnh (fn := Try.f35) Try.func35 (by kernel_rfl) rfl rfl fun K w0 g N hB => ?_
 refine V.sr ?_
 refine EV.run (hcS K w0) 1 [0, 1] (S2 := [(0, .int .i64 (id : Int)), (1, .slice (fv 0) zv.length cv)]) (A2 := hp [rv] g N) rfl (by kernel_rfl) ?_
 refine EV.done rfl ?_
 refine V.sr ?_
 refine EV.runS (hcS K w0) 2 [1, 6] (S2 := [(1, .slice (fv 0) zv.length cv), (6, .int .u8 (IntKind.wrap .u8 (id : Int)))]) rfl (by kernel_rfl) ?_
 refine EV.cast (S2 := [(1, .slice (fv 0) zv.length cv), (6, .int .u8 (id : Int))]) (by rw [hwi]) rfl ?_
 refine EV.run (hcS K w0) 6 [1, 7, 10] (S2 := [(1, .slice (fv 0) zv.length cv), (7, .slice (some ⟨1, 0, none⟩) 1 1), (10, .int .u64 (IntKind.wrap .u64 ((zv.length : Nat) : Int)))]) (A2 := hp [rv, .cells [.int .u8 (id : Int)] false false 1] g N) rfl (by kernel_rfl) ?_
 refine EV.cast (S2 := [(1, .slice (fv 0) zv.length cv), (7, .slice (some ⟨1, 0, none⟩) 1 1), (10, .int .u64 (zv.length : Int))]) (by rw [hwl]) rfl ?_
 refine EV.callh (fs := #[]) (vs := [.int .u64 (zv.length : Int)]) (cs := #[]) [] (f16_fh (zv.length : Int) (by omega)) rfl rfl rfl (by kernel_rfl) (by kernel_rfl) (by kernel_rfl) (by kernel_rfl) (argsCons (σ := sigma [] (N + 64)) (a := .int .u64 (zv.length : Int)) (xs := []) rfl rfl).symm (by kernel_rfl) trivial ?_
 rintro v s1 ⟨rfl, rfl⟩
 refine ⟨_, outV 2 (shortOf (zv.length : Int)), ⟨[], [outO (shortOf (zv.length : Int))], [], [outO (shortOf (zv.length : Int))], rfl, by kernel_rfl, trivial, ⟨new_out _ _, trivial⟩, rfl⟩, (ren_outV (sigma1 [] N 0 2) 0 (shortOf (zv.length : Int))).symm, ?_⟩
 refine EV.norm [1, 7, 11] (S2 := [(1, .slice (fv 0) zv.length cv), (7, .slice (some ⟨1, 0, none⟩) 1 1), (11, outV 2 (shortOf (zv.length : Int)))]) (A2 := hp [rv, .cells [.int .u8 (id : Int)] false false 1, outO (shortOf (zv.length : Int))] g N) (by kernel_rfl) (by kernel_rfl) ?_
 refine EV.openB 1 rfl (by kernel_rfl) ?_
 refine EV.norm [1, 7, 11] (S2 := [(1, .slice (fv 0) zv.length cv), (7, outV 1 ([(id : Int)])), (11, outV 2 (shortOf (zv.length : Int)))]) (A2 := hp [rv, outO ([(id : Int)]), outO (shortOf (zv.length : Int))] g N) (by kernel_rfl) (by kernel_rfl) ?_
 refine EV.app (hcS K w0) (zs := [(id : Int)]) (xs := shortOf (zv.length : Int)) 1 12 [1] (S1 := [(1, .slice (fv 0) zv.length cv)]) hB rfl rfl rfl rfl (by kernel_rfl) rfl (by kernel_rfl) (by kernel_rfl) (by kernel_rfl) (fun _ _ _ => rfl) (rowV_own (k := 2) rfl rfl hsb) (hib) (by simp only [List.length_cons, List.length_nil]; omega) rfl (by kernel_rfl) (fun τ hτ => ⟨.inr (hrv.obj _), .inl rfl, .inr (renO_outO _ _), trivial⟩) (by kernel_rfl) (by kernel_rfl) (fun τ hτ => (renS_cons (hrv.rst (hτ 0 (by decide) (by decide) (by show 0 ≠ 3; decide))) rfl)) ?_
 intro g N hB
 refine EV.norm [1, 12] (S2 := [(1, .slice (fv 0) zv.length cv), (12, outV 1 ([(id : Int)] ++ shortOf (zv.length : Int)))]) (A2 := hp [rv, outO ([(id : Int)] ++ shortOf (zv.length : Int)), outO (shortOf (zv.length : Int))] g N) (by kernel_rfl) (by kernel_rfl) ?_
 refine EV.runS (hcS K w0) 9 [12, 13] (S2 := [(12, outV 1 ([(id : Int)] ++ shortOf (zv.length : Int))), (13, .slice (fv 0) zv.length cv)]) rfl (by kernel_rfl) ?_
 refine EV.app (hcS K w0) (zs := ([(id : Int)] ++ shortOf (zv.length : Int))) (xs := zv) 1 14 [] (S1 := []) hB rfl rfl rfl rfl (by kernel_rfl) rfl (by kernel_rfl) (by kernel_rfl) (by kernel_rfl) (fun _ _ _ => rfl) (hrv.row _ 0 rfl (bl rfl)) (byte_app hib hsb) (by simp only [List.length_append, List.length_cons, List.length_nil]; omega) rfl (by kernel_rfl) (fun τ hτ => ⟨.inr (hrv.obj _), .inl rfl, .inr (renO_outO _ _), trivial⟩) (by kernel_rfl) (by kernel_rfl) (fun τ hτ => rfl) ?_
 intro g N hB
 refine EV.norm [14] (S2 := [(14, outV 1 (([(id : Int)] ++ shortOf (zv.length : Int)) ++ zv))]) (A2 := hp [rv, outO (([(id : Int)] ++ shortOf (zv.length : Int)) ++ zv), outO (shortOf (zv.length : Int))] g N) (by kernel_rfl) (by kernel_rfl) ?_
 refine EV.runS (hcS K w0) 11 [4] (S2 := [(4, outV 1 (([(id : Int)] ++ shortOf (zv.length : Int)) ++ zv))]) rfl (by kernel_rfl) ?_
 refine EV.done rfl ?_
 refine V.ret ?_
 exact EndsH_r hB [outV 1 (([(id : Int)] ++ shortOf (zv.length : Int)) ++ zv)] [0, 1, 64] [0, 1] [rv, outO ([(id : Int)] ++ shortOf (zv.length : Int) ++ zv)] (outV 1 ([(id : Int)] ++ shortOf (zv.length : Int) ++ zv)) (by kernel_rfl) (by kernel_rfl) (by kernel_rfl) ⟨.inr ⟨(bl rfl), .inl (hrv.obj _).symm⟩, .inr ⟨(bl rfl), .inl (renO_outO (tau [0, 1, 64] N) ([(id : Int)] ++ shortOf (zv.length : Int) ++ zv)).symm⟩, .inl (by decide), trivial⟩ (ren_outV (tau [0, 1, 64] N) 1 ([(id : Int)] ++ shortOf (zv.length : Int) ++ zv)) (shut_intro rfl fun τ hτ => ⟨(ren_outV _ _ _).trans (by rw [hτ 1 (by decide)]), .inr (hrv.obj _), .inr (renO_outO _ _), trivial⟩) ⟨rfl, rfl⟩
end Go.Proofs.Ytioggedadamoaaa
