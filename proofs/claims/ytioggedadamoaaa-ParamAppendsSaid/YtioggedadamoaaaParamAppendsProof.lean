/- ParamAppends: the statement of the row, for every input that the row lets in. No condition. The walk goes over an abstract machine (Abs..), which is proved to tell what the model does. -/
import Derived.Test.YtioggedadamoaaaRows
import Derived.WalkKit
import Derived.ProofKit
import Derived.OpenShut
import Derived.ShutString
import Derived.ChangeOld
import Derived.Below
import Derived.SizedLaws
import Derived.Test.YtioggedadamoaaaTiPn
namespace Go.Proofs.Ytioggedadamoaaa.paramAppends
open Go.ChangeShapes Go.WideShapes Go.ChangeAt Go.RowKit
open Go.ChangeMaps (open_string shut_string)
set_option linter.unusedVariables false

theorem own : ownKnob Try.prog.godebug = none := by kernel_rfl
theorem laidOut : laidOutB Try.prog = true := by kernel_rfl

set_option maxRecDepth 100000 in
set_option maxHeartbeats 2000000 in
theorem walk (a0 : Option Addr) (len0 cap0 : Nat) (z0 : List Int) (p : PN) (ao ac : Option Addr) (lo co lc cc : Nat) (zo zc : List Int) (w : World) (w0 : Go.Abs.CameIn .u8 w a0 len0 cap0 z0) (x0 : Go.Abs.LiesAt (fun k => k < w.heap.size) w a0) (wo : Go.Abs.CameIn .u8 w ao lo co zo) (xo : Go.Abs.LiesAt (fun k => k < w.heap.size) w ao)
    (wc : Go.Abs.CameIn .u8 w ac lc cc zc) (xc : Go.Abs.LiesAt (fun k => k < w.heap.size) w ac) (hp : p.Ok) (h0 : len0 ≤ reachBytes) (ho : lo ≤ reachBytes) (hc : lc ≤ reachBytes) :
    Calls Try.prog 6 #[.slice a0 len0 cap0, .agg (pcl (.slice ao lo co) (.slice ac lc cc) p).toArray] w fun e w' => e = .returned (.bool true) ∧ Below w.heap.size w w' := by
  obtain ⟨e0, r0, f0, y0, s0, R0, l0, _, v0⟩ := Go.Abs.bytes_start w0 x0
  obtain ⟨eo, ro, fo, yo, so, Ro, ll, _, vo⟩ := Go.Abs.bytes_start wo xo
  obtain ⟨ec, rc, fc, yc, sc, Rc, lc', _, vc⟩ := Go.Abs.bytes_start wc xc
  have hr : reachBytes < 2 ^ 47 := reachBytes_lt
  have hlen : y0.length + yo.length + yc.length < 4611686018427387904 := by omega
  have hI := Go.Abs.inv_hp (w := w) (L := [(e0, r0), (eo, ro), (ec, rc)]) (Nat.le_of_ble_eq_true rfl) (by
    intro x hx
    simp only [List.mem_cons, List.not_mem_nil, or_false] at hx
    rcases hx with rfl | rfl | rfl
    · exact s0
    · exact so
    · exact sc)
  have hF : Go.Abs.FH Try.prog 6 [r0, ro, rc] [.slice (f0 0) y0.length cap0, .agg (pcl (.slice (fo 1) yo.length co) (.slice (fc 2) yc.length cc) p).toArray] (fun v s1 => v = .bool true ∧ s1 = [r0, ro, rc]) := by
    cases hm : mayP yo yc p with
    | true => exact f6_ok R0 Ro Rc p hp hlen hm
    | false => exact f6_bad R0 Ro Rc p hp hlen hm
  subst l0 ll lc'
  refine (hF.2 _ w _ w [.slice a0 y0.length cap0, .agg (pcl (.slice ao yo.length co) (.slice ac yc.length cc) p).toArray] hI ?_).mono ?_
  · refine ⟨_, _, rfl, v0 _ 0 rfl, _, _, rfl, ⟨_, ?_, rfl⟩, rfl⟩
    refine ⟨_, _, rfl, vo _ 1 rfl, _, _, rfl, vc _ 2 rfl, ?_⟩
    exact (Go.Abs.VRL.ground _ rfl _).2 rfl
  · rintro e w1 ⟨v, H1, ρ1, v', ⟨s1, rfl, rfl, rfl⟩, rfl, _, hI1, hv⟩
    obtain rfl := (Go.Abs.VR.ground _ rfl _).1 hv
    exact ⟨rfl, hI1.below.toBelow⟩

/-! ### THE ROW's STEP -/
set_option maxRecDepth 100000 in
theorem lifted (os : Os) (started : os.Started) (H : Type) (enc : TypeId × Value → H) :
    ReturnsInHanded {} Try.checked os 6 .any (Rows.paramAppendsSpec.pre6 enc Try.prog Try.f6 Rows.paramAppendsRow.domain false) (Rows.paramAppendsSpec.post enc Try.prog Try.f6 false true false false) := by
  refine returnsInHanded_of_change_sized (C := Try.checked) own started (by kernel_rfl) Try.func6
    (ChangeSpec.witness6 (enc := enc) (C := Try.checked) false ⟨#[], #[.slice none 0 0, .agg (pcl (.slice none 0 0) (.slice none 0 0) ⟨0, 0, 0, 0, 0, 0, 0, 0, 0, false, 0, 0, 0, 0, 0, 0, 0, 0, 0, 0, 0, 0, 0, 0, 0, 0⟩).toArray], []⟩ 8 (by kernel_rfl) (by kernel_rfl) (by kernel_rfl) (by kernel_rfl)) ?_
  intro W base args ds gs before hval0 hW hcnd hsz _
  have hval : ∀ (j : Nat) t v, Try.f6.params[j]? = some t → args[j]? = some v → Value.okWide Try.prog W .any base t v := hval0
  have hW' := hW
  obtain ⟨p, q, hA0, hV, rfl, hfz, hnd⟩ := hW
  have hA : DataW.TrodAll enc Try.prog W 0 (fun _ => true) true Try.f6.params.toList args.toList ds p := hA0
  have hsz' : (DataW.weightsEach Try.prog (Try.f6.params.toList ++ Rows.paramAppendsSpec.plain.varTypes Try.prog) (ds ++ gs)).all (· ≤ reachBytes) = true := hsz
  rw [Try.params6] at hA hval hsz'
  obtain ⟨v0, vs0, d0, ds0, p0, q0, hargs, rfl, rfl, h0, r0⟩ := trodAll_cons hA
  obtain ⟨v1, vs1, d1, ds1, p1, q1, rfl, rfl, rfl, h1, r1⟩ := trodAll_cons r0
  obtain ⟨rfl, rfl, rfl⟩ := trodAll_nil r1
  obtain rfl : args = #[v0, v1] := by cases args; simp_all
  obtain ⟨rfl, rfl⟩ := trodVars_none hV
  have hwt : ∀ n ∈ DataW.weightsEach Try.prog [22, 46] [d0, d1], n ≤ reachBytes := fun n hn => of_decide_eq_true (List.all_eq_true.1 hsz' n (by simpa [DataW.weightsEach] using hn))
  obtain ⟨a0, len0, cap0, rfl⟩ := okWide_slice Try.underlying22 (hval 0 22 v0 rfl rfl)
  have k0 := h0
  have lt0 : ∀ x ∈ p0, x.block < W.heap.size := by obtain ⟨m, hm⟩ := k0; exact DataW.trod_lt m _ _ _ hm
  have x0 : Go.Abs.LiesAt (fun k => k < W.heap.size) W a0 := fun x hx => by
    subst hx
    obtain ⟨_, g1, g2⟩ := Go.Abs.okWide_slice_has Try.underlying22 (hval 0 22 _ rfl rfl)
    exact ⟨g1, (Array.getElem?_eq_some_iff.1 g2.choose_spec.choose_spec.choose_spec.1).1, g2⟩
  obtain ⟨z0, w0, b0⟩ : ∃ zs, Go.Abs.CameIn .u8 W a0 len0 cap0 zs ∧ len0 ≤ reachBytes := by
    obtain ⟨fuel, hf⟩ := h0
    obtain ⟨zs, hz, hb⟩ := Go.Abs.trod_in Try.underlying22 Try.underlying5 (by kernel_rfl) (show DataW.trod enc Try.prog W 0 (fun _ => true) true fuel 22 [.slice a0 len0 cap0] = some (d0, p0) from hf)
    exact ⟨zs, hz, hb (weight_in hwt (j := 0) rfl rfl) bytes5⟩
  have k1 := h1
  have lt1 : ∀ x ∈ p1, x.block < W.heap.size := by obtain ⟨m, hm⟩ := k1; exact DataW.trod_lt m _ _ _ hm
  obtain ⟨pn, ao, ac, lo, co, lc, cc, zo, zc, rfl, hp, wo, wc, xo, xc, bo, bc⟩ := param_in (hval 1 46 v1 rfl rfl) h1 (weight_in hwt (j := 1) rfl rfl)
  clear hA0 hval0
  refine (walk a0 len0 cap0 z0 pn ao ac lo co lc cc zo zc W w0 x0 wo xo wc xc hp b0 bo bc).mono fun e W' ⟨he, bel⟩ => ?_
  subst he
  exact ⟨_, rfl, _, _, _, [], _, [], hW', trodAll_mk1 (shut_bool Try.underlying4 _), (trodAll_cons_mk (Below.trod laidOut (by kernel_rfl) (of_decide_eq_true (by kernel_rfl)) k0 bel lt0) (trodAll_cons_mk (Below.trod laidOut (by kernel_rfl) (of_decide_eq_true (by kernel_rfl)) k1 bel lt1) trodAll_mk0)), rfl, bel.frame _, fun h => by cases h⟩

theorem over : Rows.paramAppendsRow.holds Try.pinned (OpenSpec.ofChange Rows.paramAppendsSpec) :=
  OpenClaim.holds_of_wide 6 Try.f6 rfl rfl rfl rfl rfl rfl rfl ⟨rfl, rfl, rfl, rfl, rfl⟩ rfl rfl rfl rfl rfl (by kernel_rfl) Try.func6 (by kernel_rfl)
    (of_decide_eq_true (by kernel_rfl)) (by unfold Func.isWrapper; first | (rw [if_pos (by decide +kernel)]; kernel_rfl) | (rw [if_neg (by decide +kernel)]; exact ⟨rfl, rfl⟩))
    (fun os started H enc _ => lifted os started H enc)

/-- ████ THE STATEMENT ████ -/
theorem proved : Rows.ParamAppendsSaid := over
#print axioms proved
end Go.Proofs.Ytioggedadamoaaa.paramAppends
