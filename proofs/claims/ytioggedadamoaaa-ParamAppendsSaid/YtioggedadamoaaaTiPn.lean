/- param: what comes in. -/
import Derived.Test.YtioggedadamoaaaTiPm
import Derived.Test.YtioggedadamoaaaAbsIn
import Derived.Test.YtioggedadamoaaaAbsO
import Derived.SizedLaws
import Derived.WideShapes
import Derived.ChangeArms
import Derived.ChangeSlices
set_option autoImplicit false
set_option linter.unusedVariables false
set_option linter.unusedSimpArgs false
namespace Go.Abs
open Go.WideShapes Go.RowKit Go.ChangeShapes
def Starts (w : World) (oe : Option Ent) (r : AObj) : Prop :=
  (oe = none ∧ alive r = false) ∨ ∃ e, oe = some e ∧ e.blk < w.heap.size ∧ live r = false ∧ OInv (fun k => k < w.heap.size) (fun _ => none) w e r
def startRho (L : List (Option Ent × AObj)) : Rho := fun b => (L[b]?).bind (·.1)
theorem getO_map {L : List (Option Ent × AObj)} {b : Nat} {x : Option Ent × AObj} (h : L[b]? = some x) : getO (L.map (·.2)) b = x.2 := by
  induction L generalizing b with
  | nil => simp at h
  | cons y L ih =>
    cases b with
    | zero => simp at h; subst h; rfl
    | succ b => simp at h; exact ih h
theorem inv_hp {w : World} {L : List (Option Ent × AObj)} (hL : L.length < 64) (h : ∀ x ∈ L, Starts w x.1 x.2) : Inv (fun k => k < w.heap.size) w (startRho L) (hp (L.map (·.2)) noG 0) w := by
  have hat : ∀ b e, startRho L b = some e → b < L.length ∧ e.blk < w.heap.size ∧ live (getO (L.map (·.2)) b) = false ∧ OInv (fun k => k < w.heap.size) (startRho L) w e (getO (L.map (·.2)) b) := by
    intro b e hb
    unfold startRho at hb
    cases hx : L[b]? with
    | none => rw [hx] at hb; cases hb
    | some x =>
      rw [hx] at hb
      have hb' : x.1 = some e := hb
      have hm : x ∈ L := List.mem_of_getElem? hx
      rw [getO_map hx]
      refine ⟨(List.getElem?_eq_some_iff.1 hx).1, ?_⟩
      rcases h x hm with ⟨q, _⟩ | ⟨e', q, h1, h2, h3⟩
      · rw [q] at hb'; cases hb'
      · rw [q] at hb'
        obtain rfl := Option.some.inj hb'
        exact ⟨h1, h2, OInv.ext (fun b e hb => by cases hb) h3⟩
  refine ⟨Kept.refl _ _, fun _ h => h, ?_, ?_, ?_, ?_, ?_⟩
  · intro b e hb
    obtain ⟨h1, h2, h3, h4⟩ := hat b e hb
    refine ⟨by rw [hp_size]; omega, h2, ?_⟩
    rw [hp_low (by omega)]
    exact h4
  · intro b c e f _ hb _ hl _
    obtain ⟨h1, h2, h3, h4⟩ := hat b e hb
    rw [hp_low (by omega), h3] at hl
    cases hl
  · intro b hb
    rw [hp_size] at hb
    unfold startRho
    rw [List.getElem?_eq_none (by omega)]
    rfl
  · intro r hr
    have hr' : (L.map (·.2)).length = r := Option.some.inj hr
    rw [List.length_map] at hr'
    subst hr'
    refine ⟨by rw [hp_size]; omega, ?_, ?_⟩
    · rw [hp_low hL]; exact getO_ge _ _ (by simp)
    · intro j h1 h2
      have h2' : j < 64 := h2
      refine ⟨by rw [hp_size]; omega, ?_⟩
      rw [hp_low h2']
      exact getO_ge _ _ (by simp; omega)
  · intro b hb ha
    rw [hp_size] at hb
    rw [hp_low (by omega)] at ha
    cases hx : L[b]? with
    | none =>
      rw [getO_ge _ _ (by have := List.getElem?_eq_none_iff.1 hx; simpa using this)] at ha
      cases ha
    | some x =>
      rw [getO_map hx] at ha
      rcases h x (List.mem_of_getElem? hx) with ⟨_, q⟩ | ⟨e', q, _⟩
      · rw [q] at ha; cases ha
      · exact ⟨e', by unfold startRho; rw [hx]; exact q⟩
theorem start_k {w : World} {x : Addr} {k : IntKind} {zs : List Int} (hx : x.spot = none) {c : Array Value} {t : TypeId} {fr : Nat × Nat} (hh : w.heap[x.block]? = some (.cells c t fr)) (ho : x.off ≤ c.size) (hlt : x.block < w.heap.size)
    (hc : ∀ i, i < zs.length → w.cell? (x.add i) = some (.int k (zs.getD i 0))) : Starts w (some ⟨x.block, x.off, (cellsK k zs).length, 0, 1⟩) (.cells (cellsK k zs) true false 1) := by
  obtain ⟨h1, h2⟩ := row_cells_k hx hh ho hc
  refine .inr ⟨_, rfl, hlt, rfl, rfl, rfl, fun _ => rfl, fun _ => .inr hlt, oneCells_k k zs, c, t, fr, _, hh, by simpa using h2, rfl, ?_, by simp⟩
  rw [h1]
  exact (VRL.ground _ (groundL_k k zs) _).2 rfl
theorem bytes_start {w : World} {a : Option Addr} {len cap : Nat} {zs : List Int} (h : CameIn .u8 w a len cap zs) (hx : LiesAt (fun k => k < w.heap.size) w a) :
    ∃ (oe : Option Ent) (r : AObj) (f : Nat → Option Addr) (z : List Int), Starts w oe r ∧ RowF r f z cap ∧ z.length = len ∧ z = zs.take len ∧ ∀ (ρ : Rho) (b : Nat), ρ b = oe → VR ρ (.slice (f b) len cap) (.slice a len cap) := by
  rcases h with ⟨rfl, rfl, rfl, rfl⟩ | ⟨x, rfl, hl, hm, hz, hc, hw⟩
  · exact ⟨none, .resv, fun _ => none, [], .inl ⟨rfl, rfl⟩, rowF_nil, rfl, rfl, fun ρ b _ => rfl⟩
  · obtain ⟨h1, h2, c, t, fr, h3, h4⟩ := hx x rfl
    have ht : (zs.take len).length = len := by simp; omega
    have hr := rowF_some (all := zs) (n := len) (by omega) (fun z hz => byte_wf (hw z hz)) false
    rw [hz] at hr
    refine ⟨_, _, _, _, start_k h1 h3 h4 h2 hc, hr, ht, rfl, fun ρ b hb => ?_⟩
    refine ⟨rfl, _, hb, ?_⟩
    cases x
    simp_all
theorem cell_int {P : Program} {w : World} {r : Reach} {base : Nat} {t : TypeId} {k : IntKind} (hu : P.underlying t = some (.int k)) {v : Value} (h : Cell.okWide P w r base t v) : ∃ n, v = .int k n ∧ k.has n := by
  simp only [Cell.okWide, hu, Cell.ok] at h
  cases v <;> simp_all
theorem cell_bool {P : Program} {w : World} {r : Reach} {base : Nat} {t : TypeId} (hu : P.underlying t = some .bool) {v : Value} (h : Cell.okWide P w r base t v) : ∃ b, v = .bool b := by
  simp only [Cell.okWide, hu, Cell.ok] at h
  cases v <;> simp_all
theorem cell_slice {P : Program} {w : World} {r : Reach} {base : Nat} {t e : TypeId} (hu : P.underlying t = some (.slice e)) {v : Value} (h : Cell.okWide P w r base t v) :
    ∃ a len cap, v = .slice a len cap ∧ LiesAt (fun k => k < w.heap.size) w a := by
  have hv : Value.okWide P w r base t v := by simp only [Value.okWide, hu]; exact h
  obtain ⟨a, len, cap, rfl⟩ := okWide_slice hu hv
  refine ⟨a, len, cap, rfl, fun x hx => ?_⟩
  subst hx
  obtain ⟨_, g1, g2⟩ := okWide_slice_has hu hv
  exact ⟨g1, (Array.getElem?_eq_some_iff.1 g2.choose_spec.choose_spec.choose_spec.1).1, g2⟩
theorem trod_in {H : Type} {enc : TypeId × Value → H} {P : Program} {w : World} {t e : TypeId} {k : IntKind} (hu : P.underlying t = some (.slice e)) (he : P.underlying e = some (.int k)) (hc1 : P.cellsOf e = 1) {fuel : Nat} {a : Option Addr} {len cap : Nat} {x : DataW H × List MemPlace}
    (h : DataW.trod enc P w 0 (fun _ => true) true fuel t [.slice a len cap] = some x) : ∃ zs, CameIn k w a len cap zs ∧ ((∀ n ∈ x.1.weights P t, n ≤ reachBytes) → 1 ≤ P.bytesOf e → len ≤ reachBytes) := by
  rcases open_ints hu he hc1 h with ⟨hcs, _⟩ | ⟨x, l, c, zs, hcs, _, hl, hm, hz, hx, hcell, hwz⟩
  · simp at hcs
    obtain ⟨rfl, rfl, rfl⟩ := hcs
    exact ⟨[], .inl ⟨rfl, rfl, rfl, rfl⟩, fun _ _ => Nat.zero_le _⟩
  · simp at hcs
    obtain ⟨rfl, rfl, rfl⟩ := hcs
    have hz' : zs.length = cap := by simpa using hz
    refine ⟨zs, .inr ⟨_, rfl, hl, hm, hz', hcell, hwz⟩, fun hw hb => ?_⟩
    have h1 := hw ((zs.take len).length + (zs.drop len).length |> (· * P.bytesOf e)) (by rw [hx]; simp [DataW.weights, hu, ChangeShapes.lits])
    have h2 : (zs.take len).length + (zs.drop len).length = cap := by simp; omega
    have h3 : cap * P.bytesOf e ≤ reachBytes := by rw [← h2]; exact h1
    have h4 : cap * 1 ≤ cap * P.bytesOf e := Nat.mul_le_mul_left _ hb
    omega
end Go.Abs
namespace Go.Proofs.Ytioggedadamoaaa
open Go.Abs Go.RowKit Go.WideShapes
theorem types46 : Try.prog.cellTypes Try.prog.depth 46 = some [22, 22, 24, 24, 24, 24, 24, 24, 24, 24, 24, 4, 5, 5, 5, 5, 5, 5, 5, 5, 5, 5, 5, 5, 5, 5, 5, 5] := by kernel_rfl
theorem cells46 : Try.prog.cellsOf 46 = 28 := by kernel_rfl
theorem bytes5 : 1 ≤ Try.prog.bytesOf 5 := by decide +kernel
theorem weight_in {H : Type} {ts : List TypeId} {ds : List (DataW H)} (h : ∀ n ∈ DataW.weightsEach Try.prog ts ds, n ≤ reachBytes) {j : Nat} {t : TypeId} {d : DataW H} (ht : ts[j]? = some t) (hd : ds[j]? = some d) : ∀ n ∈ d.weights Try.prog t, n ≤ reachBytes :=
  fun n hn => h n (DataW.weights_mem_each ht hd n hn)
theorem param_in {H : Type} {enc : TypeId × Value → H} {w : World} {r : Reach} {base : Nat} {v : Value} {d : DataW H} {ps : List MemPlace} (hv : Value.okWide Try.prog w r base 46 v) (hd : DataW.Trod enc Try.prog w 0 (fun _ => true) true 46 v d ps) (hw : ∀ n ∈ d.weights Try.prog 46, n ≤ reachBytes) :
    ∃ (p : PN) (ao ac : Option Addr) (lo co lc cc : Nat) (zo zc : List Int), v = .agg (pcl (.slice ao lo co) (.slice ac lc cc) p).toArray ∧ p.Ok ∧ CameIn .u8 w ao lo co zo ∧ CameIn .u8 w ac lc cc zc ∧
      LiesAt (fun k => k < w.heap.size) w ao ∧ LiesAt (fun k => k < w.heap.size) w ac ∧ lo ≤ reachBytes ∧ lc ≤ reachBytes := by
  have hu : Try.prog.underlying 46 = _ := Try.underlying46
  simp only [Value.okWide, hu] at hv
  obtain ⟨cs, rfl, hsz, ts, hts, _, hcell⟩ := hv
  rw [types46] at hts
  obtain rfl := Option.some.inj hts
  rw [cells46] at hsz
  obtain ⟨l⟩ := cs
  match l, hsz with
  | [c0, c1, c2, c3, c4, c5, c6, c7, c8, c9, c10, c11, c12, c13, c14, c15, c16, c17, c18, c19, c20, c21, c22, c23, c24, c25, c26, c27], _ =>
    have hc : ∀ (i : Nat) (v : Value) (t : TypeId), [c0, c1, c2, c3, c4, c5, c6, c7, c8, c9, c10, c11, c12, c13, c14, c15, c16, c17, c18, c19, c20, c21, c22, c23, c24, c25, c26, c27][i]? = some v → [22, 22, 24, 24, 24, 24, 24, 24, 24, 24, 24, 4, 5, 5, 5, 5, 5, 5, 5, 5, 5, 5, 5, 5, 5, 5, 5, 5][i % 28]? = some t → Cell.okWide Try.prog w r base t v := by
      intro i v t h1 h2
      obtain ⟨u, k1, k2⟩ := hcell i v (by simpa using h1)
      have : t = u := Option.some.inj (h2.symm.trans k1)
      rw [this]; exact k2
    obtain ⟨ao, lo, co, rfl, xo⟩ := cell_slice Try.underlying22 (hc 0 _ 22 rfl rfl)
    obtain ⟨ac, lc, cc, rfl, xc⟩ := cell_slice Try.underlying22 (hc 1 _ 22 rfl rfl)
    obtain ⟨i1, rfl, n1⟩ := cell_int Try.underlying24 (hc 2 _ 24 rfl rfl)
    obtain ⟨i4, rfl, n4⟩ := cell_int Try.underlying24 (hc 3 _ 24 rfl rfl)
    obtain ⟨i5, rfl, n5⟩ := cell_int Try.underlying24 (hc 4 _ 24 rfl rfl)
    obtain ⟨i6, rfl, n6⟩ := cell_int Try.underlying24 (hc 5 _ 24 rfl rfl)
    obtain ⟨i7, rfl, n7⟩ := cell_int Try.underlying24 (hc 6 _ 24 rfl rfl)
    obtain ⟨i8, rfl, n8⟩ := cell_int Try.underlying24 (hc 7 _ 24 rfl rfl)
    obtain ⟨i9, rfl, n9⟩ := cell_int Try.underlying24 (hc 8 _ 24 rfl rfl)
    obtain ⟨i11, rfl, n11⟩ := cell_int Try.underlying24 (hc 9 _ 24 rfl rfl)
    obtain ⟨i14, rfl, n14⟩ := cell_int Try.underlying24 (hc 10 _ 24 rfl rfl)
    obtain ⟨ht, rfl⟩ := cell_bool Try.underlying4 (hc 11 _ 4 rfl rfl)
    obtain ⟨t0, rfl, m0⟩ := cell_int Try.underlying5 (hc 12 _ 5 rfl rfl)
    obtain ⟨t1, rfl, m1⟩ := cell_int Try.underlying5 (hc 13 _ 5 rfl rfl)
    obtain ⟨t2, rfl, m2⟩ := cell_int Try.underlying5 (hc 14 _ 5 rfl rfl)
    obtain ⟨t3, rfl, m3⟩ := cell_int Try.underlying5 (hc 15 _ 5 rfl rfl)
    obtain ⟨t4, rfl, m4⟩ := cell_int Try.underlying5 (hc 16 _ 5 rfl rfl)
    obtain ⟨t5, rfl, m5⟩ := cell_int Try.underlying5 (hc 17 _ 5 rfl rfl)
    obtain ⟨t6, rfl, m6⟩ := cell_int Try.underlying5 (hc 18 _ 5 rfl rfl)
    obtain ⟨t7, rfl, m7⟩ := cell_int Try.underlying5 (hc 19 _ 5 rfl rfl)
    obtain ⟨t8, rfl, m8⟩ := cell_int Try.underlying5 (hc 20 _ 5 rfl rfl)
    obtain ⟨t9, rfl, m9⟩ := cell_int Try.underlying5 (hc 21 _ 5 rfl rfl)
    obtain ⟨t10, rfl, m10⟩ := cell_int Try.underlying5 (hc 22 _ 5 rfl rfl)
    obtain ⟨t11, rfl, m11⟩ := cell_int Try.underlying5 (hc 23 _ 5 rfl rfl)
    obtain ⟨t12, rfl, m12⟩ := cell_int Try.underlying5 (hc 24 _ 5 rfl rfl)
    obtain ⟨t13, rfl, m13⟩ := cell_int Try.underlying5 (hc 25 _ 5 rfl rfl)
    obtain ⟨t14, rfl, m14⟩ := cell_int Try.underlying5 (hc 26 _ 5 rfl rfl)
    obtain ⟨t15, rfl, m15⟩ := cell_int Try.underlying5 (hc 27 _ 5 rfl rfl)
    obtain ⟨fuel, hf⟩ := hd
    obtain ⟨xs, n, _, hx, _, _, hf⟩ := DataW.trod_struct hu hf
    have g0 := hf 0 _ rfl
    have g1 := hf 1 _ rfl
    cases h0 : xs[0]? with
    | none =>
      rename_i hlen
      have := List.getElem?_eq_none_iff.1 h0
      simp at hlen
      omega
    | some y0 =>
    cases h1 : xs[1]? with
    | none =>
      rename_i hlen
      have := List.getElem?_eq_none_iff.1 h1
      simp at hlen
      omega
    | some y1 =>
    rw [h0] at g0
    rw [h1] at g1
    obtain ⟨zo, hzo, wo⟩ := trod_in Try.underlying22 Try.underlying5 (by kernel_rfl) (show DataW.trod enc Try.prog w 0 (fun _ => true) true n 22 [.slice ao lo co] = some y0 from g0)
    obtain ⟨zc, hzc, wc⟩ := trod_in Try.underlying22 Try.underlying5 (by kernel_rfl) (show DataW.trod enc Try.prog w 0 (fun _ => true) true n 22 [.slice ac lc cc] = some y1 from g1)
    have hd : d = .agg (xs.map (·.1)) := (Prod.mk.inj hx).1
    rw [hd] at hw
    simp only [DataW.weights, hu] at hw
    refine ⟨⟨i1, i4, i5, i6, i7, i8, i9, i11, i14, ht, t0, t1, t2, t3, t4, t5, t6, t7, t8, t9, t10, t11, t12, t13, t14, t15⟩, ao, ac, lo, co, lc, cc, zo, zc, rfl, ⟨?_, ?_⟩, hzo, hzc, xo, xc, wo (weight_in hw (j := 0) rfl (by simp [h0])) bytes5, wc (weight_in hw (j := 1) rfl (by simp [h1])) bytes5⟩
    · have key : ∀ {n : Int}, IntKind.u64.has n → 0 ≤ n ∧ n < 18446744073709551616 := by
        intro n h
        simp [IntKind.has, IntKind.min, IntKind.max, IntKind.signed, IntKind.bits] at h
        omega
      intro j
      unfold PN.num
      split
      · exact key n1
      · exact key n4
      · exact key n5
      · exact key n6
      · exact key n7
      · exact key n8
      · exact key n9
      · exact key n11
      · exact key n14
      · exact ⟨Int.le_refl _, by decide⟩
    · have key : ∀ {n : Int}, IntKind.u8.has n → 0 ≤ n ∧ n < 256 := by
        intro n h
        simp [IntKind.has, IntKind.min, IntKind.max, IntKind.signed, IntKind.bits] at h
        omega
      intro z hz
      simp only [PN.tok, List.mem_cons, List.not_mem_nil, or_false] at hz
      rcases hz with rfl | rfl | rfl | rfl | rfl | rfl | rfl | rfl | rfl | rfl | rfl | rfl | rfl | rfl | rfl | rfl
      · exact key m0
      · exact key m1
      · exact key m2
      · exact key m3
      · exact key m4
      · exact key m5
      · exact key m6
      · exact key m7
      · exact key m8
      · exact key m9
      · exact key m10
      · exact key m11
      · exact key m12
      · exact key m13
      · exact key m14
      · exact key m15
end Go.Proofs.Ytioggedadamoaaa
