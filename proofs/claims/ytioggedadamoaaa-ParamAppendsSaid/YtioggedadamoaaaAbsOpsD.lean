/- make, len, slices of arrays, append, copy, clear. -/
import Derived.Test.YtioggedadamoaaaAbsOpsC
import Derived.IntWalk
set_option autoImplicit false
set_option linter.unusedVariables false
set_option linter.unusedSimpArgs false
namespace Go.Abs
open Go.RowKit
theorem wrap_small {n : Nat} (h : n ≤ 1073741824) : IntKind.i64.wrap (n : Int) = (n : Int) := by
  exact IntWalk.i64_in _ (by omega)
section
variable {P : Program} {B : Nat → Prop} {w0 : World} {ρ : Rho} {A : AW} {w : World}
theorem sv_makeSlice (h : Inv B w0 ρ A w) {t : TypeId} {vl vl' vc vc' u : Value} (hl : VR ρ vl vl') (hc : VR ρ vc vc') {A1 : AW} (e : amakeSlice P t vl vc A = some (u, A1)) :
    SV P B w0 ρ w (Instr.makeSlice t vl' vc') u A1 := by
  unfold amakeSlice at e
  cases vl <;> try (simp at e; done)
  rename_i k1 nl
  cases nl with
  | negSucc n => simp at e
  | ofNat l =>
  cases vc <;> try (simp at e; done)
  rename_i k2 nc
  cases nc with
  | negSucc n => simp at e
  | ofNat c =>
  simp only [VR] at hl hc
  subst hl
  subst hc
  simp only at e
  cases hu : prun P (underlying t) with
  | none => rw [hu] at e; simp at e
  | some d =>
  rw [hu] at e
  cases d <;> try (simp at e; done)
  rename_i elem
  simp only at e
  cases hi : prun P (typeInfo elem) with
  | none => rw [hi] at e; simp at e
  | some info =>
  cases hs : prun P (sizeOf elem) with
  | none => rw [hi, hs] at e; simp at e
  | some size =>
  cases hz : prun P (zeroValue elem) with
  | none => rw [hi, hs, hz] at e; simp at e
  | some z =>
  rw [hi, hs, hz] at e
  simp only at e
  cases hb : (Nat.ble l c && Nat.ble c 1073741824 && Nat.ble info.bytes 4096 && groundA z.cells && Nat.ble 1 z.cells.size) with
  | false => rw [hb] at e; simp at e
  | true =>
  rw [hb] at e
  simp only [cond_true] at e
  simp only [Bool.and_eq_true] at hb
  obtain ⟨⟨⟨⟨b1, b2⟩, b3⟩, b4⟩, b5⟩ := hb
  have b1 : l ≤ c := Nat.le_of_ble_eq_true b1
  have b2 : c ≤ 1073741824 := Nat.le_of_ble_eq_true b2
  have b3 : info.bytes ≤ 4096 := Nat.le_of_ble_eq_true b3
  cases hn : A.newRow ((List.range (c * size)).map (fun i => z.cells[i % z.cells.size]!)) with
  | none => rw [hn] at e; simp at e
  | some x =>
  obtain ⟨a, A2⟩ := x
  rw [hn] at e
  simp only [Option.some.injEq, Prod.mk.injEq] at e
  obtain ⟨rfl, rfl⟩ := e
  have hg0 := ground_zeros b4 (c * size)
  obtain ⟨ρ1, w1, a', r1, r2, r3, r4, f, hf1, hf2, hf3⟩ := sv_newRow (P := P) h ((VRL.ground _ hg0 _).2 rfl) hn elem
  refine ⟨ρ1, w1, .slice (some a') l c, ?_, r2, r3, ?_⟩
  · unfold Instr.makeSlice
    simp only [asInt, asIntOf, bind_assoc, pure_bind]
    rw [run_prun_bind hu]
    simp only
    rw [run_prun_bind hi]
    have wl : IntKind.i64.wrap (Int.ofNat l) = (l : Int) := wrap_small (by omega)
    have wc : IntKind.i64.wrap (Int.ofNat c) = (c : Int) := wrap_small b2
    have hprod : (info.bytes : Int) * (c : Int) ≤ ((4096 * 1073741824 : Nat) : Int) := by
      have h1 : info.bytes * c ≤ 4096 * 1073741824 := Nat.mul_le_mul b3 b2
      have h2 := Int.ofNat_le.mpr h1
      rwa [Int.natCast_mul] at h2
    rw [wl, wc]
    have n1 : decide ((c : Int) < 0) = false := decide_eq_false (by omega)
    have n2 : decide ((info.bytes : Int) * (c : Int) > 2 ^ 48) = false := decide_eq_false (by
      have : (2 : Int) ^ 48 = 281474976710656 := by decide
      rw [this]; omega)
    have n3 : decide ((l : Int) < 0) = false := decide_eq_false (by omega)
    have n4 : decide ((l : Int) > (c : Int)) = false := decide_eq_false (by omega)
    rw [n1, n2, n3, n4]
    rw [if_neg (by decide)]
    show Sem.run P (askRoom (Int.toNat (c : Int) * info.bytes) >>= _) w = _
    simp only [Sem.run_bind, run_askRoom, Result.andThen_ok]
    rw [show (Int.toNat (c : Int)) = c from by simp]
    rw [prun_run w _ hs]
    simp only [Result.andThen_ok]
    have r1' : (newRow elem ((Array.range (c * size)).map (fun i => z.cells[i % z.cells.size]!))).run P w = .ok a' w1 := by rw [zeros_arr]; exact r1
    by_cases h0 : c * size = 0
    · rw [if_pos h0]
      have : ((Array.range (c * size)).map (fun i => (#[] : Array Value)[i % (#[] : Array Value).size]!)) = ((Array.range (c * size)).map (fun i => z.cells[i % z.cells.size]!)) := by rw [h0]; simp
      rw [this, Sem.run_bind, r1']
      simp
    · rw [if_neg h0]
      simp only [Sem.run_bind, prun_run w _ hz, Result.andThen_ok, Sem.run_pure]
      rw [r1']
      simp
  · obtain ⟨q1, f', q2, q3⟩ := r4
    refine ⟨q1, f', q2, ?_⟩
    rw [hf1] at q2
    obtain rfl := Option.some.inj q2
    subst q3
    congr 1
    split <;> omega
theorem sv_len (h : Inv B w0 ρ A w) {argTypes : Array TypeId} {ty : TypeId} {x x' u : Value} (hx : VR ρ x x') (ok : lenOk P argTypes[0]? x = true) (e : alen A x = some u) :
    SV P B w0 ρ w (Builtin.len_ argTypes ty #[x']) u A := by
  unfold lenOk at ok
  cases ht : argTypes[0]? with
  | none => rw [ht] at ok; simp at ok
  | some t =>
    rw [ht] at ok
    simp only at ok
    cases hu : prun P (underlying t) with
    | none => rw [hu] at ok; simp at ok
    | some d =>
      rw [hu] at ok
      cases x <;> cases d <;> try (simp at ok; done)
      case string.string s =>
        simp only [VR] at hx
        subst hx
        simp only [alen, Option.some.injEq] at e
        subst e
        exact ⟨ρ, w, _, by unfold Builtin.len_; simp only [ht]; show Sem.run P (underlying t >>= _) w = _; rw [run_prun_bind hu]; rfl, Ext.refl _, h, by simp [goInt, VR]⟩
      case slice.slice a n c el =>
        simp only [alen, Option.some.injEq] at e
        subst e
        cases a with
        | none =>
          simp only [VR] at hx
          subst hx
          exact ⟨ρ, w, _, by unfold Builtin.len_; simp only [ht]; show Sem.run P (underlying t >>= _) w = _; rw [run_prun_bind hu]; rfl, Ext.refl _, h, by simp [goInt, VR]⟩
        | some a =>
          obtain ⟨_, f, hf, rfl⟩ := hx
          exact ⟨ρ, w, _, by unfold Builtin.len_; simp only [ht]; show Sem.run P (underlying t >>= _) w = _; rw [run_prun_bind hu]; rfl, Ext.refl _, h, by simp [goInt, VR]⟩
      case map.map r k el =>
        cases r with
        | none =>
          simp only [VR] at hx
          subst hx
          simp only [alen, Option.some.injEq] at e
          subst e
          exact ⟨ρ, w, _, by unfold Builtin.len_; simp only [ht]; show Sem.run P (underlying t >>= _) w = _; rw [run_prun_bind hu]; rfl, Ext.refl _, h, by simp [goInt, VR]⟩
        | some r =>
          obtain ⟨f, hf, rfl⟩ := hx
          simp only [alen] at e
          obtain ⟨_, _, ho⟩ := h.at_ _ _ hf
          cases hg : A.get r with
          | dead => rw [hg] at e; simp at e
          | resv => rw [hg] at e; simp at e
          | cells => rw [hg] at e; simp at e
          | map es clock =>
            rw [hg] at e ho
            simp only [Option.some.injEq] at e
            subst e
            obtain ⟨_, es', h1, h2⟩ := ho
            refine ⟨ρ, w, goInt es'.size, ?_, Ext.refl _, h, ?_⟩
            · unfold Builtin.len_
              simp only [ht]
              show Sem.run P (underlying t >>= _) w = _
              rw [run_prun_bind hu]
              show Sem.run P (getObj f.blk >>= _) w = _
              rw [Sem.run_bind]
              simp only [getObj, Sem.run, h1, Result.andThen_ok]
              rfl
            · have hl : ∀ {l l' : List MapEntry}, entsRel ρ l l' → l'.length = l.length := by
                intro l
                induction l with
                | nil => intro l' hl; simp only [entsRel] at hl; simp [hl]
                | cons x l ih => intro l' hl; obtain ⟨y, r, rfl, _, _, _, _, hr⟩ := hl; simp [ih hr]
              have := hl h2
              have h3 : es'.size = es.length := by simpa using this
              simp [goInt, VR, h3]
theorem sv_sliceArr (h : Inv B w0 ρ A w) {t : TypeId} {x x' : Value} (hx : VR ρ x x') {lo lo' hi hi' mx mx' : Option Value} (hlo : VRO ρ lo lo') (hhi : VRO ρ hi hi') (hmx : VRO ρ mx mx')
    (hmh : mx.isSome = true → hi.isSome = true) {u : Value} {A1 : AW} (e : asliceArr P A t x lo hi mx = some (u, A1)) : SV P B w0 ρ w (Instr.sliceAt t x' lo' hi' mx') u A1 := by
  unfold asliceArr at e
  cases hu : prun P (underlying t) with
  | none => rw [hu] at e; simp at e
  | some d =>
  rw [hu] at e
  cases d <;> try (simp at e; done)
  rename_i n elem
  cases x <;> try (simp at e; done)
  rename_i oa
  cases oa with
  | none => simp at e
  | some a =>
  obtain ⟨a', ha, rfl⟩ := hx
  obtain ⟨hs, f, hf, rfl⟩ := ha
  simp only at e
  cases hsz : prun P (sizeOf elem) with
  | none => rw [hsz] at e; simp at e
  | some size =>
  cases e1 : aboundO mx n n with
  | none => rw [hsz, e1] at e; simp at e
  | some m =>
  rw [hsz, e1] at e
  simp only at e
  cases e2 : aboundO hi m n with
  | none => rw [e2] at e; simp at e
  | some hh =>
  rw [e2] at e
  simp only at e
  cases e3 : aboundO lo hh 0 with
  | none => rw [e3] at e; simp at e
  | some l =>
  rw [e3] at e
  simp only [hs, Option.isSome_none, cond_false] at e
  obtain ⟨_, _, ho⟩ := h.at_ _ _ hf
  cases hg : A.get a.block with
  | dead => rw [hg] at e; simp at e
  | resv => rw [hg] at e; simp at e
  | map es c => rw [hg] at e; simp at e
  | cells cs ro opn esz =>
  rw [hg] at e ho
  cases opn with
  | true => simp at e
  | false =>
  simp only [Option.some.injEq, Prod.mk.injEq] at e
  obtain ⟨rfl, rfl⟩ := e
  have hx0 : f.extra = 0 := ho.2.2.1 rfl
  obtain ⟨q1, q2, q3, q4⟩ := bounds_rel (P := P) (b := false) (len := n) hlo hhi hmx (Nat.le_refl n) hmh e1 e2 e3 w
  have hm : (if mx.isSome then m else n) = m := by
    cases hms : mx.isSome with
    | true => simp
    | false => simp [q3 hms]
  rw [hm] at q1
  refine ⟨ρ, w, .slice (some (if m = l then ⟨f.blk, f.off + a.off, none⟩ else (⟨f.blk, f.off + a.off, none⟩ : Addr).add (l * size))) (hh - l) (m - l), ?_, Ext.refl _, h, ?_⟩
  · unfold Instr.sliceAt
    rw [run_prun_bind hu]
    simp only [Instr.sureAddr, pure_bind]
    rw [Sem.run_bind, q1]
    simp only [Result.andThen_ok]
    rw [run_prun_bind hsz]
    rfl
  · rw [bif_beq]
    by_cases hml : m = l
    · rw [if_pos hml, if_pos hml]
      refine ⟨hs, f, hf, ?_⟩
      rw [hx0]; simp
    · rw [if_neg hml, if_neg hml]
      obtain ⟨k1, k2, k3⟩ := add_block hs (l * size)
      refine ⟨k3, f, by rw [k1]; exact hf, ?_⟩
      rw [addr_add, k2, hx0, Nat.add_assoc]; simp
end
end Go.Abs
