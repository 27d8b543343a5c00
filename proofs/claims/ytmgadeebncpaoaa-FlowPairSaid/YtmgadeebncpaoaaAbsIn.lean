/- What comes in; what is told of a function that is called without arguments. -/
import Derived.Test.YtmgadeebncpaoaaAbsR
set_option autoImplicit false
set_option linter.unusedVariables false
set_option linter.unusedSimpArgs false
namespace Go.Abs
open Go.RowKit

section
variable {P : Program} {B : Nat} {w0 : World} {ρ : Rho} {A : AW} {w w' : World}

/-- Nothing that was there has been changed. -/
theorem Inv.after (h : Inv B w0 ρ A w) (hb : Below w.heap.size w w') : Inv B w0 ρ A w' := by
  obtain ⟨b1, b2, b3, b4, b5⟩ := hb
  have hB := h.base_le
  refine ⟨h.below.trans ⟨b1, b2, b3, b4, fun k hk => b5 k (by omega)⟩, h.base, ?_, h.sep, h.dead_, h.nx_⟩
  intro b e hbe
  obtain ⟨h1, h2, h3⟩ := h.at_ b e hbe
  exact ⟨h1, by omega, h3.block (b5 _ h2)⟩

/-- One more row of the old memory, to be read alone. -/
theorem Inv.addRo (h : Inv B w0 ρ A w) {x : Addr} {c : Array Value} {t : TypeId} {fr : Nat × Nat} (hh : w.heap[x.block]? = some (.cells c t fr)) (hB : x.block < B) {cs : List Value} (hc : (c.toList.drop x.off).take cs.length = cs)
    (ho : x.off + cs.length ≤ c.size) (h1 : oneCells cs = true) (hg : groundL cs = true) (esz : Nat) :
    Inv B w0 (place ρ A.nid ⟨x.block, x.off, cs.length, 0, esz⟩) (A.push (.cells cs true false esz)) w := by
  have hext := place_ext h.free ⟨x.block, x.off, cs.length, 0, esz⟩
  have hp1 := h.nid_lt (.cells cs true false esz)
  have hp2 := A.size_push_le (.cells cs true false esz)
  have hlt : x.block < w.heap.size := (Array.getElem?_eq_some_iff.1 hh).1
  refine ⟨h.below, h.base, ?_, ?_, ?_, push_nx_⟩
  · intro b e hb
    rw [AW.get_push]
    by_cases hbs : b = A.nid
    · subst hbs
      rw [place_same] at hb
      obtain rfl := Option.some.inj hb
      refine ⟨hp1, hlt, ?_⟩
      rw [if_pos rfl]
      refine ⟨rfl, rfl, fun _ => rfl, fun _ => .inr hB, h1, c, t, fr, _, hh, by simpa using ho, rfl, ?_, by simp⟩
      rw [hc]
      exact (VRL.ground cs hg cs).2 rfl
    · rw [place_ne _ _ hbs] at hb
      obtain ⟨h2, h3, h4⟩ := h.at_ b e hb
      rw [if_neg hbs]
      exact ⟨by omega, h3, h4.ext hext⟩
  · intro b d e f hne hb hd hlb hld
    rw [AW.get_push] at hlb hld
    by_cases hbs : b = A.nid
    · rw [if_pos hbs] at hlb; simp [live] at hlb
    · by_cases hds : d = A.nid
      · rw [if_pos hds] at hld; simp [live] at hld
      · rw [if_neg hbs] at hlb
        rw [if_neg hds] at hld
        rw [place_ne _ _ hbs] at hb
        rw [place_ne _ _ hds] at hd
        exact h.sep b d e f hne hb hd hlb hld
  · intro b hb
    obtain ⟨hb1, hb2⟩ := h.past _ hb
    rw [place_ne _ _ hb1]
    exact h.dead_ b hb2

/-- Of a function that is called without arguments: it returns true, and changes nothing. -/
def preK (f0 : FuncId) : FuncId → Option (List Value → AW → Option (Value × AW)) := fun f =>
  bif Nat.beq f f0 then some (fun args A => match args with | [] => some (.bool true, A) | _ => none) else none

theorem preK_sound {f0 : FuncId} (hc : ∀ w, Calls P f0 #[] w fun e w' => e = .returned (.bool true) ∧ Below w.heap.size w w')
    (hfn : ∃ fn, P.funcs[f0]? = some fn ∧ (fn.name == "runtime.NumGoroutine") = false ∧ fn.body.isNone = false) (B : Nat) (w0 : World) : PreSound P B w0 (preK f0) := by
  intro f args A v A1 ρ w args' e hI ha
  simp only [preK] at e
  cases hb : Nat.beq f f0 with
  | false => rw [hb] at e; simp at e
  | true =>
    have hf := Nat.eq_of_beq_eq_true hb
    subst hf
    rw [hb] at e
    cases args with
    | cons a l => simp at e
    | nil =>
      simp only [cond_true, Option.some.injEq, Prod.mk.injEq] at e
      obtain ⟨rfl, rfl⟩ := e
      have : args' = [] := by simpa [VRL] using ha
      subst this
      refine ⟨hfn, Calls.mono (hc w) ?_⟩
      rintro e w1 ⟨rfl, h2⟩
      exact ⟨ρ, .bool true, rfl, Ext.refl _, hI.after h2, by simp [VR]⟩

theorem acall_preK {f0 : FuncId} {dr : CallF → Array Oper → Array Value → AW → Option (Array Value × AW)} {R m : Nat} : acall P (preK f0) dr R (m + 1) f0 [] A = some (.bool true, A) := by
  unfold acall preK
  rw [Nat.beq_refl]
  rfl

/-- What the abstract call tells, the model's call does. -/
theorem calls_of_acall (hm : P.follows .mixedOrders = true) (hn : namesOk P.funcs.toList = true) {pre : FuncId → Option (List Value → AW → Option (Value × AW))} (hpre : PreSound P B w0 pre) {R n : Nat} {f : FuncId} {args args' : List Value} {A1 : AW}
    (hI : Inv B w0 ρ A w) (ha : VRL ρ args args') (e : acall P pre (adraw2 P) R n f args A = some (.bool true, A1)) :
    Calls P f args'.toArray w fun en w' => en = .returned (.bool true) ∧ Below B w0 w' := by
  have hs := acall_sound hpre (fun call hc => adraw2_sound hm hc) (namesOk_spec hn) R n f args A _ A1 ρ w args' e hI ha
  refine Calls.mono hs.2 ?_
  rintro en w1 ⟨ρ1, v', rfl, h1, h2, h3⟩
  simp only [VR] at h3
  subst h3
  exact ⟨rfl, h2.below⟩
end

/-! ### A slice of bytes that came in -/
theorem groundL_u8s : ∀ (zs : List Int), groundL (u8s zs) = true
  | [] => rfl
  | z :: zs => by
    show (ground (.int .u8 z) && groundL (u8s zs)) = true
    rw [groundL_u8s zs]; rfl

theorem row_cells {w : World} {x : Addr} {zs : List Int} {c : Array Value} {t : TypeId} {fr : Nat × Nat} (hs : x.spot = none) (hh : w.heap[x.block]? = some (.cells c t fr)) (ho : x.off ≤ c.size)
    (hc : ∀ i, i < zs.length → w.cell? (x.add i) = some (.int .u8 (zs.getD i 0))) : (c.toList.drop x.off).take (u8s zs).length = u8s zs ∧ x.off + (u8s zs).length ≤ c.size := by
  have key : ∀ i, i < zs.length → c[x.off + i]? = some (.int .u8 (zs.getD i 0)) := by
    intro i hi
    have h := hc i hi
    obtain ⟨k1, k2, k3⟩ := add_block hs i
    unfold World.cell? at h
    rw [k1, hh, k3, k2] at h
    simpa using h
  have hlen : x.off + zs.length ≤ c.size := by
    cases hz : zs.length with
    | zero => omega
    | succ n =>
      have := (Array.getElem?_eq_some_iff.1 (key n (by omega))).1
      omega
  refine ⟨?_, by simpa using hlen⟩
  apply List.ext_getElem?
  intro i
  rw [u8s_length]
  by_cases hi : i < zs.length
  · rw [List.getElem?_take_of_lt hi, List.getElem?_drop]
    have h2 : c.toList[x.off + i]? = some (.int .u8 (zs.getD i 0)) := by simpa using key i hi
    rw [h2]
    unfold u8s
    rw [List.getElem?_map, List.getElem?_eq_getElem hi, List.getD_eq_getElem?_getD, List.getElem?_eq_getElem hi]
    rfl
  · rw [List.getElem?_eq_none (by simp; omega), List.getElem?_eq_none (by simp; omega)]

theorem row_in {A : AW} (hnx : A.nx = none) {zs : List Int} {len : Nat} (hl : len ≤ zs.length) (hb : isByte zs) :
    Row (A.push (.cells (u8s zs) true false 1)) A.nid 0 zs.length (zs.take len) := by
  have ht : (zs.take len).length = len := by simp; omega
  refine ⟨?_, ⟨u8s zs, true, false, push_get_new _, by rw [ht]; simpa using hl, by simp, ?_⟩, by rw [ht]; exact hl, fun z hz => hb z (List.mem_of_mem_take hz)⟩
  · rw [nid_none hnx, A.size_push_none _ hnx]; exact Nat.lt_succ_self _
  · rw [ht, List.drop_zero]
    simp [u8s, List.map_take]
end Go.Abs
namespace Go.Abs
/-! ### What 'okWide' says of a slice -/
theorem rowAt_le {P : Program} {fits : TypeId → Bool} {d : Nat} {e : TypeId} {count off n : Nat} (h : rowAt P fits d e count off n = true) : off ≤ count * P.cellsOf e := by
  cases d with
  | zero => simp [rowAt] at h
  | succ d =>
    unfold rowAt at h
    by_cases hs : P.cellsOf e = 0
    · simp [hs] at h
    · have hpos : 0 < P.cellsOf e := Nat.pos_of_ne_zero hs
      have hd := Nat.div_add_mod off (P.cellsOf e)
      have hm := Nat.mod_lt off hpos
      simp only [hs, if_false, Bool.or_eq_true, Bool.and_eq_true, beq_iff_eq, decide_eq_true_eq] at h
      rcases h with ⟨⟨h1, h2⟩, _⟩ | ⟨h1, _⟩
      · have : off / P.cellsOf e * P.cellsOf e ≤ count * P.cellsOf e := Nat.mul_le_mul_right _ (by omega)
        rw [Nat.mul_comm] at hd
        omega
      · have : (off / P.cellsOf e + 1) * P.cellsOf e ≤ count * P.cellsOf e := Nat.mul_le_mul_right _ (by omega)
        rw [Nat.add_mul, Nat.one_mul, Nat.mul_comm] at this
        omega

theorem liesAt_le {P : Program} : ∀ {d : Nat} {e : TypeId} {count off : Nat} {u : TypeId} {n : Nat}, liesAt P d e count off u n = true → off ≤ count * P.cellsOf e
  | 0, e, count, off, u, n, h => by simp [liesAt] at h
  | d + 1, e, count, off, u, n, h => by
    unfold liesAt at h
    simp only [Bool.or_eq_true] at h
    rcases h with h | h
    · exact rowAt_le h
    · split at h
      · exact liesAt_le h
      · cases h

theorem has_block {P : Program} {w : World} {r : Reach} {base : Nat} {a : Addr} {e : TypeId} {n : Nat} (h : w.has P r base a e n) : a.spot = none ∧ ∃ c t fr, w.heap[a.block]? = some (.cells c t fr) ∧ a.off ≤ c.size := by
  obtain ⟨_, h1, row, cells, h2, h3⟩ := h
  refine ⟨h1, ?_⟩
  unfold World.shape? at h2
  split at h2
  · rename_i c elem fr hb
    simp only [Option.some.injEq, Prod.mk.injEq] at h2
    obtain ⟨rfl, rfl⟩ := h2
    have := liesAt_le h3
    have h4 := Nat.div_mul_le_self c.size (P.cellsOf elem)
    exact ⟨c, elem, fr, hb, by omega⟩
  · cases h2

theorem okWide_slice_has {P : Program} {w : World} {r : Reach} {base : Nat} {t e : TypeId} (ht : P.underlying t = some (.slice e)) {x : Addr} {len cap : Nat} (h : Value.okWide P w r base t (.slice (some x) len cap)) :
    len ≤ cap ∧ x.spot = none ∧ ∃ c t fr, w.heap[x.block]? = some (.cells c t fr) ∧ x.off ≤ c.size := by
  simp only [Value.okWide, ht, Cell.okWide, Cell.ok] at h
  exact ⟨h.1, has_block h.2.2⟩

theorem byte_wf {n : Int} (h : (Lit.int .u8 n).wf = true) : 0 ≤ n ∧ n < 256 := by
  simp [Lit.wf, IntKind.min, IntKind.max, IntKind.signed, IntKind.bits] at h
  omega

/-- A slice of bytes that came in, as the abstract machine has it. -/
theorem in_bytes {B : Nat} {w0 : World} {ρ : Rho} {A : AW} {w : World} (h : Inv B w0 ρ A w) (hnx : A.nx = none) {x : Addr} {len cap : Nat} {zs : List Int} (hl : len ≤ cap) (hz : zs.length = cap) (hx : x.spot = none)
    {c : Array Value} {t : TypeId} {fr : Nat × Nat} (hh : w.heap[x.block]? = some (.cells c t fr)) (ho : x.off ≤ c.size) (hB : x.block < B) (hc : ∀ i, i < zs.length → w.cell? (x.add i) = some (.int .u8 (zs.getD i 0))) (hw : ∀ n ∈ zs, (Lit.int .u8 n).wf = true) :
    ∃ ρ1 A1, Ext ρ ρ1 ∧ Inv B w0 ρ1 A1 w ∧ AExt A A1 ∧ A1.nx = none ∧ RowV A1 (.slice (some ⟨A.nid, 0, none⟩) len cap) (zs.take len) ∧ VR ρ1 (.slice (some ⟨A.nid, 0, none⟩) len cap) (.slice (some x) len cap) := by
  obtain ⟨h1, h2⟩ := row_cells hx hh ho hc
  refine ⟨_, _, place_ext h.free _, h.addRo hh hB h1 h2 (oneCells_u8s zs) (groundL_u8s zs) 1, AExt.push hnx _, AW.push_nx _ _, ?_, ?_⟩
  · have ht : (zs.take len).length = len := by simp; omega
    refine .inr ⟨A.nid, 0, cap, by rw [ht], ?_⟩
    have := row_in hnx (zs := zs) (len := len) (by omega) fun z hz => byte_wf (hw z hz)
    rw [hz] at this
    exact this
  · refine ⟨rfl, _, place_same _ _ _, ?_⟩
    cases x
    simp_all
end Go.Abs
