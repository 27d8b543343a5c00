/- Steps over the model's own code, the slots known in part: where a region needs a proof of its own. -/
import Derived.Test.YtmgadeebncpaoaaAbsJD
import Derived.Test.YtmgadeebncpaoaaAbsDrawH
set_option autoImplicit false
set_option linter.unusedVariables false
set_option linter.unusedSimpArgs false
namespace Go.Abs
open Go.RowKit

section
variable {P : Program} {B : Nat} {w0 : World} {call : CallF} {draws : Array Oper → Array Value → AW → Option (Array Value × AW)} {R n : Nat} {S : Slots} {A : AW}

def JW (P : Program) (B : Nat) (w0 : World) (n : Nat) (c : Code) (S : Slots) (A : AW) (Q : X → Slots → AW → Prop) : Prop :=
  ∀ t, Has n S t → ∀ (ρ : Rho) (w : World) (a : Act), Inv B w0 ρ A w → VRA ρ t a.tmps → c.wp P (fun e a1 w1 => ∃ x t1 A1 S1 ρ1, e = exitOf x ∧ Ext ρ ρ1 ∧ Inv B w0 ρ1 A1 w1 ∧ VRA ρ1 t1 a1.tmps ∧ a1.defers = a.defers ∧ Has n S1 t1 ∧ Q x S1 A1) a w

theorem JW.ofJ (hcall : CallSound P B w0 call) (hdraw : DrawSound P B w0 draws) {c : Code} {Q : X → Slots → AW → Prop} (h : J P call draws R n c S A Q) : JW P B w0 n c S A Q := by
  intro t ht ρ w a hI hv
  obtain ⟨x, t', A', S', h1, h2, h3⟩ := h t ht
  refine wp_mono (acode_sound hcall hdraw R c t A x t' A' ρ w a h1 hI hv) ?_
  rintro e a1 w1 ⟨rfl, ρ1, g1, g2, g3, g4⟩
  exact ⟨x, t', A', S', ρ1, rfl, g1, g2, g3, g4, h2, h3⟩

def thenW (P : Program) (B : Nat) (w0 : World) (n : Nat) (b : Code) (Q : X → Slots → AW → Prop) : X → Slots → AW → Prop
  | .n, S, A => JW P B w0 n b S A Q
  | .e id, S, A => Q (.e id) S A
  | .r, S, A => Q .r S A

theorem JW.seq {a b : Code} {Q : X → Slots → AW → Prop} (h : JW P B w0 n a S A (thenW P B w0 n b Q)) : JW P B w0 n (.seq a b) S A Q := by
  intro t ht ρ w ac hI hv
  refine wp_seq (wp_mono (h t ht ρ w ac hI hv) ?_)
  rintro e a1 w1 ⟨x, t1, A1, S1, ρ1, rfl, g1, g2, g3, g4, g5, g6⟩
  cases x with
  | n =>
    refine wp_mono (g6 t1 g5 ρ1 w1 a1 g2 g3) ?_
    rintro e2 a2 w2 ⟨x2, t2, A2, S2, ρ2, rfl, k1, k2, k3, k4, k5, k6⟩
    exact ⟨x2, t2, A2, S2, ρ2, rfl, g1.trans k1, k2, k3, by rw [k4, g4], k5, k6⟩
  | e id => exact ⟨_, _, _, _, _, rfl, g1, g2, g3, g4, g5, g6⟩
  | r => exact ⟨_, _, _, _, _, rfl, g1, g2, g3, g4, g5, g6⟩

theorem JW.weak {c : Code} {Q : X → Slots → AW → Prop} (keep : List Nat) {S2 : Slots} (e : restr keep S = S2) (h : JW P B w0 n c S2 A Q) : JW P B w0 n c S A Q := by
  intro t ht
  exact h t (by rw [← e]; exact ht.restr keep)

/-! ### A region by a function of heaps -/
/-- Of each operation: what is told of the slots ahead, what it comes to, does it change the heap, where does it make what it makes. -/
structure HEnt where
  S : Slots
  r : Option Value
  e : Bool
  p : Option Nat

/-- One behind the other. -/
def entsOk (n : Nat) (ops : Array Oper) : List Oper → Slots → List HEnt → Slots → Prop
  | [], S, [], S' => S = S'
  | o :: l, S, x :: es, S' => x.S = S ∧ ewant ops S o = some x.r.isSome ∧ entsOk n ops l (eput n S o.dst (x.r.getD undef)) es S'
  | _, _, _, _ => False

def stsOf : List Oper → List HEnt → Array Value → List SE
  | o :: l, x :: es, t => ⟨t, x.r, x.e, x.p⟩ :: stsOf l es (aput t o.dst (x.r.getD undef))
  | _, _, _ => []

def lastT : List Oper → List HEnt → Array Value → Array Value
  | o :: l, x :: es, t => lastT l es (aput t o.dst (x.r.getD undef))
  | _, _, t => t

theorem ents_spec (ops : Array Oper) : ∀ (l : List Oper) (S : Slots) (es : List HEnt) (S' : Slots) (t : Array Value), entsOk n ops l S es S' → Has n S t →
    (stsOf l es t).length = l.length ∧ seT (stsOf l es t) (lastT l es t) 0 = t ∧ Has n S' (lastT l es t) ∧
    ∀ i o, l[i]? = some o → Region.wanted o (yielded ops (seT (stsOf l es t) (lastT l es t) i)) = (seR (stsOf l es t) i).isSome ∧
      seT (stsOf l es t) (lastT l es t) (i + 1) = aput (seT (stsOf l es t) (lastT l es t) i) o.dst ((seR (stsOf l es t) i).getD undef) ∧
      ∃ x s, es[i]? = some x ∧ (stsOf l es t)[i]? = some s ∧ s.r = x.r ∧ s.e = x.e ∧ s.p = x.p ∧ Has n x.S s.t
  | [], S, [], S', t, h, ht => by
    simp only [entsOk] at h
    subst h
    exact ⟨rfl, rfl, ht, fun i o h => by simp at h⟩
  | [], S, x :: es, S', t, h, ht => by simp [entsOk] at h
  | o :: l, S, [], S', t, h, ht => by simp [entsOk] at h
  | o :: l, S, x :: es, S', t, h, ht => by
    obtain ⟨rfl, hw, h2⟩ := h
    obtain ⟨k1, k2, k3, k4⟩ := ents_spec ops l _ es S' _ h2 (ht.put o.dst (x.r.getD undef))
    refine ⟨by simp [stsOf, k1], rfl, k3, ?_⟩
    intro i o' hi
    cases i with
    | zero =>
      simp only [List.getElem?_cons_zero, Option.some.injEq] at hi
      subst hi
      refine ⟨?_, ?_, x, _, rfl, rfl, rfl, rfl, rfl, ht⟩
      · exact ewant_sound ht hw
      · have : seT (stsOf (o :: l) (x :: es) t) (lastT (o :: l) (x :: es) t) (0 + 1) = seT (stsOf l es (aput t o.dst (x.r.getD undef))) (lastT l es (aput t o.dst (x.r.getD undef))) 0 := by simp [seT, stsOf, lastT]
        rw [this, k2]
        rfl
    | succ i =>
      have q1 : ∀ j, seT (stsOf (o :: l) (x :: es) t) (lastT (o :: l) (x :: es) t) (j + 1) = seT (stsOf l es (aput t o.dst (x.r.getD undef))) (lastT l es (aput t o.dst (x.r.getD undef))) j := fun j => by simp [seT, stsOf, lastT]
      have q2 : seR (stsOf (o :: l) (x :: es) t) (i + 1) = seR (stsOf l es (aput t o.dst (x.r.getD undef))) i := by simp [seR, stsOf]
      rw [q1, q1, q2]
      obtain ⟨m1, m2, x', s', m3, m4, m5⟩ := k4 i o' (by simpa using hi)
      exact ⟨m1, m2, x', s', by simpa using m3, by simpa [stsOf] using m4, m5⟩

/-- The effects' places, by the entries. -/
def effsH : List HEnt → Nat → List Nat
  | [], _ => []
  | x :: l, j => bif x.e then j :: effsH l (j + 1) else effsH l (j + 1)
def fullH : List HEnt → Nat → Nat
  | [], _ => 0
  | x :: l, j => bif x.e then 2 ^ j ||| fullH l (j + 1) else fullH l (j + 1)

theorem effsH_eq : ∀ (l : List Oper) (es : List HEnt) (t : Array Value) (j : Nat), l.length = es.length → effsE (stsOf l es t) j = effsH es j ∧ fullE (stsOf l es t) j = fullH es j
  | [], [], t, j, _ => ⟨rfl, rfl⟩
  | o :: l, x :: es, t, j, h => by
    obtain ⟨h1, h2⟩ := effsH_eq l es (aput t o.dst (x.r.getD undef)) (j + 1) (by simpa using h)
    simp only [stsOf, effsE, effsH, fullE, fullH, h1, h2, and_self]
  | [], x :: es, t, j, h => by simp at h
  | o :: l, [], t, j, h => by simp at h

/-- One operation at a heap. -/
def stepH (P : Program) (call : CallF) (n : Nat) (S : Slots) (o : Oper) (p : Option Nat) (A : AW) : Option (Value × AW) :=
  match p with
  | none => eop P call n S o A
  | some r => bif (A.get r).isResv && Nat.blt r A.size then
      match eop P call n S o (A.at (some r)) with
      | some (v, A') => some (v, A'.at none)
      | none => none
    else none

theorem stepH_sound {t : Array Value} (h : Has n S t) {o : Oper} {p : Option Nat} {r : Value × AW} (e : stepH P call n S o p A = some r) : stepE P call t o p A = some r := by
  unfold stepH at e
  unfold stepE
  cases p with
  | none => exact eop_sound h e
  | some q =>
    simp only at e ⊢
    cases hb : ((A.get q).isResv && Nat.blt q A.size) with
    | false => rw [hb] at e; cases e
    | true =>
      rw [hb] at e
      simp only [cond_true] at e ⊢
      cases he : eop P call n S o (A.at (some q)) with
      | none => rw [he] at e; cases e
      | some v =>
        rw [he] at e
        rw [eop_sound h he]
        exact e

theorem JW.regionH (hm : P.follows .mixedOrders = true) (hcall : CallSound P B w0 call) {ops : Array Oper} {id : Nat} {Q : X → Slots → AW → Prop} (es : List HEnt) (k : Nat) (H : Nat → Option AW) {A1 : AW} {S' : Slots}
    (hedge : edgesOk 0 ops.toList = true) (hslots : slotsOk ops (masks ops) 0 ops.toList = true) (hents : entsOk n ops ops.toList S es S') (hlen : ops.toList.length = es.length) (hstart : H 0 = some (A.keep k)) (hfin : H (fullH es 0) = some A1)
    (hchk : ∀ m A', H m = some A' → ∀ j o x, ops[j]? = some o → es[j]? = some x → mayE (masks ops) (effsH es 0) m j = true →
      (x.e = true → (x.r = none → H (m ||| 2 ^ j) = some A') ∧ ∀ v, x.r = some v → ∃ B' A2, stepH P call n x.S o x.p A' = some (v, B') ∧ H (m ||| 2 ^ j) = some A2 ∧ AEq B' A2) ∧
      (x.e = false → ∀ v, x.r = some v → eop P call n x.S o A' = some (v, A')))
    (hq : Q .n S' A1) : JW P B w0 n (.region id ops true) S A Q := by
  intro t ht ρ w a hI hv
  obtain ⟨k1, k2, k3, k4⟩ := ents_spec ops ops.toList S es S' t hents ht
  obtain ⟨e1, e2⟩ := effsH_eq ops.toList es t 0 hlen
  refine wp_regionH hm hcall (sts := stsOf ops.toList es t) (tmps := t) (t1 := lastT ops.toList es t) (A1 := A1) (H := H) (k := k) ?_ hI hv ?_
  · refine ⟨hedge, hslots, by simpa using k1, k2, fun i o ho => ?_, hstart, by rw [e2]; exact hfin, ?_⟩
    · obtain ⟨m1, m2, _⟩ := k4 i o (by simpa using ho)
      exact ⟨m1, m2⟩
    · intro m A' hA' j o s ho hs hmay
      obtain ⟨_, _, x, s', g1, g2, g3, g4, g5, g6⟩ := k4 j o (by simpa using ho)
      obtain rfl : s' = s := Option.some.inj (g2.symm.trans hs)
      rw [e1] at hmay
      obtain ⟨c1, c2⟩ := hchk m A' hA' j o x ho g1 hmay
      refine ⟨fun he => ?_, fun he v hv' => ?_⟩
      · rw [g4] at he
        obtain ⟨d1, d2⟩ := c1 he
        refine ⟨fun hn => d1 (by rw [← g3]; exact hn), fun v hv' => ?_⟩
        obtain ⟨B', A2, f1, f2, f3⟩ := d2 v (by rw [← g3]; exact hv')
        exact ⟨B', A2, by rw [g5]; exact stepH_sound g6 f1, f2, f3⟩
      · rw [g4] at he
        exact eop_sound g6 (c2 he v (by rw [← g3]; exact hv'))
  · intro ρ1 w1 a1 g1 g2 g3 g4
    exact ⟨.n, _, A1, S', ρ1, rfl, g1, g2, g3, g4, k3, hq⟩

/-! ### A function -/
theorem JW.fn {f : FuncId} {fn : Func} {body : Code} {args args' : List Value} {K : Value → AW → Prop} {ρ : Rho} {w : World} (hf : P.funcs[f]? = some fn) (hb : fn.body = some body) (hl : args.length ≤ fn.ntmps) (hI : Inv B w0 ρ A w) (ha : VRL ρ args args')
    (h : JW P B w0 fn.ntmps body (argsS 0 args) A (Ends P fn.results.toList K)) :
    Calls P f args'.toArray w fun e w1 => ∃ v A1 ρ1 v', K v A1 ∧ e = .returned v' ∧ Ext ρ ρ1 ∧ Inv B w0 ρ1 A1 w1 ∧ VR ρ1 v v' := by
  have hlen : args'.length = args.length := ha.length
  refine calls_of_wp hf hb ?_
  have htm : VRA ρ (initT args fn.ntmps) (args'.toArray ++ Array.replicate (fn.ntmps - args'.toArray.size) undef) := by
    rw [initT_eq, VRA.toList]
    have : fn.ntmps - args'.toArray.size = fn.ntmps - args.length := by simp [hlen]
    rw [this]
    simpa using ha.append (VRL.undefs _)
  refine wp_mono (h _ (has_init hl) ρ w { tmps := args'.toArray ++ Array.replicate (fn.ntmps - args'.toArray.size) undef, defers := [] } hI htm) ?_
  rintro e a1 w1 ⟨x, t1, A1, S1, ρ1, rfl, g1, g2, g3, g4, g5, g6⟩
  have main : ∀ vs, eresults P S1 A1 fn.results.toList = some vs → K (atuple vs) A1 → a1.defers = [] ∧ ∃ v, (results fn a1.tmps).run P w1 = .ok v w1 ∧ ∃ v2 A1 ρ1 v', K v2 A1 ∧ Ending.returned v = .returned v' ∧ Ext ρ ρ1 ∧ Inv B w0 ρ1 A1 w1 ∧ VR ρ1 v2 v' := by
    intro vs e1 e2
    obtain ⟨v', k1, k2⟩ := results_rel (P := P) g2 g3 (eresults_sound g5 e1)
    exact ⟨g4, v', k1, _, A1, ρ1, v', e2, rfl, g1, g2, k2⟩
  cases x with
  | e id => exact g6.elim
  | n => obtain ⟨vs, e1, e2⟩ := g6; exact main vs e1 e2
  | r => obtain ⟨vs, e1, e2⟩ := g6; exact main vs e1 e2
end
end Go.Abs
namespace Go.Abs
section
variable {P : Program} {call : CallF} {n : Nat} {S : Slots} {A : AW}
theorem eop_load {o : Oper} {t : TypeId} {x : Operand} {ad : Addr} {v : Value} (hop : o.op = .load t x) (hin : opndsIn S [x] = true) (hv : aeval (arrOf n S) x = some (.pointer (some ad))) (e : aload P A t ad = some v) : eop P call n S o A = some (v, A) := by
  unfold eop
  have : opndsIn S o.op.operands.toList = true := by rw [hop]; exact hin
  rw [this]
  simp only [cond_true]
  unfold aop
  rw [hop]
  simp only [aev1, hv, e, onV]
theorem mayE_self {ms es : List Nat} {m j : Nat} (h : mayE ms es m j = true) : m.testBit j = false := by
  unfold mayE at h
  simp only [Bool.and_eq_true, Bool.not_eq_true'] at h
  exact h.1.1
theorem mayE_pred {ms es : List Nat} {m j e : Nat} (h : mayE ms es m j = true) (he : e ∈ es) (hb : ((ms.getD j 0).testBit e) = true) : m.testBit e = true := by
  unfold mayE at h
  simp only [Bool.and_eq_true, List.all_eq_true, Bool.or_eq_true, Bool.not_eq_true'] at h
  rcases h.1.2 e he with h1 | h1
  · rw [hb] at h1; cases h1
  · exact h1
theorem mayE_succ {ms es : List Nat} {m j e : Nat} (h : mayE ms es m j = true) (he : e ∈ es) (hb : ((ms.getD e 0).testBit j) = true) : m.testBit e = false := by
  unfold mayE at h
  simp only [Bool.and_eq_true, List.all_eq_true, Bool.or_eq_true, Bool.not_eq_true'] at h
  rcases h.2 e he with h1 | h1
  · exact h1
  · rw [hb] at h1; cases h1
theorem stepH_at {o : Oper} {r : Nat} {v : Value} {A' : AW} (h1 : (A.get r).isResv = true) (h2 : Nat.blt r A.size = true) (e : eop P call n S o (A.at (some r)) = some (v, A')) : stepH P call n S o (some r) A = some (v, A'.at none) := by
  unfold stepH
  simp only [h1, h2, Bool.and_self, cond_true, e]
end
end Go.Abs
