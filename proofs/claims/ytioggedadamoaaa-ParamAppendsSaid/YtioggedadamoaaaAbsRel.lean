/- The relation between the abstract machine's values and heap and the model's. -/
import Derived.Test.YtioggedadamoaaaAbsCore
set_option autoImplicit false
set_option linter.unusedVariables false
namespace Go.Abs
structure Ent where
  blk : Nat
  off : Nat
  n : Nat
  extra : Nat
  esz : Nat
abbrev Rho := Nat → Option Ent
def AR (ρ : Rho) (a a' : Addr) : Prop := a.spot = none ∧ ∃ e, ρ a.block = some e ∧ a' = ⟨e.blk, e.off + a.off, none⟩
mutual
def VR (ρ : Rho) : Value → Value → Prop
  | .bool b, v' => v' = .bool b
  | .int k n, v' => v' = .int k n
  | .float k n, v' => v' = .float k n
  | .complex k a b, v' => v' = .complex k a b
  | .string s, v' => v' = .string s
  | .pointer none, v' => v' = .pointer none
  | .pointer (some a), v' => ∃ a', AR ρ a a' ∧ v' = .pointer (some a')
  | .slice none l c, v' => v' = .slice none l c
  | .slice (some a) l c, v' => a.spot = none ∧ ∃ e, ρ a.block = some e ∧ v' = .slice (some ⟨e.blk, e.off + a.off, none⟩) l (if a.off + c * e.esz = e.n then c + e.extra else c)
  | .map none, v' => v' = .map none
  | .map (some r), v' => ∃ e, ρ r = some e ∧ v' = .map (some e.blk)
  | .chan none, v' => v' = .chan none
  | .chan (some _), _ => False
  | .func fn fs cs, v' => ∃ fs' cs', VRA ρ fs fs' ∧ VRA ρ cs cs' ∧ v' = .func fn fs' cs'
  | .nilFunc, v' => v' = .nilFunc
  | .iface t v, v' => ∃ u, VR ρ v u ∧ v' = .iface t u
  | .nilIface, v' => v' = .nilIface
  | .agg cs, v' => ∃ cs', VRA ρ cs cs' ∧ v' = .agg cs'
  | .tuple vs, v' => ∃ vs', VRA ρ vs vs' ∧ v' = .tuple vs'
def VRA (ρ : Rho) : Array Value → Array Value → Prop
  | ⟨l⟩, l' => VRL ρ l l'.toList
def VRL (ρ : Rho) : List Value → List Value → Prop
  | [], l' => l' = []
  | v :: l, l' => ∃ v' r, l' = v' :: r ∧ VR ρ v v' ∧ VRL ρ l r
end
def Ext (ρ σ : Rho) : Prop := ∀ b e, ρ b = some e → σ b = some e
theorem Ext.refl (ρ : Rho) : Ext ρ ρ := fun _ _ h => h
theorem Ext.trans {ρ σ τ : Rho} (h : Ext ρ σ) (k : Ext σ τ) : Ext ρ τ := fun b e hb => k b e (h b e hb)
theorem AR.ext {ρ σ : Rho} (h : Ext ρ σ) {a a' : Addr} (k : AR ρ a a') : AR σ a a' := by
  obtain ⟨hs, e, he, ha⟩ := k
  exact ⟨hs, e, h _ _ he, ha⟩
mutual
theorem VR.ext {ρ σ : Rho} (h : Ext ρ σ) : ∀ (v v' : Value), VR ρ v v' → VR σ v v'
  | .bool _, _, k => by simpa [VR] using k
  | .int _ _, _, k => by simpa [VR] using k
  | .float _ _, _, k => by simpa [VR] using k
  | .complex _ _ _, _, k => by simpa [VR] using k
  | .string _, _, k => by simpa [VR] using k
  | .pointer none, _, k => by simpa [VR] using k
  | .pointer (some a), _, k => by
    obtain ⟨a', ha, rfl⟩ := k
    exact ⟨a', ha.ext h, rfl⟩
  | .slice none _ _, _, k => by simpa [VR] using k
  | .slice (some a) _ _, _, k => by
    obtain ⟨hs, e, he, rfl⟩ := k
    exact ⟨hs, e, h _ _ he, rfl⟩
  | .map none, _, k => by simpa [VR] using k
  | .map (some r), _, k => by
    obtain ⟨e, he, rfl⟩ := k
    exact ⟨e, h _ _ he, rfl⟩
  | .chan none, _, k => by simpa [VR] using k
  | .chan (some _), _, k => by simp [VR] at k
  | .func _ fs cs, _, k => by
    obtain ⟨fs', cs', h1, h2, rfl⟩ := k
    exact ⟨fs', cs', VRA.ext h _ _ h1, VRA.ext h _ _ h2, rfl⟩
  | .nilFunc, _, k => by simpa [VR] using k
  | .iface _ v, _, k => by
    obtain ⟨u, hu, rfl⟩ := k
    exact ⟨u, VR.ext h _ _ hu, rfl⟩
  | .nilIface, _, k => by simpa [VR] using k
  | .agg cs, _, k => by
    obtain ⟨cs', hc, rfl⟩ := k
    exact ⟨cs', VRA.ext h _ _ hc, rfl⟩
  | .tuple cs, _, k => by
    obtain ⟨cs', hc, rfl⟩ := k
    exact ⟨cs', VRA.ext h _ _ hc, rfl⟩
theorem VRA.ext {ρ σ : Rho} (h : Ext ρ σ) : ∀ (v v' : Array Value), VRA ρ v v' → VRA σ v v'
  | ⟨l⟩, l', k => VRL.ext h l l'.toList k
theorem VRL.ext {ρ σ : Rho} (h : Ext ρ σ) : ∀ (v v' : List Value), VRL ρ v v' → VRL σ v v'
  | [], _, k => by simpa [VRL] using k
  | v :: l, _, k => by
    obtain ⟨v', r, rfl, hv, hr⟩ := k
    exact ⟨v', r, rfl, VR.ext h _ _ hv, VRL.ext h _ _ hr⟩
end
mutual
theorem VR.ground {ρ : Rho} : ∀ (v : Value), Abs.ground v = true → ∀ v', VR ρ v v' ↔ v' = v
  | .bool _, _, _ => by simp [VR]
  | .int _ _, _, _ => by simp [VR]
  | .float _ _, _, _ => by simp [VR]
  | .complex _ _ _, _, _ => by simp [VR]
  | .string _, _, _ => by simp [VR]
  | .pointer none, _, _ => by simp [VR]
  | .pointer (some _), g, _ => by simp [Abs.ground] at g
  | .slice none _ _, _, _ => by simp [VR]
  | .slice (some _) _ _, g, _ => by simp [Abs.ground] at g
  | .map none, _, _ => by simp [VR]
  | .map (some _), g, _ => by simp [Abs.ground] at g
  | .chan none, _, _ => by simp [VR]
  | .chan (some _), g, _ => by simp [Abs.ground] at g
  | .func fn fs cs, g, v' => by
    simp only [Abs.ground, Bool.and_eq_true] at g
    simp only [VR]
    constructor
    · rintro ⟨fs', cs', h1, h2, rfl⟩
      rw [(VRA.ground fs g.1 fs').1 h1, (VRA.ground cs g.2 cs').1 h2]
    · rintro rfl
      exact ⟨fs, cs, (VRA.ground fs g.1 fs).2 rfl, (VRA.ground cs g.2 cs).2 rfl, rfl⟩
  | .nilFunc, _, _ => by simp [VR]
  | .iface t v, g, v' => by
    simp only [Abs.ground] at g
    simp only [VR]
    constructor
    · rintro ⟨u, hu, rfl⟩
      rw [(VR.ground v g u).1 hu]
    · rintro rfl
      exact ⟨v, (VR.ground v g v).2 rfl, rfl⟩
  | .nilIface, _, _ => by simp [VR]
  | .agg cs, g, v' => by
    simp only [Abs.ground] at g
    simp only [VR]
    constructor
    · rintro ⟨u, hu, rfl⟩
      rw [(VRA.ground cs g u).1 hu]
    · rintro rfl
      exact ⟨cs, (VRA.ground cs g cs).2 rfl, rfl⟩
  | .tuple cs, g, v' => by
    simp only [Abs.ground] at g
    simp only [VR]
    constructor
    · rintro ⟨u, hu, rfl⟩
      rw [(VRA.ground cs g u).1 hu]
    · rintro rfl
      exact ⟨cs, (VRA.ground cs g cs).2 rfl, rfl⟩
theorem VRA.ground {ρ : Rho} : ∀ (v : Array Value), groundA v = true → ∀ v', VRA ρ v v' ↔ v' = v
  | ⟨l⟩, g, l' => by
    simp only [groundA] at g
    simp only [VRA]
    rw [VRL.ground l g l'.toList]
    constructor
    · rintro rfl; rfl
    · rintro rfl; rfl
theorem VRL.ground {ρ : Rho} : ∀ (v : List Value), groundL v = true → ∀ v', VRL ρ v v' ↔ v' = v
  | [], _, _ => by simp [VRL]
  | v :: l, g, l' => by
    simp only [groundL, Bool.and_eq_true] at g
    simp only [VRL]
    constructor
    · rintro ⟨v', r, rfl, h1, h2⟩
      rw [(VR.ground v g.1 v').1 h1, (VRL.ground l g.2 r).1 h2]
    · rintro rfl
      exact ⟨v, l, rfl, (VR.ground v g.1 v).2 rfl, (VRL.ground l g.2 l).2 rfl⟩
end
theorem VRL.length {ρ : Rho} : ∀ {l l' : List Value}, VRL ρ l l' → l'.length = l.length
  | [], _, h => by simp only [VRL] at h; simp [h]
  | _ :: l, _, h => by
    obtain ⟨v', r, rfl, _, hr⟩ := h
    simp [VRL.length hr]
theorem VRL.get {ρ : Rho} : ∀ {l l' : List Value}, VRL ρ l l' → ∀ (i : Nat) (v : Value), l[i]? = some v → ∃ v', l'[i]? = some v' ∧ VR ρ v v'
  | [], _, _, i, v, hi => by simp at hi
  | x :: l, _, h, 0, v, hi => by
    obtain ⟨v', r, rfl, hv, _⟩ := h
    simp at hi
    subst hi
    exact ⟨v', rfl, hv⟩
  | x :: l, _, h, i + 1, v, hi => by
    obtain ⟨v', r, rfl, _, hr⟩ := h
    simp at hi
    obtain ⟨u, hu, hv⟩ := VRL.get hr i v hi
    exact ⟨u, by simpa using hu, hv⟩
theorem VRL.of_get {ρ : Rho} : ∀ {l l' : List Value}, l'.length = l.length → (∀ (i : Nat) (v : Value), l[i]? = some v → ∃ v', l'[i]? = some v' ∧ VR ρ v v') → VRL ρ l l'
  | [], l', hl, _ => by simp only [VRL]; exact List.eq_nil_of_length_eq_zero (by simpa using hl)
  | x :: l, [], hl, _ => by simp at hl
  | x :: l, y :: l', hl, h => by
    obtain ⟨v', hv, hx⟩ := h 0 x rfl
    simp at hv
    subst hv
    exact ⟨_, l', rfl, hx, VRL.of_get (by simpa using hl) fun i v hi => by
      obtain ⟨u, hu, hr⟩ := h (i + 1) v (by simpa using hi)
      exact ⟨u, by simpa using hu, hr⟩⟩
theorem VRL.append {ρ : Rho} : ∀ {a a' b b' : List Value}, VRL ρ a a' → VRL ρ b b' → VRL ρ (a ++ b) (a' ++ b')
  | [], a', b, b', h, k => by simp only [VRL] at h; subst h; simpa using k
  | x :: a, _, b, b', h, k => by
    obtain ⟨v', r, rfl, hv, hr⟩ := h
    exact ⟨v', r ++ b', rfl, hv, VRL.append hr k⟩
theorem VRL.take {ρ : Rho} : ∀ (n : Nat) {a a' : List Value}, VRL ρ a a' → VRL ρ (a.take n) (a'.take n)
  | 0, _, _, _ => by simp [VRL]
  | n + 1, [], _, h => by simp only [VRL] at h; subst h; simp [VRL]
  | n + 1, x :: a, _, h => by
    obtain ⟨v', r, rfl, hv, hr⟩ := h
    exact ⟨v', r.take n, by simp, hv, VRL.take n hr⟩
theorem VRL.drop {ρ : Rho} : ∀ (n : Nat) {a a' : List Value}, VRL ρ a a' → VRL ρ (a.drop n) (a'.drop n)
  | 0, _, _, h => by simpa using h
  | n + 1, [], _, h => by simp only [VRL] at h; subst h; simp [VRL]
  | n + 1, x :: a, _, h => by
    obtain ⟨v', r, rfl, hv, hr⟩ := h
    simpa using VRL.drop n hr
theorem VRL.splice {ρ : Rho} {cs cs' vs vs' : List Value} (h : VRL ρ cs cs') (k : VRL ρ vs vs') (o : Nat) : VRL ρ (splice cs o vs) (splice cs' o vs') := by
  unfold Abs.splice
  rw [k.length]
  exact ((h.take o).append k).append (h.drop _)
theorem VRA.toList {ρ : Rho} {a a' : Array Value} : VRA ρ a a' ↔ VRL ρ a.toList a'.toList := by
  cases a; simp [VRA]
theorem VRA.mk {ρ : Rho} {l l' : List Value} (h : VRL ρ l l') : VRA ρ l.toArray l'.toArray := by simpa [VRA] using h
theorem VRA.size {ρ : Rho} {a a' : Array Value} (h : VRA ρ a a') : a'.size = a.size := by
  have := (VRA.toList.1 h).length
  simpa using this
theorem VRA.get {ρ : Rho} {a a' : Array Value} (h : VRA ρ a a') (i : Nat) (v : Value) (hi : a[i]? = some v) : ∃ v', a'[i]? = some v' ∧ VR ρ v v' := by
  have := (VRA.toList.1 h).get i v (by simpa using hi)
  simpa using this
theorem VR.undef {ρ : Rho} : VR ρ undef undef := by
  show VR ρ (.tuple #[]) (.tuple #[])
  exact ⟨#[], by simp [VRA, VRL], rfl⟩
theorem VRA.getD {ρ : Rho} {a a' : Array Value} (h : VRA ρ a a') (i : Nat) : VR ρ (a.getD i undef) (a'.getD i undef) := by
  by_cases hi : i < a.size
  · obtain ⟨v', hv, hr⟩ := h.get i a[i] (by simp [hi])
    have h2 : i < a'.size := by rw [h.size]; exact hi
    simp only [Array.getD_eq_getD_getElem?, hv, Array.getElem?_eq_getElem hi, Option.getD_some]
    exact hr
  · have h2 : ¬ i < a'.size := by rw [h.size]; exact hi
    simp only [Array.getD_eq_getD_getElem?, Array.getElem?_eq_none (Nat.le_of_not_lt hi), Array.getElem?_eq_none (Nat.le_of_not_lt h2), Option.getD_none]
    exact VR.undef
theorem VRA.set {ρ : Rho} {a a' : Array Value} (h : VRA ρ a a') {v v' : Value} (k : VR ρ v v') (i : Nat) : VRA ρ (a.setIfInBounds i v) (a'.setIfInBounds i v') := by
  rw [VRA.toList] at h ⊢
  simp only [Array.toList_setIfInBounds]
  refine VRL.of_get (by simp [h.length]) fun j u hj => ?_
  by_cases hij : i = j
  · subst hij
    rw [List.getElem?_set_self' ] at hj
    cases hg : a.toList[i]? with
    | none => simp [hg] at hj
    | some w0 =>
      simp [hg] at hj
      subst hj
      obtain ⟨w1, hw1, _⟩ := h.get i w0 hg
      exact ⟨v', by simp [List.getElem?_set_self', hw1], k⟩
  · rw [List.getElem?_set_ne hij] at hj
    obtain ⟨u', hu, hr⟩ := h.get j u hj
    exact ⟨u', by rw [List.getElem?_set_ne hij]; exact hu, hr⟩
theorem VR.oneCell {ρ : Rho} {v v' : Value} (h : VR ρ v v') : v'.oneCell' = v.oneCell' := by
  cases v with
  | bool | int | float | complex | string | nilFunc | nilIface => simp only [VR] at h; subst h; rfl
  | pointer a => cases a with
    | none => simp only [VR] at h; subst h; rfl
    | some a => obtain ⟨_, _, rfl⟩ := h; rfl
  | slice a l c => cases a with
    | none => simp only [VR] at h; subst h; rfl
    | some a => obtain ⟨_, _, _, rfl⟩ := h; rfl
  | map r => cases r with
    | none => simp only [VR] at h; subst h; rfl
    | some a => obtain ⟨_, _, rfl⟩ := h; rfl
  | chan r => cases r with
    | none => simp only [VR] at h; subst h; rfl
    | some a => simp [VR] at h
  | func fn fs cs => obtain ⟨_, _, _, _, rfl⟩ := h; rfl
  | iface t v => obtain ⟨_, _, rfl⟩ := h; rfl
  | agg cs => obtain ⟨_, _, rfl⟩ := h; rfl
  | tuple cs => obtain ⟨_, _, rfl⟩ := h; rfl
theorem VR.cells {ρ : Rho} {v v' : Value} (h : VR ρ v v') : VRA ρ v.cells v'.cells := by
  have one : ∀ u u' : Value, VR ρ u u' → VRA ρ #[u] #[u'] := fun u u' k => ⟨u', [], rfl, k, rfl⟩
  cases v with
  | bool | int | float | complex | string | nilFunc | nilIface => simp only [VR] at h; subst h; exact one _ _ (by simp [VR])
  | pointer a => cases a with
    | none => simp only [VR] at h; subst h; exact one _ _ (by simp [VR])
    | some a => obtain ⟨a', k, rfl⟩ := h; exact one _ _ ⟨a', k, rfl⟩
  | slice a l c => cases a with
    | none => simp only [VR] at h; subst h; exact one _ _ (by simp [VR])
    | some a => obtain ⟨k, e, he, rfl⟩ := h; exact one _ _ ⟨k, e, he, rfl⟩
  | map r => cases r with
    | none => simp only [VR] at h; subst h; exact one _ _ (by simp [VR])
    | some a => obtain ⟨e, he, rfl⟩ := h; exact one _ _ ⟨e, he, rfl⟩
  | chan r => cases r with
    | none => simp only [VR] at h; subst h; exact one _ _ (by simp [VR])
    | some a => simp [VR] at h
  | func fn fs cs => obtain ⟨f', c', h1, h2, rfl⟩ := h; exact one _ _ ⟨f', c', h1, h2, rfl⟩
  | iface t v => obtain ⟨u, hu, rfl⟩ := h; exact one _ _ ⟨u, hu, rfl⟩
  | agg cs => obtain ⟨c', hc, rfl⟩ := h; exact hc
  | tuple cs => obtain ⟨c', hc, rfl⟩ := h; exact one _ _ ⟨c', hc, rfl⟩
theorem oneCells_all {l : List Value} (h : oneCells l = true) : ∀ v ∈ l, v.oneCell' = true := by
  induction l with
  | nil => simp
  | cons x l ih =>
    simp only [oneCells, Bool.and_eq_true] at h
    simpa using ⟨h.1, ih h.2⟩
theorem VRL.oneCells {ρ : Rho} : ∀ {l l' : List Value}, VRL ρ l l' → oneCells l = true → oneCells l' = true
  | [], _, h, _ => by simp only [VRL] at h; subst h; rfl
  | x :: l, _, h, k => by
    obtain ⟨v', r, rfl, hv, hr⟩ := h
    simp only [Abs.oneCells, Bool.and_eq_true] at k ⊢
    exact ⟨by rw [hv.oneCell]; exact k.1, VRL.oneCells hr k.2⟩
theorem prun_run {α : Type} {P : Program} (w : World) : ∀ (c : Sem α) {a : α}, prun P c = some a → c.run P w = .ok a w := by
  intro c
  induction c with
  | pure a => intro b h; simp only [prun, Option.some.injEq] at h; subst h; rfl
  | program k ih => intro b h; simp only [prun] at h; simp only [Sem.run]; exact ih P h
  | mark m k ih => intro b h; simp only [prun] at h; simp only [Sem.run]; exact ih h
  | load | store | new | shape | freeze | frozen | getObj | setObj | choose | sys | halt => intro b h; simp [prun] at h
end Go.Abs
