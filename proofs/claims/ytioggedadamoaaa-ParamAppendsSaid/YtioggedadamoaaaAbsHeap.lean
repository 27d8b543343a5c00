/- The abstract heap's laws; what a world has to do with it. -/
import Derived.Test.YtioggedadamoaaaAbsRel
set_option autoImplicit false
set_option linter.unusedVariables false
namespace Go.Abs
open Go.RowKit
theorem bif_beq {α : Type} (i j : Nat) (x y : α) : (bif Nat.beq i j then x else y) = if i = j then x else y := by
  cases h : Nat.beq i j with
  | true => rw [if_pos (Nat.eq_of_beq_eq_true h)]; rfl
  | false => rw [if_neg (Nat.ne_of_beq_eq_false h)]; rfl
theorem Tr.get_nil (i : Nat) : Tr.nil.get i = .dead := rfl
theorem Tr.get_node (l r : Tr) (o : AObj) (i : Nat) : (Tr.node l o r).get i = if i = 0 then o else if i % 2 = 1 then l.get (i / 2) else r.get (i / 2 - 1) := by
  rw [Tr.get, bif_beq, bif_beq]
theorem Tr.put_nil (f i : Nat) (x : AObj) : Tr.put (f + 1) .nil i x = if i = 0 then .node .nil x .nil else if i % 2 = 1 then .node (Tr.put f .nil (i / 2) x) .dead .nil else .node .nil .dead (Tr.put f .nil (i / 2 - 1) x) := by
  rw [Tr.put, bif_beq, bif_beq]
theorem Tr.put_node (f i : Nat) (l r : Tr) (o x : AObj) : Tr.put (f + 1) (.node l o r) i x = if i = 0 then .node l x r else if i % 2 = 1 then .node (Tr.put f l (i / 2) x) o r else .node l o (Tr.put f r (i / 2 - 1) x) := by
  rw [Tr.put, bif_beq, bif_beq]
theorem bif_blt {α : Type} (i n : Nat) (x y : α) : (bif Nat.blt i n then x else y) = if i < n then x else y := by
  cases h : Nat.blt i n with
  | true => rw [if_pos (show i < n from Nat.le_of_ble_eq_true h)]; rfl
  | false =>
    rw [if_neg (fun k : i < n => by
      have : Nat.blt i n = true := Nat.ble_eq_true_of_le k
      rw [h] at this; cases this)]
    rfl
theorem Tr.get_hp (s : List AObj) (g : Nat → AObj) (i : Nat) : (Tr.hp s g).get i = if i < 64 then getO s i else g (i - 64) := by
  rw [Tr.get, bif_blt]
theorem getO_set : ∀ (l : List AObj) (i j : Nat) (x : AObj), getO (setO l i x) j = if j = i then x else getO l j
  | [], 0, 0, x => rfl
  | [], 0, j + 1, x => by simp [setO, getO]
  | [], i + 1, 0, x => by simp [setO, getO]
  | [], i + 1, j + 1, x => by
    show getO (setO [] i x) j = _
    rw [getO_set [] i j x]
    simp [getO]
  | o :: l, 0, 0, x => rfl
  | o :: l, 0, j + 1, x => by simp [setO, getO]
  | o :: l, i + 1, 0, x => by simp [setO, getO]
  | o :: l, i + 1, j + 1, x => by
    show getO (setO l i x) j = _
    rw [getO_set l i j x]
    simp [getO]
theorem Tr.put_hp (f i : Nat) (s : List AObj) (g : Nat → AObj) (x : AObj) : Tr.put (f + 1) (.hp s g) i x = if i < 64 then .hp (setO s i x) g else .hp s (fun j => if j = i - 64 then x else g j) := by
  rw [Tr.put]
  have e : (fun j => bif Nat.beq j (i - 64) then x else g j) = fun j => if j = i - 64 then x else g j := funext fun j => bif_beq _ _ _ _
  rw [e]
  rw [bif_blt]
theorem Tr.get_put : ∀ (f : Nat) (t : Tr) (i j : Nat) (x : AObj), i < f → (Tr.put f t i x).get j = if j = i then x else t.get j := by
  intro f
  induction f with
  | zero => intro t i j x h; omega
  | succ f ih =>
    intro t i j x h
    have main : ∀ (l r : Tr) (o : AObj), (if i = 0 then Tr.node l x r else if i % 2 = 1 then .node (Tr.put f l (i / 2) x) o r else .node l o (Tr.put f r (i / 2 - 1) x)).get j = if j = i then x else (Tr.node l o r).get j := by
      intro l r o
      rw [Tr.get_node]
      by_cases hi : i = 0
      · subst hi
        rw [if_pos rfl, Tr.get_node]
        by_cases hj : j = 0
        · simp [hj]
        · simp [hj]
      · rw [if_neg hi]
        by_cases hm : i % 2 = 1
        · rw [if_pos hm, Tr.get_node]
          by_cases hj : j = 0
          · rw [if_pos hj, if_pos hj, if_neg (by omega)]
          · rw [if_neg hj, if_neg hj]
            by_cases hn : j % 2 = 1
            · rw [if_pos hn, if_pos hn, ih _ _ _ _ (by omega)]
              by_cases e : j = i
              · subst e; simp
              · rw [if_neg e, if_neg (by omega)]
            · rw [if_neg hn, if_neg hn, if_neg (by rintro rfl; exact hn hm)]
        · rw [if_neg hm, Tr.get_node]
          by_cases hj : j = 0
          · rw [if_pos hj, if_pos hj, if_neg (by omega)]
          · rw [if_neg hj, if_neg hj]
            by_cases hn : j % 2 = 1
            · rw [if_pos hn, if_pos hn, if_neg (by rintro rfl; exact hm hn)]
            · rw [if_neg hn, if_neg hn, ih _ _ _ _ (by omega)]
              by_cases e : j = i
              · subst e; simp
              · rw [if_neg e, if_neg (by omega)]
    cases t with
    | nil =>
      have := main .nil .nil .dead
      rw [Tr.put_nil, this, Tr.get_node, Tr.get_nil, Tr.get_nil, Tr.get_nil]
      simp
    | node l o r => rw [Tr.put_node]; exact main l r o
    | hp s g =>
      rw [Tr.put_hp]
      by_cases hi : i < 64
      · rw [if_pos hi, Tr.get_hp, Tr.get_hp, getO_set]
        by_cases hj : j = i
        · subst hj; simp [hi]
        · simp [hj]
      · rw [if_neg hi, Tr.get_hp, Tr.get_hp]
        by_cases hj : j < 64
        · have : j ≠ i := by omega
          simp [hj, this]
        · have e : (j - 64 = i - 64) ↔ j = i := by omega
          simp [hj, e]
theorem AW.get_set (A : AW) (b c : Nat) (x : AObj) : (A.set b x).get c = if c = b then x else A.get c := Tr.get_put _ _ _ _ _ (by omega)
theorem AW.get_push (A : AW) (c : Nat) (x : AObj) : (A.push x).get c = if c = A.nid then x else A.get c := by
  unfold AW.push AW.nid
  cases A.nx with
  | none => exact Tr.get_put _ _ _ _ _ (by omega)
  | some r => exact Tr.get_put _ _ _ _ _ (by omega)
@[simp] theorem AW.size_set (A : AW) (b : Nat) (x : AObj) : (A.set b x).size = A.size := rfl
@[simp] theorem AW.nid_set (A : AW) (b : Nat) (x : AObj) : (A.set b x).nid = A.nid := rfl
theorem AW.push_nx {A : AW} (h : A.nx = none) (x : AObj) : (A.push x).nx = none := by
  unfold AW.push
  rw [h]
theorem AW.size_push_le (A : AW) (x : AObj) : A.size ≤ (A.push x).size := by
  unfold AW.push
  cases A.nx with
  | none => exact Nat.le_succ _
  | some r => exact Nat.le_refl _
theorem AW.size_push_none (A : AW) (x : AObj) (h : A.nx = none) : (A.push x).size = A.size + 1 := by
  unfold AW.push
  rw [h]
def entsRel (ρ : Rho) : List MapEntry → List MapEntry → Prop
  | [], l' => l' = []
  | x :: l, l' => ∃ y r, l' = y :: r ∧ y.key = x.key ∧ Abs.ground x.key = true ∧ VR ρ x.val y.val ∧ y.born = x.born ∧ entsRel ρ l r
def frOk (fr : Nat × Nat) (n : Nat) : Prop := fr.1 = fr.2 ∨ n ≤ fr.1
theorem frOk.no {fr : Nat × Nat} {n : Nat} (h : frOk fr n) : ∀ i, i < n → ¬ (fr.1 ≤ i ∧ i < fr.2) := by
  intro i hi
  rcases h with h | h <;> omega
structure Kept (K : Nat → Prop) (w w' : World) : Prop where
  os : w'.os = w.os
  tape : w'.tape = w.tape
  output : w'.output = w.output
  size : w.heap.size ≤ w'.heap.size
  block : ∀ k, K k → w'.heap[k]? = w.heap[k]?
  shape : ∀ (k : Nat) (rc : Array Value) (t : TypeId) (fr : Nat × Nat), w.heap[k]? = some (Obj.cells rc t fr) → ∃ (rc' : Array Value) (fr' : Nat × Nat), w'.heap[k]? = some (Obj.cells rc' t fr') ∧ rc'.size = rc.size
theorem shape_one {w w' : World} {b : Nat} {rc rc' : Array Value} {t : TypeId} {fr fr' : Nat × Nat} (h : w.heap[b]? = some (.cells rc t fr)) (h' : w'.heap[b]? = some (.cells rc' t fr')) (hs : rc'.size = rc.size)
    (ho : ∀ k, k ≠ b → w'.heap[k]? = w.heap[k]?) : ∀ (k : Nat) (rc : Array Value) (t : TypeId) (fr : Nat × Nat), w.heap[k]? = some (Obj.cells rc t fr) → ∃ (rc' : Array Value) (fr' : Nat × Nat), w'.heap[k]? = some (Obj.cells rc' t fr') ∧ rc'.size = rc.size := by
  intro k rc2 t2 fr2 hk
  by_cases hkb : k = b
  · subst hkb
    rw [h] at hk
    simp only [Option.some.injEq, Obj.cells.injEq] at hk
    obtain ⟨rfl, rfl, rfl⟩ := hk
    exact ⟨_, _, h', hs⟩
  · exact ⟨rc2, fr2, by rw [ho k hkb]; exact hk, rfl⟩
theorem shape_map {w w' : World} {b : Nat} {es : Array MapEntry} {ck : Nat} (h : w.heap[b]? = some (.map es ck)) (ho : ∀ k, k ≠ b → w'.heap[k]? = w.heap[k]?) :
    ∀ (k : Nat) (rc : Array Value) (t : TypeId) (fr : Nat × Nat), w.heap[k]? = some (Obj.cells rc t fr) → ∃ (rc' : Array Value) (fr' : Nat × Nat), w'.heap[k]? = some (Obj.cells rc' t fr') ∧ rc'.size = rc.size := by
  intro k rc2 t2 fr2 hk
  refine ⟨rc2, fr2, ?_, rfl⟩
  rw [ho k ?_]
  · exact hk
  · rintro rfl
    rw [h] at hk; cases hk
theorem shape_all {w w' : World} (ho : ∀ k, k < w.heap.size → w'.heap[k]? = w.heap[k]?) : ∀ (k : Nat) (rc : Array Value) (t : TypeId) (fr : Nat × Nat), w.heap[k]? = some (Obj.cells rc t fr) → ∃ (rc' : Array Value) (fr' : Nat × Nat), w'.heap[k]? = some (Obj.cells rc' t fr') ∧ rc'.size = rc.size := by
  intro k rc2 t2 fr2 hk
  exact ⟨rc2, fr2, by rw [ho k (Array.getElem?_eq_some_iff.1 hk).1]; exact hk, rfl⟩
theorem Kept.refl (K : Nat → Prop) (w : World) : Kept K w w := ⟨rfl, rfl, rfl, Nat.le_refl _, fun _ _ => rfl, shape_all fun _ _ => rfl⟩
theorem Kept.trans {K : Nat → Prop} {a b c : World} (h : Kept K a b) (k : Kept K b c) : Kept K a c :=
  ⟨k.os.trans h.os, k.tape.trans h.tape, k.output.trans h.output, Nat.le_trans h.size k.size, fun i hi => (k.block i hi).trans (h.block i hi), fun i rc t fr hi => by
    obtain ⟨rc1, fr1, h1, h2⟩ := h.shape i rc t fr hi
    obtain ⟨rc2, fr2, h3, h4⟩ := k.shape i rc1 t fr1 h1
    exact ⟨rc2, fr2, h3, h4.trans h2⟩⟩
theorem Kept.drew {K : Nat → Prop} {a w : World} (h : Kept K a w) : Kept K a w.drew := ⟨h.os, h.tape, h.output, h.size, h.block, h.shape⟩
theorem Kept.alloc {K : Nat → Prop} {a w : World} (h : Kept K a w) (hB : ∀ k, K k → k < w.heap.size) (o : Obj) : Kept K a (w.alloc o) :=
  h.trans ⟨rfl, rfl, rfl, by simp, fun k hk => Below.heap_alloc _ _ _ (hB k hk), shape_all fun k hk => Below.heap_alloc _ _ _ hk⟩
theorem Kept.mono {K K' : Nat → Prop} {a w : World} (h : Kept K a w) (k : ∀ b, K' b → K b) : Kept K' a w := ⟨h.os, h.tape, h.output, h.size, fun b hb => h.block b (k b hb), h.shape⟩
theorem Kept.toBelow {B : Nat} {a w : World} (h : Kept (fun k => k < B) a w) : Below B a w := ⟨h.os, h.tape, h.output, h.size, h.block⟩
def OInv (B : Nat → Prop) (ρ : Rho) (w : World) (e : Ent) : AObj → Prop
  | .cells cs ro opn esz =>
    e.n = cs.length ∧ e.esz = esz ∧ (opn = false → e.extra = 0) ∧ (ro = true → cs = [] ∨ B e.blk) ∧ oneCells cs = true ∧
    ∃ rc t fr rs, w.heap[e.blk]? = some (.cells rc t fr) ∧ e.off + cs.length + e.extra * esz ≤ rc.size ∧
      rs = (rc.toList.drop e.off).take cs.length ∧ VRL ρ cs rs ∧
      (ro = false → ¬ B e.blk ∧ frOk fr rc.size)
  | .map es clock => ¬ B e.blk ∧ ∃ es', w.heap[e.blk]? = some (.map es' clock) ∧ entsRel ρ es es'.toList
  | .dead => True
  | .resv => False
def live : AObj → Bool
  | .cells _ ro _ _ => !ro
  | .map _ _ => true
  | .dead => false
  | .resv => false
def alive : AObj → Bool
  | .cells _ _ _ _ => true
  | .map _ _ => true
  | .dead => false
  | .resv => false
structure Inv (B : Nat → Prop) (w0 : World) (ρ : Rho) (A : AW) (w : World) : Prop where
  below : Kept B w0 w
  base : ∀ k, B k → k < w0.heap.size
  at_ : ∀ b e, ρ b = some e → b < A.size ∧ e.blk < w.heap.size ∧ OInv B ρ w e (A.get b)
  sep : ∀ b c e f, b ≠ c → ρ b = some e → ρ c = some f → live (A.get b) = true → live (A.get c) = true → e.blk ≠ f.blk
  dead_ : ∀ b, A.size ≤ b → ρ b = none
  nx_ : ∀ r, A.nx = some r → r < A.size ∧ A.get r = .resv ∧ ∀ j, r < j → j < A.win → j < A.size ∧ A.get j = .resv
  full : ∀ b, b < A.size → alive (A.get b) = true → ∃ e, ρ b = some e
theorem entsRel.ext {ρ σ : Rho} (h : Ext ρ σ) : ∀ {l l' : List MapEntry}, entsRel ρ l l' → entsRel σ l l'
  | [], _, k => k
  | x :: l, _, k => by
    obtain ⟨y, r, rfl, h1, h2, h3, h4, h5⟩ := k
    exact ⟨y, r, rfl, h1, h2, VR.ext h _ _ h3, h4, entsRel.ext h h5⟩
theorem OInv.ext {B : Nat → Prop} {ρ σ : Rho} (h : Ext ρ σ) {w : World} {e : Ent} {o : AObj} (k : OInv B ρ w e o) : OInv B σ w e o := by
  cases o with
  | cells cs ro opn esz =>
    obtain ⟨h1, h2, h3, h4, h5, rc, t, fr, rs, h6, h7, h8, h9, h10⟩ := k
    exact ⟨h1, h2, h3, h4, h5, rc, t, fr, rs, h6, h7, h8, VRL.ext h _ _ h9, h10⟩
  | map es clock =>
    obtain ⟨h1, es', h2, h3⟩ := k
    exact ⟨h1, es', h2, h3.ext h⟩
  | dead => trivial
  | resv => exact k.elim
theorem OInv.block {B : Nat → Prop} {ρ : Rho} {w w' : World} {e : Ent} {o : AObj} (k : OInv B ρ w e o) (h : w'.heap[e.blk]? = w.heap[e.blk]?) : OInv B ρ w' e o := by
  cases o with
  | cells cs ro opn esz =>
    obtain ⟨h1, h2, h3, h4, h5, rc, t, fr, rs, h6, h7, h8, h9, h10⟩ := k
    exact ⟨h1, h2, h3, h4, h5, rc, t, fr, rs, by rw [h]; exact h6, h7, h8, h9, h10⟩
  | map es clock =>
    obtain ⟨h1, es', h2, h3⟩ := k
    exact ⟨h1, es', by rw [h]; exact h2, h3⟩
  | dead => trivial
  | resv => exact k.elim
theorem Inv.heap {B : Nat → Prop} {w0 : World} {ρ : Rho} {A : AW} {w w' : World} (h : Inv B w0 ρ A w) (hb : Kept B w0 w') (hh : w'.heap = w.heap) : Inv B w0 ρ A w' :=
  ⟨hb, h.base, fun b e hb => by
    obtain ⟨h1, h2, h3⟩ := h.at_ b e hb
    exact ⟨h1, by rw [hh]; exact h2, h3.block (by rw [hh])⟩, h.sep, h.dead_, h.nx_, h.full⟩
theorem Inv.notKept {B : Nat → Prop} {w0 : World} {ρ : Rho} {A : AW} {w : World} (h : Inv B w0 ρ A w) {b : Nat} {e : Ent} (hb : ρ b = some e) : A.get b ≠ .resv := fun k => by
  have := (h.at_ b e hb).2.2
  rw [k] at this
  exact this
theorem Inv.nx_ne {B : Nat → Prop} {w0 : World} {ρ : Rho} {A : AW} {w : World} (h : Inv B w0 ρ A w) {b : Nat} {e : Ent} (hb : ρ b = some e) (x : AObj) : ∀ r, (A.set b x).nx = some r → r < (A.set b x).size ∧ (A.set b x).get r = .resv ∧ ∀ j, r < j → j < (A.set b x).win → j < (A.set b x).size ∧ (A.set b x).get j = .resv := fun r hr => by
  obtain ⟨h1, h2, h3⟩ := h.nx_ r hr
  have key : ∀ j, A.get j = .resv → (A.set b x).get j = .resv := by
    intro j hj
    rw [AW.get_set, if_neg ?_]
    · exact hj
    · rintro rfl
      exact h.notKept hb hj
  exact ⟨h1, key r h2, fun j k1 k2 => ⟨(h3 j k1 k2).1, key j (h3 j k1 k2).2⟩⟩
theorem Inv.full_set {B : Nat → Prop} {w0 : World} {ρ : Rho} {A : AW} {w : World} (h : Inv B w0 ρ A w) {b : Nat} {e : Ent} (hb : ρ b = some e) (x : AObj) : ∀ c, c < (A.set b x).size → alive ((A.set b x).get c) = true → ∃ f, ρ c = some f := fun c h1 h2 => by
  rw [AW.get_set] at h2
  by_cases hc : c = b
  · subst hc; exact ⟨e, hb⟩
  · rw [if_neg hc] at h2; exact h.full c h1 h2
theorem Inv.free {B : Nat → Prop} {w0 : World} {ρ : Rho} {A : AW} {w : World} (h : Inv B w0 ρ A w) : ρ A.nid = none := by
  unfold AW.nid
  cases hn : A.nx with
  | none => exact h.dead_ _ (Nat.le_refl _)
  | some r =>
    simp only
    cases hr : ρ r with
    | none => rfl
    | some e => exact (h.notKept hr (h.nx_ r hn).2.1).elim
theorem Inv.nid_lt {B : Nat → Prop} {w0 : World} {ρ : Rho} {A : AW} {w : World} (h : Inv B w0 ρ A w) (x : AObj) : A.nid < (A.push x).size := by
  unfold AW.nid AW.push
  cases hn : A.nx with
  | none => exact Nat.lt_succ_self _
  | some r => exact (h.nx_ r hn).1
theorem Inv.past {B : Nat → Prop} {w0 : World} {ρ : Rho} {A : AW} {w : World} (h : Inv B w0 ρ A w) (x : AObj) {b : Nat} (hb : (A.push x).size ≤ b) : b ≠ A.nid ∧ A.size ≤ b := by
  have h1 := h.nid_lt x
  have h2 := A.size_push_le x
  exact ⟨by omega, by omega⟩
theorem Inv.push_nx_ {B : Nat → Prop} {w0 : World} {ρ : Rho} {A : AW} {w : World} (h : Inv B w0 ρ A w) {x : AObj} : ∀ r, (A.push x).nx = some r → r < (A.push x).size ∧ (A.push x).get r = .resv ∧ ∀ j, r < j → j < (A.push x).win → j < (A.push x).size ∧ (A.push x).get j = .resv := fun r hr => by
  cases hn : A.nx with
  | none => rw [AW.push_nx hn] at hr; cases hr
  | some q =>
    obtain ⟨h1, h2, h3⟩ := h.nx_ q hn
    have hnid : A.nid = q := by unfold AW.nid; rw [hn]
    have hsz : (A.push x).size = A.size := by unfold AW.push; rw [hn]
    have hwin : (A.push x).win = A.win := by unfold AW.push; rw [hn]
    have hnx : (A.push x).nx = bif Nat.blt (q + 1) A.win then some (q + 1) else none := by unfold AW.push; rw [hn]
    rw [hnx] at hr
    cases hb : Nat.blt (q + 1) A.win with
    | false => rw [hb] at hr; cases hr
    | true =>
      rw [hb] at hr
      obtain rfl := Option.some.inj hr
      have hlt : q + 1 < A.win := Nat.le_of_ble_eq_true hb
      have key : ∀ j, q < j → j < A.win → j < (A.push x).size ∧ (A.push x).get j = .resv := by
        intro j k1 k2
        rw [hsz, AW.get_push, hnid, if_neg (by omega)]
        exact h3 j k1 k2
      exact ⟨(key (q + 1) (by omega) hlt).1, (key (q + 1) (by omega) hlt).2, fun j k1 k2 => key j (by omega) (by rw [← hwin]; exact k2)⟩
theorem Inv.full_push {B : Nat → Prop} {w0 : World} {ρ : Rho} {A : AW} {w : World} (h : Inv B w0 ρ A w) (x : AObj) {ρ1 : Rho} (h1 : ∃ e, ρ1 A.nid = some e) (h2 : ∀ b, b ≠ A.nid → ρ1 b = ρ b) : ∀ c, c < (A.push x).size → alive ((A.push x).get c) = true → ∃ f, ρ1 c = some f := fun c k1 k2 => by
  by_cases hc : c = A.nid
  · subst hc; exact h1
  · rw [AW.get_push, if_neg hc] at k2
    rw [h2 c hc]
    refine h.full c ?_ k2
    unfold AW.push at k1
    unfold AW.nid at hc
    cases hn : A.nx with
    | none => rw [hn] at k1 hc; simp only at k1 hc; omega
    | some q => rw [hn] at k1; exact k1
theorem Inv.drew {B : Nat → Prop} {w0 : World} {ρ : Rho} {A : AW} {w : World} (h : Inv B w0 ρ A w) : Inv B w0 ρ A w.drew := h.heap h.below.drew rfl
theorem cell_in {w : World} {b : Nat} {rc : Array Value} {t : TypeId} {fr : Nat × Nat} (h : w.heap[b]? = some (.cells rc t fr)) (o : Nat) : w.cell? ⟨b, o, none⟩ = rc[o]? := by
  simp [World.cell?, h]
theorem addr_add (b o k : Nat) : (⟨b, o, none⟩ : Addr).add k = ⟨b, o + k, none⟩ := by
  unfold Addr.add; split <;> simp_all
theorem add_block {a : Addr} (h : a.spot = none) (k : Nat) : (a.add k).block = a.block ∧ (a.add k).off = a.off + k ∧ (a.add k).spot = none := by
  unfold Addr.add; split <;> simp_all
theorem AR.add {ρ : Rho} {a a' : Addr} (h : AR ρ a a') (k : Nat) : AR ρ (a.add k) (a'.add k) := by
  obtain ⟨hs, e, he, rfl⟩ := h
  obtain ⟨h1, h2, h3⟩ := add_block hs k
  exact ⟨h3, e, by rw [h1]; exact he, by rw [addr_add, h2, Nat.add_assoc]⟩
theorem Inv.loadN {B : Nat → Prop} {w0 : World} {ρ : Rho} {A : AW} {w : World} (h : Inv B w0 ρ A w) {a a' : Addr} (ha : AR ρ a a') {n : Nat} {vs : List Value} (hl : A.loadN a n = some vs) :
    ∃ vs', VRL ρ vs vs' ∧ vs.length = n ∧ oneCells vs = true ∧ (∀ j v, vs'[j]? = some v → w.cell? (a'.add j) = some v) := by
  obtain ⟨hs, e, he, rfl⟩ := ha
  obtain ⟨_, _, ho⟩ := h.at_ _ _ he
  unfold AW.loadN at hl
  rw [hs] at hl
  simp only at hl
  cases hg : A.get a.block with
  | dead => simp [hg] at hl
  | resv => simp [hg] at hl
  | map es c => simp [hg] at hl
  | cells cs ro opn esz =>
    rw [hg] at hl ho
    simp only at hl
    cases hb : Nat.ble (a.off + n) cs.length with
    | false => simp [hb] at hl
    | true =>
      have hble : a.off + n ≤ cs.length := Nat.le_of_ble_eq_true hb
      simp only [hb, cond_true, Option.some.injEq] at hl
      obtain ⟨h1, h2, h3, h4, h5, rc, t, fr, rs, h6, h7, h8, h9, h10⟩ := ho
      refine ⟨(rs.drop a.off).take n, ?_, ?_, ?_, ?_⟩
      · rw [← hl]; exact (h9.drop _).take _
      · rw [← hl]; simp; omega
      · rw [← hl]
        have hall := oneCells_all h5
        have key : ∀ l : List Value, (∀ v ∈ l, v.oneCell' = true) → oneCells l = true := by
          intro l
          induction l with
          | nil => intro _; rfl
          | cons x l ih => intro hx; simp only [Abs.oneCells, Bool.and_eq_true]; exact ⟨hx x (by simp), ih fun v hv => hx v (by simp [hv])⟩
        exact key _ fun v hv => hall v (List.mem_of_mem_drop (List.mem_of_mem_take hv))
      · intro j v hj
        rw [addr_add, cell_in h6]
        have hjn : j < n := by
          have := (List.getElem?_eq_some_iff.1 hj).1
          simp at this; omega
        rw [List.getElem?_take_of_lt hjn, List.getElem?_drop, h8, List.getElem?_take_of_lt (by omega), List.getElem?_drop] at hj
        rw [← hj]
        simp [Nat.add_assoc]
end Go.Abs
