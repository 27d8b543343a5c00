/- Abstract heaps with other numbers; a part of a heap by itself, and back. -/
import Derived.Test.YtioggedadamoaaaAbsJD
set_option autoImplicit false
set_option linter.unusedVariables false
set_option linter.unusedSimpArgs false
namespace Go.Abs
open Go.RowKit
mutual
def ren (τ : Nat → Nat) : Value → Value
  | .bool b => .bool b
  | .int k n => .int k n
  | .float k n => .float k n
  | .complex k a b => .complex k a b
  | .string s => .string s
  | .pointer none => .pointer none
  | .pointer (some a) => .pointer (some { a with block := τ a.block })
  | .slice none l c => .slice none l c
  | .slice (some a) l c => .slice (some { a with block := τ a.block }) l c
  | .map none => .map none
  | .map (some r) => .map (some (τ r))
  | .chan r => .chan r
  | .func fn fs cs => .func fn (renA τ fs) (renA τ cs)
  | .nilFunc => .nilFunc
  | .iface t v => .iface t (ren τ v)
  | .nilIface => .nilIface
  | .agg cs => .agg (renA τ cs)
  | .tuple cs => .tuple (renA τ cs)
def renA (τ : Nat → Nat) : Array Value → Array Value
  | ⟨l⟩ => ⟨renL τ l⟩
def renL (τ : Nat → Nat) : List Value → List Value
  | [] => []
  | v :: l => ren τ v :: renL τ l
end
mutual
theorem VR_ren {ρ : Rho} {τ : Nat → Nat} : ∀ (v v' : Value), VR ρ (ren τ v) v' ↔ VR (fun b => ρ (τ b)) v v'
  | .bool _, _ => Iff.rfl
  | .int _ _, _ => Iff.rfl
  | .float _ _, _ => Iff.rfl
  | .complex _ _ _, _ => Iff.rfl
  | .string _, _ => Iff.rfl
  | .pointer none, _ => Iff.rfl
  | .pointer (some a), _ => Iff.rfl
  | .slice none _ _, _ => Iff.rfl
  | .slice (some a) _ _, _ => Iff.rfl
  | .map none, _ => Iff.rfl
  | .map (some r), _ => Iff.rfl
  | .chan none, _ => Iff.rfl
  | .chan (some _), _ => Iff.rfl
  | .func fn fs cs, v' => by
    show (∃ fs' cs', VRA ρ (renA τ fs) fs' ∧ VRA ρ (renA τ cs) cs' ∧ v' = .func fn fs' cs') ↔ ∃ fs' cs', VRA _ fs fs' ∧ VRA _ cs cs' ∧ v' = .func fn fs' cs'
    constructor
    · rintro ⟨f, c, h1, h2, h3⟩; exact ⟨f, c, (VRA_ren fs f).1 h1, (VRA_ren cs c).1 h2, h3⟩
    · rintro ⟨f, c, h1, h2, h3⟩; exact ⟨f, c, (VRA_ren fs f).2 h1, (VRA_ren cs c).2 h2, h3⟩
  | .nilFunc, _ => Iff.rfl
  | .iface t v, v' => by
    show (∃ u, VR ρ (ren τ v) u ∧ v' = .iface t u) ↔ ∃ u, VR _ v u ∧ v' = .iface t u
    constructor
    · rintro ⟨u, h1, h2⟩; exact ⟨u, (VR_ren v u).1 h1, h2⟩
    · rintro ⟨u, h1, h2⟩; exact ⟨u, (VR_ren v u).2 h1, h2⟩
  | .nilIface, _ => Iff.rfl
  | .agg cs, v' => by
    show (∃ u, VRA ρ (renA τ cs) u ∧ v' = .agg u) ↔ ∃ u, VRA _ cs u ∧ v' = .agg u
    constructor
    · rintro ⟨u, h1, h2⟩; exact ⟨u, (VRA_ren cs u).1 h1, h2⟩
    · rintro ⟨u, h1, h2⟩; exact ⟨u, (VRA_ren cs u).2 h1, h2⟩
  | .tuple cs, v' => by
    show (∃ u, VRA ρ (renA τ cs) u ∧ v' = .tuple u) ↔ ∃ u, VRA _ cs u ∧ v' = .tuple u
    constructor
    · rintro ⟨u, h1, h2⟩; exact ⟨u, (VRA_ren cs u).1 h1, h2⟩
    · rintro ⟨u, h1, h2⟩; exact ⟨u, (VRA_ren cs u).2 h1, h2⟩
theorem VRA_ren {ρ : Rho} {τ : Nat → Nat} : ∀ (v v' : Array Value), VRA ρ (renA τ v) v' ↔ VRA (fun b => ρ (τ b)) v v'
  | ⟨l⟩, l' => VRL_ren l l'.toList
theorem VRL_ren {ρ : Rho} {τ : Nat → Nat} : ∀ (v v' : List Value), VRL ρ (renL τ v) v' ↔ VRL (fun b => ρ (τ b)) v v'
  | [], _ => Iff.rfl
  | v :: l, l' => by
    show (∃ v' r, l' = v' :: r ∧ VR ρ (ren τ v) v' ∧ VRL ρ (renL τ l) r) ↔ ∃ v' r, l' = v' :: r ∧ VR _ v v' ∧ VRL _ l r
    constructor
    · rintro ⟨u, r, h1, h2, h3⟩; exact ⟨u, r, h1, (VR_ren v u).1 h2, (VRL_ren l r).1 h3⟩
    · rintro ⟨u, r, h1, h2, h3⟩; exact ⟨u, r, h1, (VR_ren v u).2 h2, (VRL_ren l r).2 h3⟩
end
mutual
theorem ren_ground {τ : Nat → Nat} : ∀ (v : Value), Abs.ground v = true → ren τ v = v
  | .bool _, _ => rfl
  | .int _ _, _ => rfl
  | .float _ _, _ => rfl
  | .complex _ _ _, _ => rfl
  | .string _, _ => rfl
  | .pointer none, _ => rfl
  | .pointer (some _), g => by simp [Abs.ground] at g
  | .slice none _ _, _ => rfl
  | .slice (some _) _ _, g => by simp [Abs.ground] at g
  | .map none, _ => rfl
  | .map (some _), g => by simp [Abs.ground] at g
  | .chan r, _ => rfl
  | .func fn fs cs, g => by
    simp only [Abs.ground, Bool.and_eq_true] at g
    show Value.func fn (renA τ fs) (renA τ cs) = _
    rw [renA_ground fs g.1, renA_ground cs g.2]
  | .nilFunc, _ => rfl
  | .iface t v, g => by
    simp only [Abs.ground] at g
    show Value.iface t (ren τ v) = _
    rw [ren_ground v g]
  | .nilIface, _ => rfl
  | .agg cs, g => by
    simp only [Abs.ground] at g
    show Value.agg (renA τ cs) = _
    rw [renA_ground cs g]
  | .tuple cs, g => by
    simp only [Abs.ground] at g
    show Value.tuple (renA τ cs) = _
    rw [renA_ground cs g]
theorem renA_ground {τ : Nat → Nat} : ∀ (v : Array Value), groundA v = true → renA τ v = v
  | ⟨l⟩, g => by
    show (⟨renL τ l⟩ : Array Value) = _
    rw [renL_ground l g]
theorem renL_ground {τ : Nat → Nat} : ∀ (v : List Value), groundL v = true → renL τ v = v
  | [], _ => rfl
  | v :: l, g => by
    simp only [groundL, Bool.and_eq_true] at g
    show ren τ v :: renL τ l = _
    rw [ren_ground v g.1, renL_ground l g.2]
end
theorem renL_length (τ : Nat → Nat) : ∀ (a : List Value), (renL τ a).length = a.length
  | [] => rfl
  | v :: a => by show (renL τ a).length + 1 = _; rw [renL_length τ a]; rfl
theorem oneCell_ren (τ : Nat → Nat) (v : Value) : (ren τ v).oneCell' = v.oneCell' := by
  cases v with
  | pointer a => cases a <;> rfl
  | slice a l c => cases a <;> rfl
  | map a => cases a <;> rfl
  | _ => rfl
theorem oneCells_ren (τ : Nat → Nat) : ∀ (a : List Value), oneCells (renL τ a) = oneCells a
  | [] => rfl
  | v :: a => by
    show ((ren τ v).oneCell' && oneCells (renL τ a)) = _
    rw [oneCell_ren, oneCells_ren τ a]; rfl
def renE (τ : Nat → Nat) : List MapEntry → List MapEntry
  | [] => []
  | e :: l => { e with val := ren τ e.val } :: renE τ l
def renO (τ : Nat → Nat) : AObj → AObj
  | .cells cs ro opn esz => .cells (renL τ cs) ro opn esz
  | .map es c => .map (renE τ es) c
  | .dead => .dead
  | .resv => .resv
theorem entsRel_ren {ρ : Rho} {τ : Nat → Nat} : ∀ {l l' : List MapEntry}, entsRel ρ (renE τ l) l' ↔ entsRel (fun b => ρ (τ b)) l l'
  | [], _ => Iff.rfl
  | x :: l, l' => by
    show (∃ y r, l' = y :: r ∧ y.key = x.key ∧ Abs.ground x.key = true ∧ VR ρ (ren τ x.val) y.val ∧ y.born = x.born ∧ entsRel ρ (renE τ l) r) ↔
      ∃ y r, l' = y :: r ∧ y.key = x.key ∧ Abs.ground x.key = true ∧ VR _ x.val y.val ∧ y.born = x.born ∧ entsRel _ l r
    constructor
    · rintro ⟨y, r, h1, h2, h3, h4, h5, h6⟩; exact ⟨y, r, h1, h2, h3, (VR_ren _ _).1 h4, h5, entsRel_ren.1 h6⟩
    · rintro ⟨y, r, h1, h2, h3, h4, h5, h6⟩; exact ⟨y, r, h1, h2, h3, (VR_ren _ _).2 h4, h5, entsRel_ren.2 h6⟩
theorem OInv_ren {K : Nat → Prop} {ρ : Rho} {τ : Nat → Nat} {w : World} {e : Ent} {o : AObj} : OInv K ρ w e (renO τ o) ↔ OInv K (fun b => ρ (τ b)) w e o := by
  cases o with
  | cells cs ro opn esz =>
    have hn : renL τ cs = [] ↔ cs = [] := by cases cs <;> simp [renL]
    simp only [renO, OInv, renL_length, oneCells_ren, VRL_ren, hn]
  | map es c => simp only [renO, OInv, entsRel_ren]
  | dead => exact Iff.rfl
  | resv => exact Iff.rfl
theorem live_ren (τ : Nat → Nat) (o : AObj) : live (renO τ o) = live o := by cases o <;> rfl
theorem alive_ren (τ : Nat → Nat) (o : AObj) : alive (renO τ o) = alive o := by cases o <;> rfl
theorem alive_not_resv {o : AObj} (h : alive o = true) : o ≠ .resv := by rintro rfl; cases h
def NxOk (A : AW) : Prop := ∀ r, A.nx = some r → r < A.size ∧ A.get r = .resv ∧ ∀ j, r < j → j < A.win → j < A.size ∧ A.get j = .resv
section
variable {K : Nat → Prop} {w0 : World} {ρ : Rho} {A : AW} {w : World}
open Classical in
theorem Inv.renum (h : Inv K w0 ρ A w) (τ : Nat → Nat) (H : AW)
    (inj : ∀ b c, b < A.size → c < A.size → A.get b ≠ .resv → A.get c ≠ .resv → τ b = τ c → b = c)
    (lt : ∀ b, b < A.size → A.get b ≠ .resv → τ b < H.size)
    (obj : ∀ b, b < A.size → A.get b ≠ .resv → H.get (τ b) = renO τ (A.get b) ∨ H.get (τ b) = .dead)
    (full : ∀ c, c < H.size → alive (H.get c) = true → ∃ b, b < A.size ∧ τ b = c ∧ alive (A.get b) = true) (nx : NxOk H) :
    ∃ ρ2, (∀ b e, ρ b = some e → ρ2 (τ b) = some e) ∧ Inv K w0 ρ2 H w := by
  let ρ2 : Rho := fun c => if q : ∃ b, ρ b ≠ none ∧ τ b = c then ρ (Classical.choose q) else none
  have key : ∀ b e, ρ b = some e → ρ2 (τ b) = some e := by
    intro b e hb
    have q : ∃ b', ρ b' ≠ none ∧ τ b' = τ b := ⟨b, by rw [hb]; simp, rfl⟩
    have hs := Classical.choose_spec q
    have : Classical.choose q = b := by
      cases hc : ρ (Classical.choose q) with
      | none => exact (hs.1 hc).elim
      | some f => exact inj _ _ (h.at_ _ _ hc).1 (h.at_ _ _ hb).1 (h.notKept hc) (h.notKept hb) hs.2
    show (if q : ∃ b', ρ b' ≠ none ∧ τ b' = τ b then ρ (Classical.choose q) else none) = _
    rw [dif_pos q, this, hb]
  have inv : ∀ c e, ρ2 c = some e → ∃ b, ρ b = some e ∧ τ b = c := by
    intro c e hc
    have hc' : (if q : ∃ b', ρ b' ≠ none ∧ τ b' = c then ρ (Classical.choose q) else none) = some e := hc
    by_cases q : ∃ b', ρ b' ≠ none ∧ τ b' = c
    · rw [dif_pos q] at hc'
      exact ⟨_, hc', (Classical.choose_spec q).2⟩
    · rw [dif_neg q] at hc'; cases hc'
  have hext : Ext ρ (fun b => ρ2 (τ b)) := key
  refine ⟨ρ2, key, h.below, h.base, ?_, ?_, ?_, nx, ?_⟩
  · intro c e hc
    obtain ⟨b, hb, rfl⟩ := inv c e hc
    obtain ⟨h1, h2, h3⟩ := h.at_ b e hb
    refine ⟨lt b h1 (h.notKept hb), h2, ?_⟩
    rcases obj b h1 (h.notKept hb) with ho | ho
    · rw [ho, OInv_ren]; exact h3.ext hext
    · rw [ho]; trivial
  · intro c d e f hne hc hd hlc hld
    obtain ⟨b, hb, rfl⟩ := inv c e hc
    obtain ⟨b', hb', rfl⟩ := inv d f hd
    have hbl : live (A.get b) = true := by
      rcases obj b (h.at_ b e hb).1 (h.notKept hb) with ho | ho
      · rw [ho, live_ren] at hlc; exact hlc
      · rw [ho] at hlc; cases hlc
    have hbl' : live (A.get b') = true := by
      rcases obj b' (h.at_ b' f hb').1 (h.notKept hb') with ho | ho
      · rw [ho, live_ren] at hld; exact hld
      · rw [ho] at hld; cases hld
    exact h.sep b b' e f (fun q => hne (by rw [q])) hb hb' hbl hbl'
  · intro c hc
    cases hr : ρ2 c with
    | none => rfl
    | some e =>
      obtain ⟨b, hb, rfl⟩ := inv c e hr
      have := lt b (h.at_ b e hb).1 (h.notKept hb)
      omega
  · intro c h1 h2
    obtain ⟨b, hb1, rfl, hb2⟩ := full c h1 h2
    obtain ⟨e, he⟩ := h.full b hb1 hb2
    exact ⟨e, key b e he⟩
def View (σ : Nat → Nat) (oA oH : AObj) : Prop := oA = renO σ oH ∨ ∃ cs opn esz, oH = .cells cs true opn esz ∧ oA = .cells (renL σ cs) false opn esz
theorem View.alive {σ : Nat → Nat} {oA oH : AObj} (h : View σ oA oH) : Abs.alive oA = Abs.alive oH := by
  rcases h with h | ⟨cs, opn, esz, h1, h2⟩
  · rw [h, alive_ren]
  · rw [h1, h2]; rfl
theorem View.live {σ : Nat → Nat} {oA oH : AObj} (h : View σ oA oH) (hl : Abs.live oH = true) : Abs.live oA = true ∧ oA = renO σ oH := by
  rcases h with h | ⟨cs, opn, esz, h1, h2⟩
  · rw [h, live_ren]; exact ⟨hl, rfl⟩
  · rw [h1] at hl; cases hl
def KPlus (ρ : Rho) (σ : Nat → Nat) (H : AW) (w : World) : Nat → Prop := fun k => k < w.heap.size ∧ ∀ b e, b < H.size → live (H.get b) = true → ρ (σ b) = some e → e.blk ≠ k
structure Part (A : AW) (σ : Nat → Nat) (H : AW) : Prop where
  out : ∀ b, (H.size ≤ b ∨ H.get b = .resv) → A.size ≤ σ b ∨ A.get (σ b) = .resv
  lt : ∀ b, b < H.size → H.get b ≠ .resv → σ b < A.size
  inj : ∀ b c, b < H.size → c < H.size → H.get b ≠ .resv → H.get c ≠ .resv → σ b = σ c → b = c
  al : ∀ b, b < H.size → H.get b ≠ .resv → alive (H.get b) = true
  obj : ∀ b, b < H.size → H.get b ≠ .resv → View σ (A.get (σ b)) (H.get b)
theorem live_not_resv {o : AObj} (h : live o = true) : o ≠ .resv := by rintro rfl; cases h
theorem Part.kplus {σ : Nat → Nat} {H : AW} (p : Part A σ H) (h : Inv K w0 ρ A w) : ∀ k, K k → KPlus ρ σ H w k := by
  intro k hk
  refine ⟨h.base_le k hk, fun b e hb hl he => ?_⟩
  rintro rfl
  obtain ⟨_, _, h3⟩ := h.at_ _ _ he
  have hlA := ((p.obj b hb (live_not_resv hl)).live hl).1
  cases hg : A.get (σ b) with
  | dead => rw [hg] at hlA; cases hlA
  | resv => rw [hg] at hlA; cases hlA
  | map es c => rw [hg] at h3; exact h3.1 hk
  | cells cs ro opn esz =>
    rw [hg] at h3 hlA
    cases ro with
    | true => cases hlA
    | false =>
      obtain ⟨_, _, _, _, _, _, _, _, _, _, _, _, _, g⟩ := h3
      exact (g rfl).1 hk
theorem Part.inv {σ : Nat → Nat} {H : AW} (p : Part A σ H) (h : Inv K w0 ρ A w) (nx : NxOk H) : Inv (KPlus ρ σ H w) w (fun b => ρ (σ b)) H w := by
  have hin : ∀ b e, ρ (σ b) = some e → b < H.size ∧ H.get b ≠ .resv := by
    intro b e hb
    have h1 := (h.at_ _ _ hb).1
    constructor
    · rcases Nat.lt_or_ge b H.size with k | k
      · exact k
      · rcases p.out b (.inl k) with q | q
        · omega
        · exact (h.notKept hb q).elim
    · intro k
      rcases p.out b (.inr k) with q | q
      · omega
      · exact h.notKept hb q
  refine ⟨Kept.refl _ _, fun k hk => hk.1, ?_, ?_, ?_, nx, ?_⟩
  · intro b e hb
    obtain ⟨h1, h2⟩ := hin b e hb
    obtain ⟨k1, k2, k3⟩ := h.at_ _ _ hb
    refine ⟨h1, k2, ?_⟩
    have hv := p.obj b h1 h2
    have hk := p.kplus (ρ := ρ) (w := w) h
    cases hg : H.get b with
    | dead => trivial
    | resv => exact (h2 hg).elim
    | map es c =>
      rw [hg] at hv
      rcases hv with hv | ⟨_, _, _, hv, _⟩
      · rw [hv] at k3
        obtain ⟨q1, q2⟩ := OInv_ren.1 k3
        exact ⟨fun q => q.2 b e h1 (by rw [hg]; rfl) hb rfl, q2⟩
      · cases hv
    | cells cs ro opn esz =>
      rw [hg] at hv
      rcases hv with hv | ⟨cs', opn', esz', hv, hvA⟩
      · rw [hv] at k3
        obtain ⟨q1, q2, q3, q4, q5, rc, t, fr, rs, q6, q7, q8, q9, q10⟩ := OInv_ren.1 k3
        refine ⟨q1, q2, q3, ?_, q5, rc, t, fr, rs, q6, q7, q8, q9, ?_⟩
        · intro hro
          rcases q4 hro with q | q
          · exact .inl q
          · exact .inr (hk _ q)
        · intro hro
          exact ⟨fun q => q.2 b e h1 (by rw [hg, hro]; rfl) hb rfl, (q10 hro).2⟩
      · simp only [AObj.cells.injEq] at hv
        obtain ⟨rfl, rfl, rfl, rfl⟩ := hv
        have k3' : OInv K ρ w e (renO σ (.cells cs false opn esz)) := by rw [hvA] at k3; exact k3
        obtain ⟨q1, q2, q3, q4, q5, rc, t, fr, rs, q6, q7, q8, q9, q10⟩ := OInv_ren.1 k3'
        refine ⟨q1, q2, q3, ?_, q5, rc, t, fr, rs, q6, q7, q8, q9, fun hro => by cases hro⟩
        intro _
        refine .inr ⟨k2, fun b' e' hb' hl' he' => ?_⟩
        have hl2 := ((p.obj b' hb' (live_not_resv hl')).live hl').1
        refine h.sep (σ b') (σ b) e' e ?_ he' hb hl2 (by rw [hvA]; rfl)
        intro q
        have := p.inj b' b hb' h1 (live_not_resv hl') h2 q
        subst this
        rw [hg] at hl'; cases hl'
  · intro b c e f hne hb hc hlb hlc
    obtain ⟨h1, h2⟩ := hin b e hb
    obtain ⟨h3, h4⟩ := hin c f hc
    exact h.sep (σ b) (σ c) e f (fun q => hne (p.inj b c h1 h3 h2 h4 q)) hb hc ((p.obj b h1 h2).live hlb).1 ((p.obj c h3 h4).live hlc).1
  · intro b hb
    cases hr : ρ (σ b) with
    | none => rfl
    | some e => have := (hin b e hr).1; omega
  · intro b h1 h2
    have hn := alive_not_resv h2
    exact h.full _ (p.lt b h1 hn) (by rw [(p.obj b h1 hn).alive]; exact h2)
def liveOr : AObj → Prop
  | .cells cs ro _ _ => ro = true → cs = []
  | .map _ _ => True
  | .dead => True
  | .resv => False
structure Back (A : AW) (σ : Nat → Nat) (H H1 : AW) (σ1 : Nat → Nat) (A1 : AW) : Prop where
  same : ∀ b, b < H.size → H.get b ≠ .resv → σ1 b = σ b
  new : ∀ b, b < H1.size → H1.get b ≠ .resv → (b < H.size ∧ H.get b ≠ .resv) ∨ A.size ≤ σ1 b ∨ A.get (σ1 b) = .resv
  inj : ∀ b c, b < H1.size → c < H1.size → H1.get b ≠ .resv → H1.get c ≠ .resv → σ1 b = σ1 c → b = c
  lt : ∀ b, b < H1.size → H1.get b ≠ .resv → σ1 b < A1.size
  size : A.size ≤ A1.size
  obj : ∀ b, b < H1.size → H1.get b ≠ .resv → A1.get (σ1 b) = .dead ∨
    (b < H.size ∧ (∃ cs opn esz, H.get b = .cells cs true opn esz) ∧ A1.get (σ1 b) = A.get (σ1 b)) ∨
    ((b < H.size → live (H.get b) = true ∨ H.get b = .resv) ∧ liveOr (H1.get b) ∧ A1.get (σ1 b) = renO σ1 (H1.get b))
  old : ∀ c, c < A.size → (∀ b, b < H1.size → H1.get b ≠ .resv → σ1 b ≠ c) → A1.get c = A.get c ∨ A1.get c = .dead
  oth : ∀ c, A.size ≤ c → c < A1.size → (∀ b, b < H1.size → H1.get b ≠ .resv → σ1 b ≠ c) → alive (A1.get c) = false
  nx : NxOk A1
open Classical in
theorem Part.back {σ : Nat → Nat} {H : AW} (p : Part A σ H) (h : Inv K w0 ρ A w) {H1 A1 : AW} {ρ1 : Rho} {w1 : World} {σ1 : Nat → Nat} (h1 : Inv (KPlus ρ σ H w) w ρ1 H1 w1) (hx : Ext (fun b => ρ (σ b)) ρ1) (k : Back A σ H H1 σ1 A1) :
    ∃ ρ2, Ext ρ ρ2 ∧ (∀ b e, ρ1 b = some e → ρ2 (σ1 b) = some e) ∧ Inv K w0 ρ2 A1 w1 := by
  let ρ2 : Rho := fun c => if q : ∃ b, ρ1 b ≠ none ∧ σ1 b = c then ρ1 (Classical.choose q) else ρ c
  have hin1 : ∀ b e, ρ1 b = some e → b < H1.size ∧ H1.get b ≠ .resv := fun b e hb => ⟨(h1.at_ b e hb).1, h1.notKept hb⟩
  have key : ∀ b e, ρ1 b = some e → ρ2 (σ1 b) = some e := by
    intro b e hb
    have q : ∃ b', ρ1 b' ≠ none ∧ σ1 b' = σ1 b := ⟨b, by rw [hb]; simp, rfl⟩
    have hs := Classical.choose_spec q
    have : Classical.choose q = b := by
      cases hc : ρ1 (Classical.choose q) with
      | none => exact (hs.1 hc).elim
      | some f =>
        obtain ⟨a1, a2⟩ := hin1 _ _ hc
        obtain ⟨b1, b2⟩ := hin1 _ _ hb
        exact k.inj _ _ a1 b1 a2 b2 hs.2
    show (if q : ∃ b', ρ1 b' ≠ none ∧ σ1 b' = σ1 b then ρ1 (Classical.choose q) else ρ (σ1 b)) = _
    rw [dif_pos q, this, hb]
  have inv : ∀ c e, ρ2 c = some e → (∃ b, ρ1 b = some e ∧ σ1 b = c) ∨ ((∀ b, ρ1 b ≠ none → σ1 b ≠ c) ∧ ρ c = some e) := by
    intro c e hc
    have hc' : (if q : ∃ b', ρ1 b' ≠ none ∧ σ1 b' = c then ρ1 (Classical.choose q) else ρ c) = some e := hc
    by_cases q : ∃ b', ρ1 b' ≠ none ∧ σ1 b' = c
    · rw [dif_pos q] at hc'
      exact .inl ⟨_, hc', (Classical.choose_spec q).2⟩
    · rw [dif_neg q] at hc'
      exact .inr ⟨fun b hb hs => q ⟨b, hb, hs⟩, hc'⟩
  -- what was there at first is where it was
  have start : ∀ b, b < H.size → H.get b ≠ .resv → ∃ e, ρ (σ b) = some e ∧ ρ1 b = some e := by
    intro b b1 b2
    obtain ⟨e, he⟩ := h.full (σ b) (p.lt b b1 b2) (by rw [(p.obj b b1 b2).alive]; exact p.al b b1 b2)
    exact ⟨e, he, hx b e he⟩
  have hext : Ext ρ ρ2 := by
    intro c e hc
    show (if q : ∃ b', ρ1 b' ≠ none ∧ σ1 b' = c then ρ1 (Classical.choose q) else ρ c) = _
    by_cases q : ∃ b', ρ1 b' ≠ none ∧ σ1 b' = c
    · rw [dif_pos q]
      obtain ⟨s1, s2⟩ := Classical.choose_spec q
      generalize Classical.choose q = b at s1 s2 ⊢
      cases hb : ρ1 b with
      | none => exact (s1 hb).elim
      | some f =>
        obtain ⟨b1, b2⟩ := hin1 b f hb
        rcases k.new b b1 b2 with ⟨n1, n2⟩ | n | n
        · obtain ⟨e', g1, g2⟩ := start b n1 n2
          rw [k.same b n1 n2] at s2
          rw [s2, hc] at g1
          rw [← hb, g2]
          exact g1.symm
        · have := (h.at_ c e hc).1; omega
        · rw [s2] at n; exact (h.notKept hc n).elim
    · rw [dif_neg q]; exact hc
  have hext1 : Ext ρ1 (fun b => ρ2 (σ1 b)) := key
  have hkp := p.kplus (ρ := ρ) (w := w) h
  have kept : Kept (KPlus ρ σ H w) w w1 := h1.below
  have persist : ∀ c e, ρ c = some e → (live (A.get c) = true → KPlus ρ σ H w e.blk) → OInv K ρ2 w1 e (A.get c) := by
    intro c e hc hlv
    obtain ⟨g1, g2, g3⟩ := h.at_ c e hc
    have g3 := g3.ext hext
    cases hg : A.get c with
    | dead => trivial
    | resv => exact (h.notKept hc hg).elim
    | map es ck =>
      rw [hg] at g3 hlv
      exact g3.block (kept.block _ (hlv rfl))
    | cells cs ro opn esz =>
      rw [hg] at g3 hlv
      cases ro with
      | false => exact g3.block (kept.block _ (hlv rfl))
      | true =>
        obtain ⟨q1, q2, q3, q4, q5, rc, t, fr, rs, q6, q7, q8, q9, q10⟩ := g3
        rcases q4 rfl with q | q
        · subst q
          obtain ⟨rc', fr', s1, s2⟩ := kept.shape _ _ _ _ q6
          exact ⟨q1, q2, q3, q4, q5, rc', t, fr', [], s1, by rw [s2]; exact q7, by simp, by simp [VRL], fun hro => by cases hro⟩
        · exact ⟨q1, q2, q3, q4, q5, rc, t, fr, rs, by rw [kept.block _ (hkp _ q)]; exact q6, q7, q8, q9, fun hro => by cases hro⟩
  have liveK : ∀ c e, ρ c = some e → live (A.get c) = true → (∀ b, b < H.size → live (H.get b) = true → σ b ≠ c) → KPlus ρ σ H w e.blk := by
    intro c e hc hl hn
    refine ⟨(h.at_ c e hc).2.1, fun b f hb hlb hf => ?_⟩
    exact h.sep (σ b) c f e (hn b hb hlb) hf hc ((p.obj b hb (live_not_resv hlb)).live hlb).1 hl
  -- each place of the heap behind
  have cls : ∀ c e, ρ2 c = some e → A1.get c = .dead ∨ (A1.get c = A.get c ∧ ρ c = some e ∧ (live (A.get c) = true → KPlus ρ σ H w e.blk)) ∨
      ∃ b, σ1 b = c ∧ ρ1 b = some e ∧ liveOr (H1.get b) ∧ A1.get c = renO σ1 (H1.get b) := by
    intro c e hc
    rcases inv c e hc with ⟨b, hb, rfl⟩ | ⟨hn, hc2⟩
    · obtain ⟨b1, b2⟩ := hin1 b e hb
      rcases k.obj b b1 b2 with o | ⟨o1, ⟨cs, opn, esz, o2⟩, o3⟩ | ⟨o1, o2, o3⟩
      · exact .inl o
      · have hnr : H.get b ≠ .resv := by rw [o2]; simp
        obtain ⟨e', g1, g2⟩ := start b o1 hnr
        have : e' = e := Option.some.inj (g2.symm.trans hb)
        subst this
        have hsm := k.same b o1 hnr
        refine .inr (.inl ⟨o3, by rw [hsm]; exact g1, fun hl => ?_⟩)
        rw [hsm] at hl
        refine liveK (σ b) e' g1 hl fun b' hb' hl' q => ?_
        have := p.inj b' b hb' o1 (live_not_resv hl') hnr q
        subst this
        rw [o2] at hl'; cases hl'
      · exact .inr (.inr ⟨b, rfl, hb, o2, o3⟩)
    · have hlt := (h.at_ c e hc2).1
      have hnoimg : ∀ b, b < H1.size → H1.get b ≠ .resv → σ1 b = c → ρ1 b = none := by
        intro b b1 b2 hs
        cases hb : ρ1 b with
        | none => rfl
        | some f => exact (hn b (by rw [hb]; simp) hs).elim
      by_cases q : ∃ b, b < H1.size ∧ H1.get b ≠ .resv ∧ σ1 b = c
      · obtain ⟨b, b1, b2, hs⟩ := q
        have hr := hnoimg b b1 b2 hs
        rcases k.new b b1 b2 with ⟨n1, n2⟩ | n | n
        · obtain ⟨e', _, g2⟩ := start b n1 n2
          rw [hr] at g2; cases g2
        · omega
        · rw [hs] at n; exact (h.notKept hc2 n).elim
      · have hno : ∀ b, b < H1.size → H1.get b ≠ .resv → σ1 b ≠ c := fun b b1 b2 hs => q ⟨b, b1, b2, hs⟩
        rcases k.old c hlt hno with o | o
        · refine .inr (.inl ⟨o, hc2, fun hl => ?_⟩)
          refine liveK c e hc2 hl fun b hb hl' hs => ?_
          have hnr := live_not_resv hl'
          obtain ⟨e', _, g2⟩ := start b hb hnr
          obtain ⟨b1, b2⟩ := hin1 b e' g2
          exact hno b b1 b2 (by rw [k.same b hb hnr]; exact hs)
        · exact .inl o
  have newK : ∀ b e, ρ1 b = some e → live (H1.get b) = true → ¬ KPlus ρ σ H w e.blk := by
    intro b e hb hl
    obtain ⟨_, _, g3⟩ := h1.at_ b e hb
    cases hg : H1.get b with
    | dead => rw [hg] at hl; cases hl
    | resv => rw [hg] at hl; cases hl
    | map es ck => rw [hg] at g3; exact g3.1
    | cells cs ro opn esz =>
      rw [hg] at g3 hl
      cases ro with
      | true => cases hl
      | false =>
        obtain ⟨_, _, _, _, _, _, _, _, _, _, _, _, _, g⟩ := g3
        exact (g rfl).1
  refine ⟨ρ2, hext, key, h.below.trans (kept.mono hkp), h.base, ?_, ?_, ?_, k.nx, ?_⟩
  · intro c e hc
    have hlt : c < A1.size := by
      rcases inv c e hc with ⟨b, hb, rfl⟩ | ⟨_, hc2⟩
      · obtain ⟨b1, b2⟩ := hin1 b e hb; exact k.lt b b1 b2
      · have := (h.at_ c e hc2).1; have := k.size; omega
    have hblk : e.blk < w1.heap.size := by
      rcases inv c e hc with ⟨b, hb, rfl⟩ | ⟨_, hc2⟩
      · exact (h1.at_ b e hb).2.1
      · have := (h.at_ c e hc2).2.1; have := kept.size; omega
    refine ⟨hlt, hblk, ?_⟩
    rcases cls c e hc with o | ⟨o1, o2, o3⟩ | ⟨b, rfl, hb, o2, o3⟩
    · rw [o]; trivial
    · rw [o1]; exact persist c e o2 o3
    · rw [o3, OInv_ren]
      have g3 := (h1.at_ b e hb).2.2.ext hext1
      cases hg : H1.get b with
      | dead => trivial
      | resv => exact (h1.notKept hb hg).elim
      | map es ck => rw [hg] at g3; exact ⟨fun q => g3.1 (hkp _ q), g3.2⟩
      | cells cs ro opn esz =>
        rw [hg] at g3 o2
        obtain ⟨q1, q2, q3, q4, q5, rc, t, fr, rs, q6, q7, q8, q9, q10⟩ := g3
        exact ⟨q1, q2, q3, fun hro => .inl (o2 hro), q5, rc, t, fr, rs, q6, q7, q8, q9, fun hro => ⟨fun q => (q10 hro).1 (hkp _ q), (q10 hro).2⟩⟩
  · intro c d e f hne hc hd hlc hld
    rcases cls c e hc with o | ⟨o1, o2, o3⟩ | ⟨b, rfl, hb, o2, o3⟩
    · rw [o] at hlc; cases hlc
    · rw [o1] at hlc
      rcases cls d f hd with u | ⟨u1, u2, u3⟩ | ⟨b', rfl, hb', u2, u3⟩
      · rw [u] at hld; cases hld
      · rw [u1] at hld
        exact h.sep c d e f hne o2 u2 hlc hld
      · rw [u3, live_ren] at hld
        intro q
        exact newK b' f hb' hld (by rw [← q]; exact o3 hlc)
    · rw [o3, live_ren] at hlc
      rcases cls d f hd with u | ⟨u1, u2, u3⟩ | ⟨b', rfl, hb', u2, u3⟩
      · rw [u] at hld; cases hld
      · rw [u1] at hld
        intro q
        exact newK b e hb hlc (by rw [q]; exact u3 hld)
      · rw [u3, live_ren] at hld
        exact h1.sep b b' e f (fun q => hne (by rw [q])) hb hb' hlc hld
  · intro c hc
    cases hr : ρ2 c with
    | none => rfl
    | some e =>
      rcases inv c e hr with ⟨b, hb, rfl⟩ | ⟨_, hc2⟩
      · obtain ⟨b1, b2⟩ := hin1 b e hb
        have := k.lt b b1 b2; omega
      · have := (h.at_ c e hc2).1; have := k.size; omega
  · intro c c1 c2
    by_cases q : ∃ b, b < H1.size ∧ H1.get b ≠ .resv ∧ σ1 b = c
    · obtain ⟨b, b1, b2, rfl⟩ := q
      rcases k.obj b b1 b2 with o | ⟨o1, ⟨cs, opn, esz, o2⟩, o3⟩ | ⟨o1, o2, o3⟩
      · rw [o] at c2; cases c2
      · have hnr : H.get b ≠ .resv := by rw [o2]; simp
        obtain ⟨e', g1, g2⟩ := start b o1 hnr
        exact ⟨e', key b e' g2⟩
      · rw [o3, alive_ren] at c2
        obtain ⟨e, he⟩ := h1.full b b1 c2
        exact ⟨e, key b e he⟩
    · have hno : ∀ b, b < H1.size → H1.get b ≠ .resv → σ1 b ≠ c := fun b b1 b2 hs => q ⟨b, b1, b2, hs⟩
      rcases Nat.lt_or_ge c A.size with hlt | hge
      · rcases k.old c hlt hno with o | o
        · rw [o] at c2
          obtain ⟨e, he⟩ := h.full c hlt c2
          exact ⟨e, hext c e he⟩
        · rw [o] at c2; cases c2
      · rw [k.oth c hge c1 hno] at c2; cases c2
end
end Go.Abs
