/- Heaps of a few blocks one by one, and of others that nobody looks at. -/
import Derived.Test.YtioggedadamoaaaAbsVb
set_option autoImplicit false
set_option linter.unusedVariables false
set_option linter.unusedSimpArgs false
namespace Go.Abs
open Go.RowKit
def hp (s : List AObj) (g : Nat → AObj) (N : Nat) : AW := ⟨N + 64, .hp s g, some s.length, 64⟩
def noG : Nat → AObj := fun _ => .dead
theorem getO_ge : ∀ (s : List AObj) (b : Nat), s.length ≤ b → getO s b = .resv
  | [], b, _ => rfl
  | o :: s, 0, h => by simp at h
  | o :: s, b + 1, h => getO_ge s b (by simpa using h)
theorem hp_get (s : List AObj) (g : Nat → AObj) (N b : Nat) : (hp s g N).get b = if b < 64 then getO s b else g (b - 64) := Tr.get_hp s g b
theorem hp_low {s : List AObj} {g : Nat → AObj} {N b : Nat} (h : b < 64) : (hp s g N).get b = getO s b := by rw [hp_get, if_pos h]
theorem hp_high {s : List AObj} {g : Nat → AObj} {N b : Nat} (h : 64 ≤ b) : (hp s g N).get b = g (b - 64) := by rw [hp_get, if_neg (by omega)]
theorem hp_size (s : List AObj) (g : Nat → AObj) (N : Nat) : (hp s g N).size = N + 64 := rfl
theorem getO_append_left : ∀ {s : List AObj} (u : List AObj) {b : Nat}, b < s.length → getO (s ++ u) b = getO s b
  | [], u, b, h => by simp at h
  | o :: s, u, 0, h => rfl
  | o :: s, u, b + 1, h => getO_append_left u (b := b) (by simpa using h)
theorem getO_append_right : ∀ {s : List AObj} (u : List AObj) {b : Nat}, s.length ≤ b → getO (s ++ u) b = getO u (b - s.length)
  | [], u, b, h => rfl
  | o :: s, u, 0, h => by simp at h
  | o :: s, u, b + 1, h => by
    have := getO_append_right (s := s) u (b := b) (by simpa using h)
    show getO (s ++ u) b = _
    rw [this]
    simp
theorem hp_nx' {s : List AObj} {g : Nat → AObj} {N : Nat} (h : s.length < 64) : NxOk (hp s g N) := by
  intro r hr
  have hr' : s.length = r := Option.some.inj hr
  subst hr'
  refine ⟨by rw [hp_size]; omega, by rw [hp_low h]; exact getO_ge s _ (Nat.le_refl _), fun j h1 h2 => ?_⟩
  have h3 : j < 64 := h2
  refine ⟨by rw [hp_size]; omega, ?_⟩
  rw [hp_low h3]
  exact getO_ge s _ (by omega)
def Bulk (g : Nat → AObj) (N : Nat) : Prop := ∀ j, j < N → ∀ τ : Nat → Nat, (∀ i, 64 ≤ i → τ i = i) → renO τ (g j) = g j
theorem bulk0 (g : Nat → AObj) : Bulk g 0 := fun j h => absurd h (Nat.not_lt_zero _)
def gcat (g : Nat → AObj) (N : Nat) : Nat → AObj := fun j => if j < N then g j else .dead
theorem Bulk.cat {g : Nat → AObj} {N : Nat} (h : Bulk g N) (M : Nat) : Bulk (gcat g N) M := by
  intro j hj τ ht
  unfold gcat
  by_cases hn : j < N
  · rw [if_pos hn]; exact h j hn τ ht
  · rw [if_neg hn]; rfl
def sigma (l : List Nat) (M : Nat) (b : Nat) : Nat := match l[b]? with
  | some c => bif Nat.blt c 64 then c else M + b
  | none => M + b
theorem sigma_lt {l : List Nat} {M b c : Nat} (h : l[b]? = some c) (hc : c < 64) : sigma l M b = c := by
  unfold sigma
  rw [h]
  simp only [bif_blt, if_pos hc]
theorem sigma_cases (l : List Nat) (M b : Nat) : (∃ c, l[b]? = some c ∧ c < 64 ∧ sigma l M b = c) ∨ sigma l M b = M + b ∧ ∀ c, l[b]? = some c → 64 ≤ c := by
  unfold sigma
  cases h : l[b]? with
  | none => exact .inr ⟨rfl, fun c hc => by cases hc⟩
  | some c =>
    simp only [bif_blt]
    by_cases hc : c < 64
    · rw [if_pos hc]; exact .inl ⟨c, rfl, hc, rfl⟩
    · rw [if_neg hc]; exact .inr ⟨rfl, fun d hd => by cases hd; omega⟩
def distinct : List Nat → Bool
  | [] => true
  | c :: l => (!(Nat.blt c 64) || l.all fun d => !(Nat.beq d c)) && distinct l
theorem distinct_spec : ∀ {l : List Nat}, distinct l = true → ∀ {b b' c : Nat}, l[b]? = some c → l[b']? = some c → c < 64 → b = b'
  | [], _, b, b', c, h, _, _ => by simp at h
  | d :: l, hd, b, b', c, h, h', hc => by
    simp only [distinct, Bool.and_eq_true, Bool.or_eq_true, Bool.not_eq_true', List.all_eq_true] at hd
    have out : ∀ {e : Nat}, l[e]? = some d → d < 64 → False := by
      intro e he hlt
      have hm : d ∈ l := List.mem_of_getElem? he
      rcases hd.1 with k | k
      · have : Nat.blt d 64 = true := Nat.ble_eq_true_of_le hlt
        rw [k] at this; cases this
      · have := k d hm
        rw [Nat.beq_refl] at this; cases this
    cases b with
    | zero =>
      cases b' with
      | zero => rfl
      | succ b' =>
        simp only [List.getElem?_cons_zero, Option.some.injEq] at h
        subst h
        simp only [List.getElem?_cons_succ] at h'
        exact (out h' hc).elim
    | succ b =>
      simp only [List.getElem?_cons_succ] at h
      cases b' with
      | zero =>
        simp only [List.getElem?_cons_zero, Option.some.injEq] at h'
        subst h'
        exact (out h hc).elim
      | succ b' =>
        simp only [List.getElem?_cons_succ] at h'
        rw [distinct_spec hd.2 h h' hc]
def PartL (s : List AObj) (σ : Nat → Nat) : List AObj → List Nat → Prop
  | [], [] => True
  | o :: os, c :: cs => ((o = .resv ∧ (64 ≤ c ∨ getO s c = .resv)) ∨ (c < s.length ∧ alive o = true ∧ View σ (getO s c) o)) ∧ PartL s σ os cs
  | _, _ => False
theorem PartL.get {s : List AObj} {σ : Nat → Nat} : ∀ {sH : List AObj} {l : List Nat}, PartL s σ sH l → sH.length = l.length ∧ ∀ b, b < sH.length → ∃ c, l[b]? = some c ∧ ((getO sH b = .resv ∧ (64 ≤ c ∨ getO s c = .resv)) ∨ (c < s.length ∧ alive (getO sH b) = true ∧ View σ (getO s c) (getO sH b)))
  | [], [], _ => ⟨rfl, fun b h => by simp at h⟩
  | o :: os, c :: cs, h => by
    obtain ⟨h1, h2⟩ := PartL.get h.2
    refine ⟨by simp [h1], fun b hb => ?_⟩
    cases b with
    | zero => exact ⟨c, rfl, h.1⟩
    | succ b => exact h2 b (by simpa using hb)
  | [], _ :: _, h => h.elim
  | _ :: _, [], h => h.elim
theorem PartL.part {s : List AObj} {g : Nat → AObj} {N : Nat} {sH : List AObj} {l : List Nat} (h : PartL s (sigma l (N + 64)) sH l) (hs : s.length < 64) (hH : sH.length < 64) (hd : distinct l = true) : Part (hp s g N) (sigma l (N + 64)) (hp sH noG 0) := by
  obtain ⟨h1, h2⟩ := h.get
  have low : ∀ b, b < (hp sH noG 0).size → b < 64 := fun b hb => by rw [hp_size] at hb; omega
  have inn : ∀ b, b < (hp sH noG 0).size → (hp sH noG 0).get b ≠ .resv → b < sH.length := by
    intro b hb hn
    rw [hp_low (low b hb)] at hn
    rcases Nat.lt_or_ge b sH.length with k | k
    · exact k
    · exact (hn (getO_ge _ _ k)).elim
  have at_ : ∀ b, b < (hp sH noG 0).size → (hp sH noG 0).get b ≠ .resv → ∃ c, l[b]? = some c ∧ c < s.length ∧ sigma l (N + 64) b = c ∧ alive (getO sH b) = true ∧ View (sigma l (N + 64)) (getO s c) (getO sH b) := by
    intro b hb hn
    obtain ⟨c, hc, hx⟩ := h2 b (inn b hb hn)
    rw [hp_low (low b hb)] at hn
    rcases hx with ⟨k, _⟩ | ⟨k1, k2, k3⟩
    · exact (hn k).elim
    · exact ⟨c, hc, k1, sigma_lt hc (by omega), k2, k3⟩
  refine ⟨?_, ?_, ?_, ?_, ?_⟩
  · intro b hb
    rw [hp_size]
    rcases sigma_cases l (N + 64) b with ⟨c, q1, q2, q3⟩ | ⟨q, _⟩
    · rw [q3]
      right
      rw [hp_low q2]
      have hbl : b < sH.length := by
        have := (List.getElem?_eq_some_iff.1 q1).1; omega
      obtain ⟨c', hc', hx⟩ := h2 b hbl
      obtain rfl := Option.some.inj (q1.symm.trans hc')
      rcases hx with ⟨_, k | k⟩ | ⟨_, k2, _⟩
      · omega
      · exact k
      · rcases hb with hb | hb
        · rw [hp_size] at hb; omega
        · rw [hp_low (by omega)] at hb
          rw [hb] at k2; cases k2
    · rw [q]; left; omega
  · intro b hb hn
    obtain ⟨c, _, k1, k2, _⟩ := at_ b hb hn
    rw [k2, hp_size]; omega
  · intro b b' hb hb' hn hn' he
    obtain ⟨c, a1, a2, a3, _⟩ := at_ b hb hn
    obtain ⟨c', b1, b2, b3, _⟩ := at_ b' hb' hn'
    rw [a3, b3] at he
    subst he
    exact distinct_spec hd a1 b1 (by omega)
  · intro b hb hn
    obtain ⟨c, _, _, _, k, _⟩ := at_ b hb hn
    rw [hp_low (low b hb)]; exact k
  · intro b hb hn
    obtain ⟨c, _, k1, k2, _, k3⟩ := at_ b hb hn
    rw [hp_low (low b hb), k2, hp_low (by omega)]; exact k3
def sigma1 (l : List Nat) (N k m : Nat) (b : Nat) : Nat := bif Nat.blt b k then sigma l (N + 64) b else bif Nat.blt b 64 then m + (b - k) else N + b
def StartL (σ : Nat → Nat) : List AObj → List AObj → List (Option AObj) → Prop
  | [], [], [] => True
  | o :: os, o1 :: os1, u :: us => ((o = .resv ∧ o1 = .resv ∧ u = none) ∨ ((∃ cs opn esz, o = .cells cs true opn esz) ∧ u = none) ∨ (live o = true ∧ ∃ o', u = some o' ∧ ((liveOr o1 ∧ o' = renO σ o1) ∨ (o' = .dead ∧ o1 ≠ .resv)))) ∧ StartL σ os os1 us
  | _, _, _ => False
def NewL (σ : Nat → Nat) : List AObj → List AObj → Prop
  | [], [] => True
  | o :: os, o' :: os' => ((o = .resv ∧ o' = .resv) ∨ (liveOr o ∧ (o' = renO σ o ∨ o' = .dead))) ∧ NewL σ os os'
  | _, _ => False
def upd : List AObj → List Nat → List (Option AObj) → List AObj
  | s, c :: l, some o :: us => upd (setO s c o) l us
  | s, _ :: l, none :: us => upd s l us
  | s, _, _ => s
theorem setO_length : ∀ {s : List AObj} {c : Nat} (o : AObj), c < s.length → (setO s c o).length = s.length
  | [], c, o, h => by simp at h
  | x :: s, 0, o, h => rfl
  | x :: s, c + 1, o, h => by
    show (setO s c o).length + 1 = _
    rw [setO_length o (by simpa using h)]; rfl
theorem NewL.get {σ : Nat → Nat} : ∀ {os os' : List AObj}, NewL σ os os' → os.length = os'.length ∧ ∀ b, b < os.length → ((getO os b = .resv ∧ getO os' b = .resv) ∨ (liveOr (getO os b) ∧ (getO os' b = renO σ (getO os b) ∨ getO os' b = .dead)))
  | [], [], _ => ⟨rfl, fun b h => by simp at h⟩
  | o :: os, o' :: os', h => by
    obtain ⟨h1, h2⟩ := NewL.get h.2
    refine ⟨by simp [h1], fun b hb => ?_⟩
    cases b with
    | zero => exact h.1
    | succ b => exact h2 b (by simpa using hb)
  | [], _ :: _, h => h.elim
  | _ :: _, [], h => h.elim
theorem StartL.get {σ : Nat → Nat} : ∀ {os os1 : List AObj} {us : List (Option AObj)}, StartL σ os os1 us → os1.length = os.length ∧ us.length = os.length ∧ ∀ b, b < os.length → ∃ u, us[b]? = some u ∧ ((getO os b = .resv ∧ getO os1 b = .resv ∧ u = none) ∨ ((∃ cs opn esz, getO os b = .cells cs true opn esz) ∧ u = none) ∨ (live (getO os b) = true ∧ ∃ o', u = some o' ∧ ((liveOr (getO os1 b) ∧ o' = renO σ (getO os1 b)) ∨ (o' = .dead ∧ getO os1 b ≠ .resv))))
  | [], [], [], _ => ⟨rfl, rfl, fun b h => by simp at h⟩
  | o :: os, o1 :: os1, u :: us, h => by
    obtain ⟨h1, h2, h3⟩ := StartL.get h.2
    refine ⟨by simp [h1], by simp [h2], fun b hb => ?_⟩
    cases b with
    | zero => exact ⟨u, rfl, h.1⟩
    | succ b => exact h3 b (by simpa using hb)
  | [], [], _ :: _, h => h.elim
  | [], _ :: _, _, h => h.elim
  | _ :: _, [], _, h => h.elim
  | _ :: _, _ :: _, [], h => h.elim
theorem upd_get : ∀ (l : List Nat) (us : List (Option AObj)) (s : List AObj), us.length = l.length → (∀ (b c : Nat), l[b]? = some c → (∃ o, us[b]? = some (some o)) → c < s.length ∧ c < 64) → distinct l = true →
    (upd s l us).length = s.length ∧ (∀ (b c : Nat) (o : AObj), l[b]? = some c → us[b]? = some (some o) → getO (upd s l us) c = o) ∧ (∀ (c : Nat), (∀ (b : Nat), l[b]? = some c → us[b]? = some none) → getO (upd s l us) c = getO s c)
  | [], [], s, _, _, _ => ⟨rfl, fun b c o h => by simp at h, fun c _ => rfl⟩
  | [], _ :: _, s, h, _, _ => by simp at h
  | _ :: _, [], s, h, _, _ => by simp at h
  | d :: l, u :: us, s, hl, hlt, hd => by
    have hd2 : distinct l = true := by
      simp only [distinct, Bool.and_eq_true] at hd
      exact hd.2
    have hl2 : us.length = l.length := by simpa using hl
    cases u with
    | none =>
      obtain ⟨h1, h2, h3⟩ := upd_get l us s hl2 (fun b c k1 k2 => hlt (b + 1) c (by simpa using k1) (by simpa using k2)) hd2
      refine ⟨h1, ?_, ?_⟩
      · intro b c o k1 k2
        cases b with
        | zero => simp at k2
        | succ b => exact h2 b c o (by simpa using k1) (by simpa using k2)
      · intro c k
        exact h3 c fun b hb => by have := k (b + 1) (by simpa using hb); simpa using this
    | some o =>
      obtain ⟨q1, q2⟩ := hlt 0 d rfl ⟨o, rfl⟩
      have hsl : (setO s d o).length = s.length := setO_length o q1
      obtain ⟨h1, h2, h3⟩ := upd_get l us (setO s d o) hl2 (fun b c k1 k2 => by rw [hsl]; exact hlt (b + 1) c (by simpa using k1) (by simpa using k2)) hd2
      have hnot : ∀ (b : Nat), l[b]? = some d → False := by
        intro b hb
        have := distinct_spec hd (b := 0) (b' := b + 1) (c := d) rfl (by simpa using hb) q2
        omega
      refine ⟨by show (upd (setO s d o) l us).length = _; rw [h1, hsl], ?_, ?_⟩
      · intro b c o' k1 k2
        cases b with
        | zero =>
          simp only [List.getElem?_cons_zero, Option.some.injEq] at k1 k2
          subst k1; subst k2
          show getO (upd (setO s d o) l us) d = _
          rw [h3 d (fun b hb => (hnot b hb).elim), getO_set, if_pos rfl]
        | succ b => exact h2 b c o' (by simpa using k1) (by simpa using k2)
      · intro c k
        have hcd : c ≠ d := by
          rintro rfl
          have := k 0 rfl
          simp at this
        show getO (upd (setO s d o) l us) c = _
        rw [h3 c (fun b hb => by have := k (b + 1) (by simpa using hb); simpa using this), getO_set, if_neg hcd]
theorem backL {s : List AObj} {g : Nat → AObj} {N : Nat} {sH : List AObj} {l : List Nat} (h : PartL s (sigma l (N + 64)) sH l) (hs : s.length < 64) (hH : sH.length < 64) (hd : distinct l = true) {sa sb news : List AObj} {g1 : Nat → AObj} {N1 : Nat} {us : List (Option AObj)}
    (hst : StartL (sigma1 l N sH.length s.length) sH sa us) (hn : NewL (sigma1 l N sH.length s.length) sb news) (hfit : s.length + sb.length < 64) (hfit1 : sa.length + sb.length < 64) :
    Back (hp s g N) (sigma l (N + 64)) (hp sH noG 0) (hp (sa ++ sb) g1 N1) (sigma1 l N sH.length s.length) (hp (upd s l us ++ news) (gcat g N) (N + N1)) := by
  obtain ⟨p1, p2⟩ := h.get
  obtain ⟨t1, t2, t3⟩ := hst.get
  obtain ⟨n1, n2⟩ := hn.get
  have usl : us.length = l.length := by omega
  have hlt : ∀ (b c : Nat), l[b]? = some c → (∃ o, us[b]? = some (some o)) → c < s.length ∧ c < 64 := by
    intro b c hc ⟨o, ho⟩
    have hb : b < sH.length := by have := (List.getElem?_eq_some_iff.1 hc).1; omega
    obtain ⟨u, hu, hx⟩ := t3 b hb
    rw [ho] at hu
    obtain rfl := Option.some.inj hu
    obtain ⟨c', hc', hy⟩ := p2 b hb
    obtain rfl := Option.some.inj (hc.symm.trans hc')
    rcases hx with ⟨_, _, q⟩ | ⟨_, q⟩ | ⟨q, _⟩
    · cases q
    · cases q
    · rcases hy with ⟨q', _⟩ | ⟨q1, _, _⟩
      · rw [q'] at q; cases q
      · exact ⟨q1, by omega⟩
  obtain ⟨u1, u2, u3⟩ := upd_get l us s usl hlt hd
  -- numbers
  have sLow : ∀ b, b < sH.length → sigma1 l N sH.length s.length b = sigma l (N + 64) b := by
    intro b hb
    unfold sigma1
    rw [bif_blt, if_pos hb]
  have sNew : ∀ b, sH.length ≤ b → b < 64 → sigma1 l N sH.length s.length b = s.length + (b - sH.length) := by
    intro b hb hb2
    unfold sigma1
    rw [bif_blt, if_neg (by omega), bif_blt, if_pos hb2]
  have sHigh : ∀ b, 64 ≤ b → sigma1 l N sH.length s.length b = N + b := by
    intro b hb
    unfold sigma1
    rw [bif_blt, if_neg (by omega), bif_blt, if_neg (by omega)]
  have hsz1 : ∀ b, b < (hp (sa ++ sb) g1 N1).size → b < N1 + 64 := fun b hb => hb
  have getL : ∀ b, b < sH.length → (hp (sa ++ sb) g1 N1).get b = getO sa b := by
    intro b hb
    rw [hp_low (by omega), getO_append_left _ (by omega)]
  have getN : ∀ b, sH.length ≤ b → b < 64 → (hp (sa ++ sb) g1 N1).get b = getO sb (b - sH.length) := by
    intro b hb hb2
    rw [hp_low hb2, getO_append_right _ (by omega), t1]
  have inNew : ∀ b, sH.length ≤ b → b < 64 → (hp (sa ++ sb) g1 N1).get b ≠ .resv → b - sH.length < sb.length := by
    intro b hb hb2 hne
    rw [getN b hb hb2] at hne
    rcases Nat.lt_or_ge (b - sH.length) sb.length with k | k
    · exact k
    · exact (hne (getO_ge _ _ k)).elim
  have startGet : ∀ b, b < sH.length → (hp sH noG 0).get b = getO sH b := fun b hb => hp_low (by omega)
  -- what is there behind at a number of the first ones
  have firstSigma : ∀ b, b < sH.length → (hp (sa ++ sb) g1 N1).get b ≠ .resv → ∃ c, l[b]? = some c ∧ c < s.length ∧ sigma l (N + 64) b = c ∧ getO sH b ≠ .resv := by
    intro b hb hne
    rw [getL b hb] at hne
    obtain ⟨u, hu, hx⟩ := t3 b hb
    obtain ⟨c, hc, hy⟩ := p2 b hb
    have hnr : getO sH b ≠ .resv := by
      rcases hx with ⟨_, q, _⟩ | ⟨⟨_, _, _, q⟩, _⟩ | ⟨q, _⟩
      · exact (hne q).elim
      · rw [q]; simp
      · exact live_not_resv q
    rcases hy with ⟨q, _⟩ | ⟨q1, _, _⟩
    · exact (hnr q).elim
    · exact ⟨c, hc, q1, sigma_lt hc (by omega), hnr⟩
  refine ⟨?_, ?_, ?_, ?_, ?_, ?_, ?_, ?_, ?_⟩
  · intro b hb hne
    have hb2 : b < 64 := by rw [hp_size] at hb; omega
    have hbl : b < sH.length := by
      rcases Nat.lt_or_ge b sH.length with k | k
      · exact k
      · rw [hp_low hb2, getO_ge _ _ k] at hne; exact (hne rfl).elim
    exact sLow b hbl
  · intro b hb hne
    rcases Nat.lt_or_ge b sH.length with k | k
    · obtain ⟨c, _, _, _, q⟩ := firstSigma b k hne
      left
      exact ⟨by rw [hp_size]; omega, by rw [startGet b k]; exact q⟩
    · right
      rcases Nat.lt_or_ge b 64 with k2 | k2
      · right
        have := inNew b k k2 hne
        rw [sNew b k k2, hp_low (by omega)]
        exact getO_ge _ _ (by omega)
      · left
        rw [sHigh b k2, hp_size]; omega
  · intro b c hb hc hnb hnc he
    rcases Nat.lt_or_ge b sH.length with k | k
    · obtain ⟨d, a1, a2, a3, _⟩ := firstSigma b k hnb
      rw [sLow b k, a3] at he
      rcases Nat.lt_or_ge c sH.length with m | m
      · obtain ⟨d', b1, b2, b3, _⟩ := firstSigma c m hnc
        rw [sLow c m, b3] at he
        subst he
        exact distinct_spec hd a1 b1 (by omega)
      · rcases Nat.lt_or_ge c 64 with m2 | m2
        · rw [sNew c m m2] at he; omega
        · rw [sHigh c m2] at he; omega
    · rcases Nat.lt_or_ge b 64 with k2 | k2
      · have hbn := inNew b k k2 hnb
        rw [sNew b k k2] at he
        rcases Nat.lt_or_ge c sH.length with m | m
        · obtain ⟨d', b1, b2, b3, _⟩ := firstSigma c m hnc
          rw [sLow c m, b3] at he; omega
        · rcases Nat.lt_or_ge c 64 with m2 | m2
          · rw [sNew c m m2] at he; omega
          · rw [sHigh c m2] at he; omega
      · rw [sHigh b k2] at he
        rcases Nat.lt_or_ge c sH.length with m | m
        · obtain ⟨d', b1, b2, b3, _⟩ := firstSigma c m hnc
          rw [sLow c m, b3] at he; omega
        · rcases Nat.lt_or_ge c 64 with m2 | m2
          · have hcn := inNew c m m2 hnc
            rw [sNew c m m2] at he; omega
          · rw [sHigh c m2] at he; omega
  · intro b hb hne
    rw [hp_size]
    rcases Nat.lt_or_ge b sH.length with k | k
    · obtain ⟨d, a1, a2, a3, _⟩ := firstSigma b k hne
      rw [sLow b k, a3]; omega
    · rcases Nat.lt_or_ge b 64 with k2 | k2
      · have hbn := inNew b k k2 hne
        rw [sNew b k k2]; omega
      · rw [sHigh b k2]
        have := hsz1 b hb; omega
  · rw [hp_size, hp_size]; omega
  · intro b hb hne
    rcases Nat.lt_or_ge b sH.length with k | k
    · obtain ⟨c, a1, a2, a3, a4⟩ := firstSigma b k hne
      obtain ⟨u, hu, hx⟩ := t3 b k
      have hcu : getO (upd s l us ++ news) c = getO (upd s l us) c := getO_append_left _ (by omega)
      rcases hx with ⟨q, _⟩ | ⟨q, q2⟩ | ⟨q1, o', q2, q3⟩
      · exact (a4 q).elim
      · right; left
        refine ⟨by rw [hp_size]; omega, ?_, ?_⟩
        · rw [startGet b k]; exact q
        · rw [sLow b k, a3, hp_low (by omega), hp_low (by omega), hcu]
          refine u3 c fun b' hb' => ?_
          have : b' = b := distinct_spec hd hb' a1 (by omega)
          subst this
          rw [hu, q2]
      · have hval : getO (upd s l us) c = o' := u2 b c o' a1 (by rw [hu, q2])
        rcases q3 with ⟨r1, r2⟩ | ⟨r, _⟩
        · right; right
          refine ⟨fun _ => .inl (by rw [startGet b k]; exact q1), by rw [getL b k]; exact r1, ?_⟩
          rw [sLow b k, a3, hp_low (by omega), hcu, hval, getL b k, r2]
        · left
          rw [sLow b k, a3, hp_low (by omega), hcu, hval, r]
    · rcases Nat.lt_or_ge b 64 with k2 | k2
      · have hbn := inNew b k k2 hne
        have hg : (hp (upd s l us ++ news) (gcat g N) (N + N1)).get (s.length + (b - sH.length)) = getO news (b - sH.length) := by
          rw [hp_low (by omega), getO_append_right _ (by omega), u1]
          congr 1
          omega
        rcases n2 _ hbn with ⟨q, _⟩ | ⟨q1, q2⟩
        · rw [getN b k k2] at hne; exact (hne q).elim
        · rcases q2 with q2 | q2
          · right; right
            refine ⟨fun _ => .inr (by rw [hp_low k2]; exact getO_ge _ _ k), by rw [getN b k k2]; exact q1, ?_⟩
            rw [sNew b k k2, hg, getN b k k2, q2]
          · left
            rw [sNew b k k2, hg, q2]
      · left
        rw [sHigh b k2, hp_high (by omega)]
        unfold gcat
        rw [if_neg (by omega)]
  · intro c hc hno
    left
    rcases Nat.lt_or_ge c 64 with k | k
    · rw [hp_low k, hp_low k]
      rcases Nat.lt_or_ge c s.length with k2 | k2
      · rw [getO_append_left _ (by omega)]
        refine u3 c fun b hb => ?_
        have hbl : b < sH.length := by have := (List.getElem?_eq_some_iff.1 hb).1; omega
        obtain ⟨u, hu, hx⟩ := t3 b hbl
        rw [hu]
        rcases hx with ⟨_, _, q⟩ | ⟨_, q⟩ | ⟨q1, o', q2, q3⟩
        · rw [q]
        · rw [q]
        · exfalso
          by_cases hz : getO sa b = .resv
          · rcases q3 with ⟨r1, _⟩ | ⟨_, r⟩
            · rw [hz] at r1; exact r1
            · exact r hz
          · refine hno b (by rw [hp_size]; omega) (by rw [getL b hbl]; exact hz) ?_
            rw [sLow b hbl]
            exact sigma_lt hb (by omega)
      · rw [getO_ge s c k2, getO_append_right _ (by omega), u1]
        rcases Nat.lt_or_ge (c - s.length) news.length with k3 | k3
        · -- a new one's number: it is none
          have hq := n2 (c - s.length) (by omega)
          rcases hq with ⟨q, q2⟩ | ⟨q1, q2⟩
          · exact q2
          · exfalso
            refine hno (sH.length + (c - s.length)) (by rw [hp_size]; omega) ?_ ?_
            · rw [getN _ (by omega) (by omega)]
              have : sH.length + (c - s.length) - sH.length = c - s.length := by omega
              rw [this]
              intro hz
              rw [hz] at q1; exact q1
            · rw [sNew _ (by omega) (by omega)]; omega
        · exact getO_ge _ _ k3
    · rw [hp_high k, hp_high k]
      unfold gcat
      rw [if_pos]
      rw [hp_size] at hc
      omega
  · intro c h1 h2 hno
    rw [hp_size] at h1
    rw [hp_high (by omega)]
    unfold gcat
    rw [if_neg (by omega)]
    rfl
  · exact hp_nx' (by rw [List.length_append, u1]; omega)
section
variable {P : Program} {K : Nat → Prop} {w0 : World} {pin : Nat → Prop} {n : Nat} {S : Slots} {ops : Array Oper} {i : Nat} {Q : Slots → AW → Prop}
def tau (ts : List Nat) (N b : Nat) : Nat := bif Nat.blt b 64 then sigma ts (N + 64) b else b
def RenL (τ : Nat → Nat) (s2 : List AObj) : List AObj → List Nat → Prop
  | [], [] => True
  | o :: os, c :: cs => (64 ≤ c ∨ (c < s2.length ∧ (getO s2 c = renO τ o ∨ getO s2 c = .dead))) ∧ RenL τ s2 os cs
  | _, _ => False
theorem RenL.get {τ : Nat → Nat} {s2 : List AObj} : ∀ {os : List AObj} {cs : List Nat}, RenL τ s2 os cs → os.length = cs.length ∧ ∀ b, b < os.length → ∃ c, cs[b]? = some c ∧ (64 ≤ c ∨ (c < s2.length ∧ (getO s2 c = renO τ (getO os b) ∨ getO s2 c = .dead)))
  | [], [], _ => ⟨rfl, fun b h => by simp at h⟩
  | o :: os, c :: cs, h => by
    obtain ⟨h1, h2⟩ := RenL.get h.2
    refine ⟨by simp [h1], fun b hb => ?_⟩
    cases b with
    | zero => exact ⟨c, rfl, h.1⟩
    | succ b => exact h2 b (by simpa using hb)
  | [], _ :: _, h => h.elim
  | _ :: _, [], h => h.elim
def fromOk (ts : List Nat) : Nat → List Nat → Bool
  | _, [] => true
  | c, u :: us => (match ts[u]? with | some d => Nat.beq d c | none => false) && fromOk ts (c + 1) us
theorem fromOk_spec {ts : List Nat} : ∀ {us : List Nat} {c : Nat}, fromOk ts c us = true → ∀ j u, us[j]? = some u → ts[u]? = some (c + j)
  | [], c, _, j, u, h => by simp at h
  | v :: us, c, hf, j, u, h => by
    simp only [fromOk, Bool.and_eq_true] at hf
    cases j with
    | zero =>
      simp only [List.getElem?_cons_zero, Option.some.injEq] at h
      subst h
      cases ht : ts[v]? with
      | none => rw [ht] at hf; simp at hf
      | some d =>
        rw [ht] at hf
        rw [Nat.eq_of_beq_eq_true hf.1]; rfl
    | succ j =>
      have := fromOk_spec hf.2 j u (by simpa using h)
      rw [this]
      congr 1
      omega
theorem ren_hp {s s2 : List AObj} {g : Nat → AObj} {N : Nat} (hB : Bulk g N) {ts us : List Nat} (hfit : (Nat.blt s.length 64 && Nat.blt s2.length 64 && distinct ts && fromOk ts 0 us && Nat.beq us.length s2.length) = true) (h : RenL (tau ts N) s2 s ts) : Ren (hp s g N) (tau ts N) (hp s2 (gcat g N) (N + 64)) := by
  simp only [Bool.and_eq_true] at hfit
  obtain ⟨⟨⟨⟨f1, f2⟩, f3⟩, f4⟩, f5⟩ := hfit
  have h1 : s.length < 64 := Nat.le_of_ble_eq_true f1
  have h2 : s2.length < 64 := Nat.le_of_ble_eq_true f2
  have h5 : us.length = s2.length := Nat.eq_of_beq_eq_true f5
  obtain ⟨r1, r2⟩ := h.get
  have tLow : ∀ b, b < 64 → tau ts N b = sigma ts (N + 64) b := fun b hb => by unfold tau; rw [bif_blt, if_pos hb]
  have tHigh : ∀ b, 64 ≤ b → tau ts N b = b := fun b hb => by unfold tau; rw [bif_blt, if_neg (by omega)]
  have isIn : ∀ b, b < 64 → (hp s g N).get b ≠ .resv → b < s.length := by
    intro b hb hne
    rw [hp_low hb] at hne
    rcases Nat.lt_or_ge b s.length with k | k
    · exact k
    · exact (hne (getO_ge _ _ k)).elim
  -- where a number goes
  have go : ∀ b, b < (hp s g N).size → (hp s g N).get b ≠ .resv → (b < s.length ∧ ∃ c, ts[b]? = some c ∧ c < s2.length ∧ tau ts N b = c ∧ (getO s2 c = renO (tau ts N) (getO s b) ∨ getO s2 c = .dead)) ∨ (b < s.length ∧ tau ts N b = N + 64 + b) ∨ (64 ≤ b ∧ tau ts N b = b) := by
    intro b hb hne
    rcases Nat.lt_or_ge b 64 with k | k
    · have hbs := isIn b k hne
      obtain ⟨c, hc, hx⟩ := r2 b hbs
      rw [tLow b k]
      rcases hx with hx | ⟨x1, x2⟩
      · right; left
        refine ⟨hbs, ?_⟩
        rcases sigma_cases ts (N + 64) b with ⟨c', q1, q2, _⟩ | ⟨q, _⟩
        · obtain rfl := Option.some.inj (hc.symm.trans q1); omega
        · exact q
      · left
        exact ⟨hbs, c, hc, x1, sigma_lt hc (by omega), x2⟩
    · right; right
      exact ⟨k, tHigh b k⟩
  refine ⟨?_, ?_, ?_, ?_, hp_nx' h2⟩
  · intro b c hb hc hnb hnc he
    rw [hp_size] at hb hc
    rcases go b (by rw [hp_size]; exact hb) hnb with ⟨b1, d, b2, b3, b4, _⟩ | ⟨b1, b2⟩ | ⟨b1, b2⟩
    · rcases go c (by rw [hp_size]; exact hc) hnc with ⟨c1, d', c2, c3, c4, _⟩ | ⟨c1, c2⟩ | ⟨c1, c2⟩
      · rw [b4, c4] at he
        subst he
        exact distinct_spec f3 b2 c2 (by omega)
      · rw [b4, c2] at he; omega
      · rw [b4, c2] at he; omega
    · rcases go c (by rw [hp_size]; exact hc) hnc with ⟨c1, d', c2, c3, c4, _⟩ | ⟨c1, c2⟩ | ⟨c1, c2⟩
      · rw [b2, c4] at he; omega
      · rw [b2, c2] at he; omega
      · rw [b2, c2] at he; omega
    · rcases go c (by rw [hp_size]; exact hc) hnc with ⟨c1, d', c2, c3, c4, _⟩ | ⟨c1, c2⟩ | ⟨c1, c2⟩
      · rw [b2, c4] at he; omega
      · rw [b2, c2] at he; omega
      · rw [b2, c2] at he; omega
  · intro b hb hne
    rw [hp_size]
    rw [hp_size] at hb
    rcases go b (by rw [hp_size]; exact hb) hne with ⟨b1, d, b2, b3, b4, _⟩ | ⟨b1, b2⟩ | ⟨b1, b2⟩
    · rw [b4]; omega
    · rw [b2]; omega
    · rw [b2]; omega
  · intro b hb hne
    rw [hp_size] at hb
    rcases go b (by rw [hp_size]; exact hb) hne with ⟨b1, d, b2, b3, b4, b5⟩ | ⟨b1, b2⟩ | ⟨b1, b2⟩
    · rw [b4, hp_low (by omega), hp_low (by omega)]
      exact b5
    · right
      rw [b2, hp_high (by omega)]
      unfold gcat
      rw [if_neg (by omega)]
    · left
      rw [b2, hp_high b1, hp_high b1]
      unfold gcat
      rw [if_pos (by omega)]
      exact (hB _ (by omega) _ tHigh).symm
  · intro c hc hal
    rw [hp_size] at hc
    rcases Nat.lt_or_ge c 64 with k | k
    · rw [hp_low k] at hal
      have hcs : c < s2.length := by
        rcases Nat.lt_or_ge c s2.length with q | q
        · exact q
        · rw [getO_ge _ _ q] at hal; cases hal
      have hu : us[c]? = some (us[c]'(by omega)) := List.getElem?_eq_getElem (by omega)
      have ht := fromOk_spec f4 c _ hu
      rw [Nat.zero_add] at ht
      generalize us[c]'(by omega) = b at ht
      have hbs : b < s.length := by have := (List.getElem?_eq_some_iff.1 ht).1; omega
      obtain ⟨c', hc', hx⟩ := r2 b hbs
      obtain rfl := Option.some.inj (ht.symm.trans hc')
      refine ⟨b, by rw [hp_size]; omega, by rw [tLow b (by omega)]; exact sigma_lt ht k, ?_⟩
      rw [hp_low (by omega)]
      rcases hx with hx | ⟨_, hx | hx⟩
      · omega
      · rw [hx, alive_ren] at hal; exact hal
      · rw [hx] at hal; cases hal
    · rw [hp_high k] at hal
      unfold gcat at hal
      by_cases hN : c - 64 < N
      · rw [if_pos hN] at hal
        exact ⟨c, by rw [hp_size]; omega, tHigh c k, by rw [hp_high k]; exact hal⟩
      · rw [if_neg hN] at hal; cases hal
def pinOk : Nat → List Nat → Nat → Bool
  | 0, _, _ => true
  | k + 1, [], _ => false
  | k + 1, t :: ts, c => Nat.beq t c && pinOk k ts (c + 1)
theorem pinOk_spec : ∀ {k : Nat} {ts : List Nat} {c : Nat}, pinOk k ts c = true → ∀ j, j < k → ts[j]? = some (c + j)
  | 0, _, _, _, j, h => by omega
  | k + 1, [], c, h, _, _ => by cases h
  | k + 1, t :: ts, c, h, j, hj => by
    simp only [pinOk, Bool.and_eq_true] at h
    cases j with
    | zero => rw [Nat.eq_of_beq_eq_true h.1]; rfl
    | succ j =>
      have := pinOk_spec h.2 j (by omega)
      rw [List.getElem?_cons_succ, this]
      congr 1
      omega
theorem pin_tau {sH : List AObj} (hs : sH.length < 64) {ts : List Nat} {N : Nat} (h : pinOk sH.length ts 0 = true) : ∀ b, pinOf (hp sH noG 0) b → tau ts N b = b := by
  rintro b ⟨h1, h2⟩
  have hb : b < 64 := by rw [hp_size] at h1; omega
  have hbs : b < sH.length := by
    rcases Nat.lt_or_ge b sH.length with q | q
    · exact q
    · rw [hp_low hb, getO_ge _ _ q] at h2; exact (h2 rfl).elim
  have := pinOk_spec h b hbs
  rw [Nat.zero_add] at this
  unfold tau
  rw [bif_blt, if_pos hb]
  exact sigma_lt this hb
theorem EV.renh {s s2 sH : List AObj} {g : Nat → AObj} {N : Nat} (hB : Bulk g N) (ts us keep : List Nat) {S2 : Slots}
    (hfit : (Nat.blt s.length 64 && Nat.blt s2.length 64 && distinct ts && fromOk ts 0 us && Nat.beq us.length s2.length) = true) (hpin : (Nat.blt sH.length 64 && pinOk sH.length ts 0) = true) (hr : RenL (tau ts N) s2 s ts) (e : renS (tau ts N) (restr keep S) = S2)
    (h : EV P K w0 (pinOf (hp sH noG 0)) n ops i S2 (hp s2 (gcat g N) (N + 64)) Q) : EV P K w0 (pinOf (hp sH noG 0)) n ops i S (hp s g N) Q := by
  simp only [Bool.and_eq_true] at hpin
  exact EV.renum (ren_hp hB hfit hr) (pin_tau (Nat.le_of_ble_eq_true hpin.1) hpin.2) keep e h
end
end Go.Abs
