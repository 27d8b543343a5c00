/- Regions that draw their order, once more: what is made new lies at numbers kept ahead, and the heap behind each set of operations that may have been run stands in a table. -/
import Derived.Test.YtioggedadamoaaaAbsDrawC
set_option autoImplicit false
set_option linter.unusedVariables false
set_option linter.unusedSimpArgs false
set_option linter.unnecessarySimpa false
namespace Go.Abs
open Go.RowKit
def beqE : List MapEntry → List MapEntry → Bool
  | [], [] => true
  | x :: l, y :: r => beqV x.key y.key && beqV x.val y.val && Nat.beq x.born y.born && beqE l r
  | _, _ => false
def beqO : AObj → AObj → Bool
  | .cells a b c d, .cells a' b' c' d' => beqVL a a' && b == b' && c == c' && Nat.beq d d'
  | .map a b, .map a' b' => beqE a a' && Nat.beq b b'
  | .dead, .dead => true
  | .resv, .resv => true
  | _, _ => false
def beqT : Tr → Tr → Bool
  | .nil, .nil => true
  | .node l o r, .node l' o' r' => beqO o o' && beqT l l' && beqT r r'
  | _, _ => false
def beqX : Option Nat → Option Nat → Bool
  | none, none => true
  | some a, some b => Nat.beq a b
  | _, _ => false
def beqA (A A' : AW) : Bool := Nat.beq A.size A'.size && beqX A.nx A'.nx && beqT A.tr A'.tr && Nat.beq A.win A'.win
theorem beqE_eq : ∀ (a b : List MapEntry), beqE a b = true → a = b
  | [], b, h => by cases b <;> simp_all [beqE]
  | x :: l, b, h => by
    cases b with
    | nil => simp [beqE] at h
    | cons y r =>
      simp only [beqE, Bool.and_eq_true] at h
      obtain ⟨⟨⟨h1, h2⟩, h3⟩, h4⟩ := h
      have e1 := beqV_eq _ _ h1
      have e2 := beqV_eq _ _ h2
      have e3 := Nat.eq_of_beq_eq_true h3
      rw [beqE_eq l r h4]
      cases x; cases y
      simp_all
theorem beqO_eq (a b : AObj) (h : beqO a b = true) : a = b := by
  cases a <;> cases b <;> try (simp [beqO] at h; done)
  · simp only [beqO, Bool.and_eq_true, beq_iff_eq] at h
    obtain ⟨⟨⟨h1, rfl⟩, rfl⟩, h4⟩ := h
    rw [beqVL_eq _ _ h1, Nat.eq_of_beq_eq_true h4]
  · simp only [beqO, Bool.and_eq_true] at h
    rw [beqE_eq _ _ h.1, Nat.eq_of_beq_eq_true h.2]
  · rfl
  · rfl
theorem beqT_eq : ∀ (a b : Tr), beqT a b = true → a = b
  | .nil, b, h => by cases b <;> simp_all [beqT]
  | .node l o r, b, h => by
    cases b with
    | nil => simp [beqT] at h
    | hp s g => simp [beqT] at h
    | node l' o' r' =>
      simp only [beqT, Bool.and_eq_true] at h
      rw [beqO_eq _ _ h.1.1, beqT_eq l l' h.1.2, beqT_eq r r' h.2]
  | .hp s g, b, h => by cases b <;> simp [beqT] at h
theorem beqX_eq (a b : Option Nat) (h : beqX a b = true) : a = b := by
  cases a <;> cases b <;> try (simp [beqX] at h; done)
  · rfl
  · rename_i a b
    have h2 : Nat.beq a b = true := h
    rw [Nat.eq_of_beq_eq_true h2]
theorem beqA_eq (a b : AW) (h : beqA a b = true) : a = b := by
  simp only [beqA, Bool.and_eq_true] at h
  have h1 := Nat.eq_of_beq_eq_true h.1.1.1
  have h2 := beqX_eq _ _ h.1.1.2
  have h3 := beqT_eq _ _ h.1.2
  have h4 := Nat.eq_of_beq_eq_true h.2
  cases a; cases b
  simp_all
structure SE where
  t : Array Value
  r : Option Value
  e : Bool
  p : Option Nat
def isFnCall (o : Oper) : Bool :=
  match o.op with
  | .call c => match c.callee with
    | .builtin _ => false
    | _ => true
  | .store .. => true
  | .mapUpdate .. => true
  | _ => false
def isSl (o : Oper) : Bool :=
  match o.op with
  | .slice .. => true
  | _ => false
def mk? (P : Program) (o : Oper) : Bool := (isE P o || isSl o) && !(isFnCall o)
def countMk (P : Program) : List Oper → Nat
  | [] => 0
  | o :: l => bif mk? P o then countMk P l + 1 else countMk P l
def stepE (P : Program) (call : CallF) (t : Array Value) (o : Oper) (p : Option Nat) (A : AW) : Option (Value × AW) :=
  match p with
  | none => aop P call t o A
  | some r => bif (A.get r).isResv && Nat.blt r A.size then
      match aop P call t o (A.at (some r)) with
      | some (v, A') => some (v, A'.at none)
      | none => none
    else none
def cons? (s : SE) (x : Option (List SE × Array Value)) : Option (List SE × Array Value) :=
  match x with
  | some (l, t) => some (s :: l, t)
  | none => none
def traceE (P : Program) (call : CallF) (ops : Array Oper) : List Oper → Nat → Array Value → AW → Option (List SE × Array Value)
  | [], _, t, _ => some ([], t)
  | o :: rest, c, t, A =>
    bif Region.wanted o (yielded ops t) then
      bif isE P o then
        match stepE P call t o (bif mk? P o then some c else none) A with
        | some (v, A') => cons? ⟨t, some v, true, bif mk? P o then some c else none⟩ (traceE P call ops rest (bif mk? P o then c + 1 else c) (aput t o.dst v) A')
        | none => none
      else match aop P call t o A with
        | some (v, A') => bif quiet A' A then cons? ⟨t, some v, false, none⟩ (traceE P call ops rest (bif mk? P o then c + 1 else c) (aput t o.dst v) A)
          else match stepE P call t o (some c) A with
            | some (v, A') => cons? ⟨t, some v, true, some c⟩ (traceE P call ops rest (bif mk? P o then c + 1 else c) (aput t o.dst v) A')
            | none => none
        | none => none
    else cons? ⟨t, none, false, none⟩ (traceE P call ops rest (bif mk? P o then c + 1 else c) (aput t o.dst undef) A)
def findM (m : Nat) : List (Nat × AW) → Option AW
  | [] => none
  | (k, A) :: l => bif Nat.beq k m then some A else findM m l
def effsE : List SE → Nat → List Nat
  | [], _ => []
  | s :: l, j => bif s.e then j :: effsE l (j + 1) else effsE l (j + 1)
def fullE : List SE → Nat → Nat
  | [], _ => 0
  | s :: l, j => bif s.e then 2 ^ j ||| fullE l (j + 1) else fullE l (j + 1)
def mayE (ms es : List Nat) (m j : Nat) : Bool :=
  !(m.testBit j) && es.all (fun e => !((ms.getD j 0).testBit e) || m.testBit e) && es.all (fun e => !(m.testBit e) || !((ms.getD e 0).testBit j))
def nextE (P : Program) (call : CallF) (o : Oper) (s : SE) (A : AW) : Option AW :=
  match s.r with
  | none => some A
  | some v => match stepE P call s.t o s.p A with
    | some (u, A') => bif beqV u v then some A' else none
    | none => none
def growE (P : Program) (call : CallF) (ms es : List Nat) (j : Nat) (o : Oper) (s : SE) : List (Nat × AW) → Option (List (Nat × AW))
  | [] => some []
  | (m, A) :: l => match growE P call ms es j o s l with
    | none => none
    | some l' => bif mayE ms es m j then
        match nextE P call o s A with
        | some A' => some ((m ||| 2 ^ j, A') :: l')
        | none => none
      else some l'
def tableE (P : Program) (call : CallF) (ms es : List Nat) : Nat → List Oper → List SE → List (Nat × AW) → Option (List (Nat × AW))
  | j, o :: l, s :: r, tb => bif s.e then
      match growE P call ms es j o s tb with
      | some new => tableE P call ms es (j + 1) l r (tb ++ new)
      | none => none
    else tableE P call ms es (j + 1) l r tb
  | _, _, _, tb => some tb
def entryOk (P : Program) (call : CallF) (ms es : List Nat) (tb : List (Nat × AW)) (m : Nat) (A : AW) (j : Nat) (o : Oper) (s : SE) : Bool :=
  !(mayE ms es m j) || (bif s.e then
      match nextE P call o s A, findM (m ||| 2 ^ j) tb with
      | some A', some A'' => beqA A' A''
      | _, _ => false
    else match s.r with
      | none => true
      | some v => !(isE P o) && sameAt P call s.t o v A)
def entriesOk (P : Program) (call : CallF) (ms es : List Nat) (tb : List (Nat × AW)) (m : Nat) (A : AW) : Nat → List Oper → List SE → Bool
  | j, o :: l, s :: r => entryOk P call ms es tb m A j o s && entriesOk P call ms es tb m A (j + 1) l r
  | _, _, _ => true
def tableOk (P : Program) (call : CallF) (ops : Array Oper) (ms es : List Nat) (sts : List SE) (tb : List (Nat × AW)) : List (Nat × AW) → Bool
  | [] => true
  | (m, A) :: l => entriesOk P call ms es tb m A 0 ops.toList sts && tableOk P call ops ms es sts tb l
def adrawE (P : Program) (call : CallF) (ops : Array Oper) (t : Array Value) (A : AW) : Option (Array Value × AW) :=
  bif edgesOk 0 ops.toList && slotsOk ops (masks ops) 0 ops.toList then
    match traceE P call ops ops.toList A.size t (A.keep (countMk P ops.toList)) with
    | some (sts, t1) =>
      match tableE P call (masks ops) (effsE sts 0) 0 ops.toList sts [(0, A.keep (countMk P ops.toList))] with
      | some tb => match findM (fullE sts 0) tb with
        | some A1 => bif tableOk P call ops (masks ops) (effsE sts 0) sts tb tb then some (t1, A1) else none
        | none => none
      | none => none
    | none => none
  else none
def adraw2 (P : Program) (call : CallF) (ops : Array Oper) (t : Array Value) (A : AW) : Option (Array Value × AW) :=
  match adraw P call ops t A with
  | some r => some r
  | none => adrawE P call ops t A
section
variable {B : Nat → Prop} {w0 : World} {ρ : Rho} {A : AW} {w : World}
theorem Inv.atNone (h : Inv B w0 ρ A w) : Inv B w0 ρ (A.at none) w := ⟨h.below, h.base, h.at_, h.sep, h.dead_, (fun r h => by cases h), h.full⟩
theorem Inv.atSome (h : Inv B w0 ρ A w) {r : Nat} (h1 : r < A.size) (h2 : A.get r = .resv) : Inv B w0 ρ (A.at (some r)) w :=
  ⟨h.below, h.base, h.at_, h.sep, h.dead_, (fun r' h => by cases h; exact ⟨h1, h2, fun j _ k2 => absurd k2 (Nat.not_lt_zero _)⟩), h.full⟩
theorem Inv.keep1 (h : Inv B w0 ρ A w) : Inv B w0 ρ { size := A.size + 1, tr := A.tr.put (A.size + 1) A.size .resv, nx := none, win := 0 } w := by
  have hg : ∀ c, ({ size := A.size + 1, tr := A.tr.put (A.size + 1) A.size .resv, nx := none, win := 0 } : AW).get c = if c = A.size then .resv else A.get c := fun c => Tr.get_put _ _ _ _ _ (by omega)
  refine ⟨h.below, h.base, ?_, ?_, ?_, (fun r h => by cases h), fun b h1 h2 => by
    rw [hg] at h2
    by_cases hb : b = A.size
    · rw [if_pos hb] at h2; cases h2
    · rw [if_neg hb] at h2; exact h.full b (by simp only at h1; omega) h2⟩
  · intro b e hb
    obtain ⟨h1, h2, h3⟩ := h.at_ b e hb
    rw [hg, if_neg (by omega)]
    exact ⟨by simp only; omega, h2, h3⟩
  · intro b c e f hne hb hc hlb hlc
    have h1 := (h.at_ b e hb).1
    have h2 := (h.at_ c f hc).1
    rw [hg, if_neg (by omega)] at hlb hlc
    exact h.sep b c e f hne hb hc hlb hlc
  · intro b hb
    simp only at hb
    exact h.dead_ b (by omega)
theorem Inv.keep (h : Inv B w0 ρ A w) : ∀ k, Inv B w0 ρ (A.keep k) w := by
  intro k
  induction k generalizing A with
  | zero => exact h
  | succ k ih => exact ih h.keep1
end
def seT (sts : List SE) (t1 : Array Value) (i : Nat) : Array Value := match sts[i]? with | some s => s.t | none => t1
def seR (sts : List SE) (i : Nat) : Option Value := (sts[i]?).bind (·.r)
def seE (sts : List SE) (i : Nat) : Bool := match sts[i]? with | some s => s.e | none => false
section
variable {P : Program} {call : CallF}
theorem cons?_inv {s : SE} {x : Option (List SE × Array Value)} {sts : List SE} {t1 : Array Value} (h : cons? s x = some (sts, t1)) : ∃ l, x = some (l, t1) ∧ sts = s :: l := by
  unfold cons? at h
  split at h
  · simp only [Option.some.injEq, Prod.mk.injEq] at h
    obtain ⟨rfl, rfl⟩ := h
    exact ⟨_, rfl, rfl⟩
  · cases h
theorem traceE_spec (ops : Array Oper) : ∀ (l : List Oper) (c : Nat) (t : Array Value) (A : AW) (sts : List SE) (t1 : Array Value), traceE P call ops l c t A = some (sts, t1) →
    sts.length = l.length ∧ seT sts t1 0 = t ∧
    ∀ i o, l[i]? = some o → Region.wanted o (yielded ops (seT sts t1 i)) = (seR sts i).isSome ∧ seT sts t1 (i + 1) = aput (seT sts t1 i) o.dst ((seR sts i).getD undef)
  | [], c, t, A, sts, t1, e => by
    simp only [traceE, Option.some.injEq, Prod.mk.injEq] at e
    obtain ⟨rfl, rfl⟩ := e
    exact ⟨rfl, rfl, fun i o h => by simp at h⟩
  | o :: l, c, t, A, sts, t1, e => by
    unfold traceE at e
    have go : ∀ (r : Option Value) (b : Bool) (p : Option Nat) (c' : Nat) (A' : AW), Region.wanted o (yielded ops t) = r.isSome → cons? ⟨t, r, b, p⟩ (traceE P call ops l c' (aput t o.dst (r.getD undef)) A') = some (sts, t1) →
        sts.length = (o :: l).length ∧ seT sts t1 0 = t ∧
        ∀ i o', (o :: l)[i]? = some o' → Region.wanted o' (yielded ops (seT sts t1 i)) = (seR sts i).isSome ∧ seT sts t1 (i + 1) = aput (seT sts t1 i) o'.dst ((seR sts i).getD undef) := by
      intro r b p c' A' hw e
      obtain ⟨l2, hx, rfl⟩ := cons?_inv e
      obtain ⟨h1, h2, h3⟩ := traceE_spec ops l c' _ A' l2 t1 hx
      refine ⟨by simp [h1], rfl, ?_⟩
      intro i o' hi
      cases i with
      | zero =>
        simp only [List.getElem?_cons_zero, Option.some.injEq] at hi
        subst hi
        refine ⟨hw, ?_⟩
        have : seT (⟨t, r, b, p⟩ :: l2) t1 (0 + 1) = seT l2 t1 0 := by simp [seT]
        rw [this, h2]
        rfl
      | succ i =>
        have k1 : ∀ n, seT (⟨t, r, b, p⟩ :: l2) t1 (n + 1) = seT l2 t1 n := fun n => by simp [seT]
        have k2 : seR (⟨t, r, b, p⟩ :: l2) (i + 1) = seR l2 i := by simp [seR]
        rw [k1, k1, k2]
        exact h3 i o' (by simpa using hi)
    cases hw : Region.wanted o (yielded ops t) with
    | false =>
      rw [hw] at e
      simp only [cond_false] at e
      exact go none _ _ _ _ (by rw [hw]; rfl) e
    | true =>
      rw [hw] at e
      simp only [cond_true] at e
      cases hE : isE P o with
      | true =>
        rw [hE] at e
        simp only [cond_true] at e
        split at e
        · rename_i v A' _
          exact go (some v) _ _ _ _ (by rw [hw]; rfl) e
        · cases e
      | false =>
        rw [hE] at e
        simp only [cond_false] at e
        split at e
        · rename_i v A' _
          cases hq : quiet A' A with
          | true =>
            rw [hq] at e
            simp only [cond_true] at e
            exact go (some v) _ _ _ _ (by rw [hw]; rfl) e
          | false =>
            rw [hq] at e
            simp only [cond_false] at e
            split at e
            · rename_i v2 A2 _
              exact go (some v2) _ _ _ _ (by rw [hw]; rfl) e
            · cases e
        · cases e
theorem effsE_spec : ∀ {sts : List SE} {j e : Nat}, e ∈ effsE sts j → j ≤ e ∧ seE sts (e - j) = true
  | [], j, e, h => by simp [effsE] at h
  | s :: l, j, e, h => by
    unfold effsE at h
    have rest : e ∈ effsE l (j + 1) → j ≤ e ∧ seE (s :: l) (e - j) = true := by
      intro h
      obtain ⟨h1, h2⟩ := effsE_spec h
      refine ⟨by omega, ?_⟩
      rw [show e - j = (e - (j + 1)) + 1 from by omega]
      simpa [seE] using h2
    cases hs : s.e with
    | false => rw [hs] at h; exact rest h
    | true =>
      rw [hs] at h
      simp only [cond_true, List.mem_cons] at h
      rcases h with rfl | h
      · refine ⟨Nat.le_refl _, ?_⟩
        simp [seE, hs]
      · exact rest h
theorem fullE_spec : ∀ (sts : List SE) (j i : Nat), (fullE sts j).testBit i = (decide (j ≤ i) && seE sts (i - j))
  | [], j, i => by simp [fullE, seE]
  | s :: l, j, i => by
    have ih := fullE_spec l (j + 1) i
    have hstep : (fullE (s :: l) j).testBit i = ((s.e && decide (j = i)) || (fullE l (j + 1)).testBit i) := by
      rw [fullE]
      cases hs : s.e with
      | true => simp only [cond_true, Nat.testBit_or, Nat.testBit_two_pow, Bool.true_and]
      | false => simp only [cond_false, Bool.false_and, Bool.false_or]
    rw [hstep, ih]
    rcases Nat.lt_trichotomy i j with h | h | h
    · simp [show ¬ (j = i) from by omega, show ¬ (j + 1 ≤ i) from by omega, show ¬ (j ≤ i) from by omega]
    · subst h
      simp [seE, show ¬ (i + 1 ≤ i) from by omega]
    · have : i - j = (i - (j + 1)) + 1 := by omega
      rw [this]
      simp [seE, show ¬ (j = i) from by omega, show j + 1 ≤ i from by omega, show j ≤ i from by omega]
theorem findM_mem {m : Nat} {A : AW} : ∀ {tb : List (Nat × AW)}, findM m tb = some A → (m, A) ∈ tb
  | [], h => by simp [findM] at h
  | (k, A') :: l, h => by
    unfold findM at h
    cases hk : Nat.beq k m with
    | true =>
      rw [hk] at h
      simp only [cond_true, Option.some.injEq] at h
      rw [Nat.eq_of_beq_eq_true hk, h]
      simp
    | false =>
      rw [hk] at h
      simp only [cond_false] at h
      have := findM_mem h
      simp [this]
theorem tableE_first {ms es : List Nat} : ∀ {l : List Oper} {sts : List SE} {j : Nat} {tb tb' : List (Nat × AW)}, tableE P call ms es j l sts tb = some tb' → ∃ r, tb' = tb ++ r
  | [], sts, j, tb, tb', h => by
    simp only [tableE, Option.some.injEq] at h
    exact ⟨[], by simp [h]⟩
  | o :: l, [], j, tb, tb', h => by
    simp only [tableE, Option.some.injEq] at h
    exact ⟨[], by simp [h]⟩
  | o :: l, s :: r, j, tb, tb', h => by
    unfold tableE at h
    cases hs : s.e with
    | false => rw [hs] at h; exact tableE_first h
    | true =>
      rw [hs] at h
      simp only [cond_true] at h
      split at h
      · obtain ⟨r2, rfl⟩ := tableE_first h
        exact ⟨_, by rw [List.append_assoc]⟩
      · cases h
theorem entriesOk_spec {ms es : List Nat} {tb : List (Nat × AW)} {m : Nat} {A : AW} : ∀ {l : List Oper} {sts : List SE} {j : Nat}, entriesOk P call ms es tb m A j l sts = true → ∀ k o s, l[k]? = some o → sts[k]? = some s → entryOk P call ms es tb m A (j + k) o s = true
  | [], sts, j, _, k, o, s, ho, _ => by simp at ho
  | y :: l, [], j, _, k, o, s, _, hs => by simp at hs
  | y :: l, z :: r, j, h, k, o, s, ho, hs => by
    simp only [entriesOk, Bool.and_eq_true] at h
    cases k with
    | zero =>
      simp only [List.getElem?_cons_zero, Option.some.injEq] at ho hs
      subst ho
      subst hs
      exact h.1
    | succ k =>
      have := entriesOk_spec h.2 k o s (by simpa using ho) (by simpa using hs)
      rwa [show j + 1 + k = j + (k + 1) from by omega] at this
theorem tableOk_spec {ops : Array Oper} {ms es : List Nat} {sts : List SE} {tb : List (Nat × AW)} : ∀ {l : List (Nat × AW)}, tableOk P call ops ms es sts tb l = true → ∀ m A, (m, A) ∈ l → entriesOk P call ms es tb m A 0 ops.toList sts = true
  | [], _, m, A, h => by simp at h
  | (k, A') :: l, h, m, A, hm => by
    simp only [tableOk, Bool.and_eq_true] at h
    rcases List.mem_cons.1 hm with he | hm
    · cases he; exact h.1
    · exact tableOk_spec h.2 m A hm
structure WholeE (P : Program) (call : CallF) (ops : Array Oper) (sts : List SE) (tmps t1 : Array Value) (A0 A1 : AW) (tb : List (Nat × AW)) : Prop where
  edges : edgesOk 0 ops.toList = true
  slots : slotsOk ops (masks ops) 0 ops.toList = true
  len : sts.length = ops.size
  T0 : seT sts t1 0 = tmps
  step : ∀ i o, ops[i]? = some o → Region.wanted o (yielded ops (seT sts t1 i)) = (seR sts i).isSome ∧ seT sts t1 (i + 1) = aput (seT sts t1 i) o.dst ((seR sts i).getD undef)
  start : findM 0 tb = some A0
  fin : findM (fullE sts 0) tb = some A1
  chk : tableOk P call ops (masks ops) (effsE sts 0) sts tb tb = true
variable {ops : Array Oper} {sts : List SE} {tmps t1 : Array Value} {A0 A1 : AW} {tb : List (Nat × AW)} {B : Nat → Prop} {w0 : World}
theorem WholeE.tsize (h : WholeE P call ops sts tmps t1 A0 A1 tb) : ∀ i, i ≤ ops.size → (seT sts t1 i).size = tmps.size
  | 0, _ => by rw [h.T0]
  | i + 1, hi => by
    have hlt : i < ops.size := by omega
    obtain ⟨_, h2⟩ := h.step i _ (Array.getElem?_eq_getElem hlt)
    rw [h2, aput_size, h.tsize i (by omega)]
theorem WholeE.slot (h : WholeE P call ops sts tmps t1 A0 A1 tb) (s : Tmp) : ∀ j, j ≤ ops.size → (seT sts t1 (lw ops (fun _ => true) s j)).getD s undef = (seT sts t1 j).getD s undef
  | 0, _ => rfl
  | j + 1, hj => by
    have hlt : j < ops.size := by omega
    have hget : ops[j]? = some ops[j] := Array.getElem?_eq_getElem hlt
    unfold lw
    by_cases hd : ((ops[j]?).bind (·.dst)) = some s
    · rw [if_pos ⟨rfl, hd⟩]
    · rw [if_neg (fun k => hd k.2), h.slot s j (by omega)]
      obtain ⟨_, h2⟩ := h.step j _ hget
      rw [h2, aput_getD, if_neg]
      rintro ⟨hx, _⟩
      rw [hget] at hd
      exact hd (by simpa using hx)
structure MidE (B : Nat → Prop) (w0 : World) (ops : Array Oper) (sts : List SE) (t1 : Array Value) (tb : List (Nat × AW)) (ρ : Rho) (a0 : Act) (listed : Array Bool) (a : Act) (w : World) : Prop where
  size : listed.size = ops.size
  closed : Closed ops fun i => listed.getD i false = true
  inv : ∃ ρ1 m A, Ext ρ ρ1 ∧ Inv B w0 ρ1 A w ∧ findM m tb = some A ∧ (∀ i, m.testBit i = (seE sts i && listed.getD i false)) ∧
    ∀ s, VR ρ1 ((seT sts t1 (lw ops (fun i => listed.getD i false) s ops.size)).getD s undef) (a.tmps.getD s undef)
  tsize : a.tmps.size = a0.tmps.size
  defers : a.defers = a0.defers
theorem MidE.step (W : WholeE P call ops sts tmps t1 A0 A1 tb) {ρ : Rho} {a0 a : Act} {w : World} {listed : Array Bool} (hts : tmps.size = a0.tmps.size) (M : MidE B w0 ops sts t1 tb ρ a0 listed a w) {j : Nat} {o : Oper}
    (hj : listed.getD j false = false) (ho : ops[j]? = some o) (hr : ∀ e ∈ o.after, Region.binds .any e = true → listed.getD e.on false = true) :
    ∃ ρ1, (∀ d ∈ looks ops o, VR ρ1 ((seT sts t1 j).getD d undef) (a.tmps.getD d undef)) ∧ (seT sts t1 j).size = a.tmps.size ∧
      Region.wanted o (yielded ops (seT sts t1 j)) = (seR sts j).isSome ∧
      (seR sts j = none → MidE B w0 ops sts t1 tb ρ a0 (listed.setIfInBounds j true) (a.put o.dst undef) w) ∧
      (∀ v, seR sts j = some v → ∃ A2 A3, Inv B w0 ρ1 A2 w ∧ aop P call (seT sts t1 j) o A2 = some (v, A3) ∧
        ∀ ρ2 w2 v', Ext ρ1 ρ2 → Inv B w0 ρ2 A3 w2 → VR ρ2 v v' → MidE B w0 ops sts t1 tb ρ a0 (listed.setIfInBounds j true) (a.put o.dst v') w2) := by
  obtain ⟨hsz, hcl, ⟨ρ1, m, A, hext, hI, hfm, hm, hslot⟩, htz, hdf⟩ := M
  have hlt : j < ops.size := (Array.getElem?_eq_some_iff.1 ho).1
  have hjl : j < listed.size := by omega
  have befD : ∀ {i}, Bef ops i j → listed.getD i false = true := fun hb => hcl.ready ho hr hb
  have befN : ∀ {i}, Bef ops j i → listed.getD i false = true → False := fun hb hi => by
    have := hcl.bef hb hi
    try simp only at this
    rw [hj] at this; cases this
  have cut : ∀ d, (∀ i x, ops[i]? = some x → x.dst = some d → i ≠ j → (i < j → clash ops x o = true) ∧ (j < i → clash ops o x = true)) →
      ∀ i, i < ops.size → dstAt ops i = some d → i ≠ j → (listed.getD i false = true ↔ i < j) := by
    intro d hd i hi hdi hij
    have hx : ops[i]? = some ops[i] := Array.getElem?_eq_getElem hi
    have hxd : ops[i].dst = some d := by unfold dstAt at hdi; rw [hx] at hdi; simpa using hdi
    obtain ⟨c1, c2⟩ := hd i _ hx hxd hij
    rcases Nat.lt_or_gt_of_ne hij with h | h
    · exact ⟨fun _ => h, fun _ => befD (clash_bef W.slots h hx ho (c1 h))⟩
    · exact ⟨fun hi2 => (befN (clash_bef W.slots h ho hx (c2 h)) hi2).elim, fun h2 => by omega⟩
  have hlook : ∀ d ∈ looks ops o, VR ρ1 ((seT sts t1 j).getD d undef) (a.tmps.getD d undef) := by
    intro d hd
    have h1 := hslot d
    have h2 : lw ops (fun i => listed.getD i false) d ops.size = lw ops (fun _ => true) d j := by
      refine lw_cut (by omega) fun i hi hdi => ?_
      by_cases hij : i = j
      · subst hij
        try simp only
        rw [hj]
        simp
      · refine cut d ?_ i hi hdi hij
        intro i x hx hxd _
        refine ⟨fun _ => ?_, fun _ => ?_⟩
        · unfold clash; rw [dstIn_spec hxd hd]; simp
        · unfold clash; rw [dstIn_spec hxd hd]; simp
    rw [h2, W.slot d j (by omega)] at h1
    exact h1
  obtain ⟨s1, s2⟩ := W.step j o ho
  have hsize : (seT sts t1 j).size = a.tmps.size := by rw [W.tsize j (by omega), hts, htz]
  have next : ∀ ρ2 w2 v' m2 A4, Ext ρ1 ρ2 → Inv B w0 ρ2 A4 w2 → findM m2 tb = some A4 → (∀ i, m2.testBit i = (seE sts i && (decide (j = i) || listed.getD i false))) → VR ρ2 ((seR sts j).getD undef) v' →
      MidE B w0 ops sts t1 tb ρ a0 (listed.setIfInBounds j true) (a.put o.dst v') w2 := by
    intro ρ2 w2 v' m2 A4 g1 g2 gf gm g3
    refine ⟨by simp [hsz], ?_, ⟨ρ2, m2, A4, hext.trans g1, g2, gf, fun i => by rw [gm, getD_listed hjl], ?_⟩, by rw [act_put_size, htz], by rw [put_defers, hdf]⟩
    · intro i x hx hi e he hb
      try simp only at hi ⊢
      rw [getD_listed hjl] at hi ⊢
      simp only [Bool.or_eq_true, decide_eq_true_eq] at hi ⊢
      rcases hi with rfl | hi
      · rw [ho] at hx
        obtain rfl := Option.some.inj hx
        exact .inr (hr e he hb)
      · exact .inr (hcl i x hx hi e he hb)
    · intro s
      rw [act_put_getD]
      by_cases hd : o.dst = some s
      · have hlw : lw ops (fun i => (listed.setIfInBounds j true).getD i false) s ops.size = j + 1 := by
          refine lw_eq ops _ s hlt ⟨by (try simp only); rw [getD_listed hjl]; simp, by rw [ho]; simpa using hd⟩ ?_
          rintro i hi1 hi2 ⟨q1, q2⟩
          try simp only at q1
          rw [getD_listed hjl] at q1
          have hne : j ≠ i := by omega
          simp only [hne, decide_false, Bool.false_or] at q1
          have := (cut s ?_ i hi2 q2 (Ne.symm hne)).1 q1
          · omega
          · intro i x hx hxd _
            have hdx : dstIn x [s] = true := dstIn_spec hxd (by simp)
            have hdo : dstIn o [s] = true := dstIn_spec hd (by simp)
            refine ⟨fun _ => ?_, fun _ => ?_⟩
            · unfold clash; rw [hxd]; simp [hdo]
            · unfold clash; rw [hd]; simp [hdx]
        rw [hlw, s2, aput_getD]
        by_cases hls : s < a.tmps.size
        · rw [if_pos ⟨hd, by rw [hsize]; exact hls⟩, if_pos ⟨hd, hls⟩]
          exact g3
        · rw [if_neg (fun q => hls (by rw [← hsize]; exact q.2)), if_neg (fun q => hls q.2)]
          have h1 : (seT sts t1 j).getD s undef = undef := by
            rw [Array.getD_eq_getD_getElem?, Array.getElem?_eq_none (Nat.not_lt.1 (by first | exact hls | (rw [hsize]; exact hls)))]; rfl
          have h2 : a.tmps.getD s undef = undef := by
            rw [Array.getD_eq_getD_getElem?, Array.getElem?_eq_none (Nat.not_lt.1 (by first | exact hls | (rw [hsize]; exact hls)))]; rfl
          rw [h1, h2]
          exact VR.undef
      · rw [if_neg (fun q => hd q.1)]
        have hlw : lw ops (fun i => (listed.setIfInBounds j true).getD i false) s ops.size = lw ops (fun i => listed.getD i false) s ops.size := by
          refine lw_congr ops _ _ s _ fun i hi => ?_
          by_cases hij : j = i
          · subst hij
            rw [ho]
            constructor
            · rintro ⟨_, h⟩; exact (hd (by simpa using h)).elim
            · rintro ⟨_, h⟩; exact (hd (by simpa using h)).elim
          · rw [getD_listed hjl]
            simp [hij]
        rw [hlw]
        exact VR.ext g1 _ _ (hslot s)
  -- what the table says
  obtain ⟨s, hs⟩ : ∃ s, sts[j]? = some s := ⟨_, List.getElem?_eq_getElem (by rw [W.len]; exact hlt)⟩
  have hrow := entriesOk_spec (tableOk_spec W.chk m A (findM_mem hfm)) j o s (by simpa using ho) hs
  rw [Nat.zero_add] at hrow
  have hsT : seT sts t1 j = s.t := by unfold seT; rw [hs]
  have hsR : seR sts j = s.r := by unfold seR; rw [hs]; rfl
  have hsE : seE sts j = s.e := by unfold seE; rw [hs]
  have hmay : mayE (masks ops) (effsE sts 0) m j = true := by
    unfold mayE
    simp only [Bool.and_eq_true, List.all_eq_true, Bool.not_eq_true', Bool.or_eq_true]
    refine ⟨⟨by rw [hm, hj, Bool.and_false], fun e he => ?_⟩, fun e he => ?_⟩
    · have hee := (effsE_spec he).2
      rw [Nat.sub_zero] at hee
      cases hb : ((masks ops).getD j 0).testBit e with
      | false => exact .inl rfl
      | true => exact .inr (by rw [hm, hee, befD (masks_bef ops hb)]; rfl)
    · cases hme : m.testBit e with
      | false => exact .inl rfl
      | true =>
        refine .inr ?_
        rw [hm] at hme
        simp only [Bool.and_eq_true] at hme
        cases hb : ((masks ops).getD e 0).testBit j with
        | false => rfl
        | true => exact (befN (masks_bef ops hb) hme.2).elim
  unfold entryOk at hrow
  rw [hmay] at hrow
  simp only [Bool.not_true, Bool.false_or] at hrow
  cases hse : s.e with
  | false =>
    rw [hse] at hrow
    simp only [cond_false] at hrow
    have hmj : ∀ i, m.testBit i = (seE sts i && (decide (j = i) || listed.getD i false)) := by
      intro i
      rw [hm]
      by_cases hij : j = i
      · subst hij; rw [hsE, hse]; rfl
      · simp [hij]
    refine ⟨ρ1, hlook, hsize, s1, fun hn => next ρ1 w undef m A (Ext.refl _) hI hfm hmj (by rw [hn]; exact VR.undef), ?_⟩
    intro v hv
    rw [hsR] at hv
    rw [hv] at hrow
    simp only [Bool.and_eq_true, Bool.not_eq_true'] at hrow
    obtain ⟨hE, hsame⟩ := hrow
    unfold sameAt at hsame
    cases ha : aop P call s.t o A with
    | none => rw [ha] at hsame; cases hsame
    | some q =>
      obtain ⟨u, A'⟩ := q
      rw [ha] at hsame
      simp only [Bool.and_eq_true] at hsame
      have hu := beqV_eq _ _ hsame.1
      have hA := read_same hE ha hsame.2
      refine ⟨A, A, hI, by rw [hsT, ha, hu, hA], ?_⟩
      intro ρ2 w2 v' g1 g2 g3
      exact next ρ2 w2 v' m A g1 g2 hfm hmj (by rw [hsR, hv]; exact g3)
  | true =>
    rw [hse] at hrow
    simp only [cond_true] at hrow
    cases hn : nextE P call o s A with
    | none => rw [hn] at hrow; simp at hrow
    | some A' =>
    cases hf2 : findM (m ||| 2 ^ j) tb with
    | none => rw [hn, hf2] at hrow; simp at hrow
    | some A'' =>
    rw [hn, hf2] at hrow
    simp only at hrow
    have hAA := beqA_eq _ _ hrow
    subst hAA
    have hmj : ∀ i, (m ||| 2 ^ j).testBit i = (seE sts i && (decide (j = i) || listed.getD i false)) := by
      intro i
      rw [Nat.testBit_or, Nat.testBit_two_pow, hm]
      by_cases hij : j = i
      · subst hij; rw [hsE, hse]; simp
      · simp [hij]
    unfold nextE at hn
    refine ⟨ρ1, hlook, hsize, s1, ?_, ?_⟩
    · intro hnone
      rw [hsR] at hnone
      rw [hnone] at hn
      simp only [Option.some.injEq] at hn
      subst hn
      exact next ρ1 w undef _ _ (Ext.refl _) hI hf2 hmj (by rw [hsR, hnone]; exact VR.undef)
    · intro v hv
      rw [hsR] at hv
      rw [hv] at hn
      simp only at hn
      cases hst : stepE P call s.t o s.p A with
      | none => rw [hst] at hn; simp at hn
      | some q =>
        obtain ⟨u, A2⟩ := q
        rw [hst] at hn
        simp only at hn
        cases hbv : beqV u v with
        | false => rw [hbv] at hn; simp at hn
        | true =>
          rw [hbv] at hn
          simp only [cond_true, Option.some.injEq] at hn
          subst hn
          have hu := beqV_eq _ _ hbv
          subst hu
          unfold stepE at hst
          cases hp : s.p with
          | none =>
            rw [hp] at hst
            simp only at hst
            refine ⟨A, A2, hI, by rw [hsT]; exact hst, ?_⟩
            intro ρ2 w2 v' g1 g2 g3
            exact next ρ2 w2 v' _ _ g1 g2 hf2 hmj (by rw [hsR, hv]; exact g3)
          | some r =>
            rw [hp] at hst
            simp only at hst
            cases hrs : ((A.get r).isResv && Nat.blt r A.size) with
            | false => rw [hrs] at hst; simp at hst
            | true =>
              rw [hrs] at hst
              simp only [cond_true] at hst
              simp only [Bool.and_eq_true] at hrs
              have hg : A.get r = .resv := by
                cases hgr : A.get r <;> rw [hgr] at hrs <;> simp [AObj.isResv] at hrs
              have hlt2 : r < A.size := by
                have := hrs.2
                simp [Nat.blt] at this
                omega
              split at hst
              · rename_i v3 A3 ha
                simp only [Option.some.injEq, Prod.mk.injEq] at hst
                obtain ⟨rfl, rfl⟩ := hst
                refine ⟨A.at (some r), A3, hI.atSome hlt2 hg, by rw [hsT]; exact ha, ?_⟩
                intro ρ2 w2 v' g1 g2 g3
                exact next ρ2 w2 v' _ _ g1 g2.atNone hf2 hmj (by rw [hsR, hv]; exact g3)
              · cases hst
theorem MidE.all (W : WholeE P call ops sts tmps t1 A0 A1 tb) {listed : Array Bool} (hsz : listed.size = ops.size) (hr : Region.ready .any ops listed = []) : ∀ i, i < ops.size → listed.getD i false = true := by
  intro i
  induction i using Nat.strongRecOn with
  | ind i ih =>
    intro hi
    cases hl : listed.getD i false with
    | true => rfl
    | false =>
      exfalso
      have hget : ops[i]? = some ops[i] := Array.getElem?_eq_getElem hi
      have hmem : i ∈ Region.ready .any ops listed := by
        rw [mem_ready]
        refine ⟨?_, _, hget, fun e he hb => ?_⟩
        · have : i < listed.size := by omega
          have h5 : listed[i]?.getD false = false := by simpa [Array.getD_eq_getD_getElem?] using hl
          rw [Array.getElem?_eq_getElem this] at h5
          rw [Array.getD_eq_getD_getElem?, Array.getElem?_eq_getElem this]
          exact h5
        · have hlt := edgesOk_spec W.edges i _ (by simpa using hget) e he hb
          exact ih _ (by omega) (by omega)
      rw [hr] at hmem
      simp at hmem
theorem anyE_sound (W : WholeE P call ops sts tmps t1 A0 A1 tb) (hcall : CallSound P B w0 call) {ρ : Rho} {a0 : Act} (hts : tmps.size = a0.tmps.size) {Q : Exit → Act → World → Prop}
    (hQ : ∀ ρ1 w1 a1, Ext ρ ρ1 → Inv B w0 ρ1 A1 w1 → VRA ρ1 t1 a1.tmps → a1.defers = a0.defers → Q .normal a1 w1) :
    ∀ (fuel : Nat) (listed : Array Bool) (a : Act) (w : World), (List.range ops.size).countP (fun i => !(listed.getD i false)) ≤ fuel → MidE B w0 ops sts t1 tb ρ a0 listed a w → wpAny P .any ops Q fuel listed a w := by
  have hend : ∀ (listed : Array Bool) (a : Act) (w : World), MidE B w0 ops sts t1 tb ρ a0 listed a w → Region.ready .any ops listed = [] → Q .normal a w := by
    intro listed a w M hr
    have hall := MidE.all W M.size hr
    obtain ⟨hsz, hcl, ⟨ρ1, m, A, hext, hI, hfm, hm, hslot⟩, htz, hdf⟩ := M
    have hmf : m = fullE sts 0 := by
      refine Nat.eq_of_testBit_eq fun i => ?_
      rw [hm, fullE_spec]
      by_cases hi : i < ops.size
      · rw [hall i hi]; simp
      · have : seE sts i = false := by
          unfold seE
          rw [List.getElem?_eq_none (by rw [W.len]; omega)]
        simp [this]
    have hA : A = A1 := by
      have := W.fin
      rw [← hmf, hfm] at this
      exact Option.some.inj this
    have hT : seT sts t1 ops.size = t1 := by
      unfold seT
      rw [List.getElem?_eq_none (by rw [W.len]; omega)]
    have ht1 : t1.size = a.tmps.size := by
      have := W.tsize ops.size (by omega)
      rw [hT] at this
      rw [this, hts, htz]
    refine hQ ρ1 w a hext (by rw [← hA]; exact hI) (VRA.of_getD ht1 fun s => ?_) hdf
    have h1 := hslot s
    have h2 : lw ops (fun i => listed.getD i false) s ops.size = lw ops (fun _ => true) s ops.size := by
      refine lw_congr ops _ _ s _ fun i hi => ?_
      rw [hall i hi]
    rw [h2, W.slot s ops.size (by omega), hT] at h1
    exact h1
  intro fuel
  induction fuel with
  | zero =>
    intro listed a w hc M
    have hall : ∀ i, i < ops.size → listed.getD i false = true := by
      intro i hi
      have h0 : (List.range ops.size).countP (fun i => !(listed.getD i false)) = 0 := by omega
      rw [List.countP_eq_zero] at h0
      have := h0 i (List.mem_range.2 hi)
      simpa using this
    have hr : Region.ready .any ops listed = [] := by
      rw [List.eq_nil_iff_forall_not_mem]
      intro j hj
      rw [mem_ready] at hj
      obtain ⟨h0, o, ho, _⟩ := hj
      have hlt := (Array.getElem?_eq_some_iff.1 ho).1
      have h1 := hall j hlt
      have : j < listed.size := by rw [M.size]; exact hlt
      simp [this] at h0 h1
      rw [h0] at h1; cases h1
    exact ⟨hr, hend listed a w M hr⟩
  | succ fuel ih =>
    intro listed a w hc M
    refine ⟨hend listed a w M, ?_⟩
    intro j hj
    rw [mem_ready] at hj
    obtain ⟨h0, o, ho, hr⟩ := hj
    have hlt := (Array.getElem?_eq_some_iff.1 ho).1
    have hjl : j < listed.size := by rw [M.size]; exact hlt
    have hjf : listed.getD j false = false := by simpa [hjl] using h0
    obtain ⟨ρ1, hlook, hsize, hw, hn, hv⟩ := M.step W hts hjf ho hr
    have hcount : (List.range ops.size).countP (fun i => !((listed.setIfInBounds j true).getD i false)) ≤ fuel := by
      have := countP_lt (p := fun i => !((listed.setIfInBounds j true).getD i false)) (q := fun i => !(listed.getD i false)) (l := List.range ops.size) (fun x _ hx => by
        rw [getD_listed hjl] at hx
        simp only [Bool.not_or, Bool.and_eq_true] at hx
        exact hx.2) ⟨j, List.mem_range.2 hlt, by (try simp only); rw [hjf]; rfl, by (try simp only); rw [getD_listed hjl]; simp⟩
      omega
    unfold wpOp
    rw [ho]
    try simp only
    rw [← wanted_slot hsize ops o hlook, hw]
    cases hR : seR sts j with
    | none =>
      simp only [Option.isSome_none, Bool.false_eq_true, if_false]
      exact ih _ _ _ hcount (hn hR)
    | some v =>
      obtain ⟨A2, A3, hI2, ha, hnext⟩ := hv v hR
      simp only [Option.isSome_some, if_true]
      refine .inl (aop_sound hcall ha hI2 (fun x hx v hxv => aeval_slot (fun t ht => ?_) hxv) ?_)
      · subst ht
        refine hlook t ?_
        unfold looks
        simp only [List.mem_append]
        exact .inl (slotsOf_mem hx)
      · intro ρ2 w2 v' g1 g2 g3
        exact ih _ _ _ hcount (hnext ρ2 w2 v' g1 g2 g3)
theorem adrawE_sound (hm : P.follows .mixedOrders = true) (hcall : CallSound P B w0 call) : DrawSound P B w0 (adrawE P call) := by
  intro ops id tmps A tmps1 A1 ρ w a Q e hI ht hQ
  unfold adrawE at e
  cases hs : (edgesOk 0 ops.toList && slotsOk ops (masks ops) 0 ops.toList) with
  | false => rw [hs] at e; simp at e
  | true =>
  rw [hs] at e
  simp only [cond_true] at e
  cases htr : traceE P call ops ops.toList A.size tmps (A.keep (countMk P ops.toList)) with
  | none => rw [htr] at e; simp at e
  | some q =>
  obtain ⟨sts, t1⟩ := q
  rw [htr] at e
  simp only at e
  cases htb : tableE P call (masks ops) (effsE sts 0) 0 ops.toList sts [(0, A.keep (countMk P ops.toList))] with
  | none => rw [htb] at e; simp at e
  | some tb =>
  rw [htb] at e
  simp only at e
  cases hf : findM (fullE sts 0) tb with
  | none => rw [hf] at e; simp at e
  | some A2 =>
  rw [hf] at e
  simp only at e
  cases hro : tableOk P call ops (masks ops) (effsE sts 0) sts tb tb with
  | false => rw [hro] at e; simp at e
  | true =>
  rw [hro] at e
  simp only [cond_true, Option.some.injEq, Prod.mk.injEq] at e
  obtain ⟨rfl, rfl⟩ := e
  obtain ⟨hlen, hT0, hstep⟩ := traceE_spec ops ops.toList A.size tmps _ sts t1 htr
  simp only [Bool.and_eq_true] at hs
  obtain ⟨he, hsl⟩ := hs
  have hst : findM 0 tb = some (A.keep (countMk P ops.toList)) := by
    obtain ⟨r, rfl⟩ := tableE_first htb
    rfl
  have W : WholeE P call ops sts tmps t1 (A.keep (countMk P ops.toList)) A2 tb := ⟨he, hsl, by simpa using hlen, hT0, fun i o ho => hstep i o (by simpa using ho), hst, hf, hro⟩
  refine wp_region_any hm ?_
  refine anyE_sound W hcall ht.size.symm hQ ops.size _ a _ ?_ ?_
  · exact Nat.le_trans List.countP_le_length (by simp)
  · have hf0 : ∀ i, (Array.replicate ops.size false).getD i false = false := by
      intro i
      by_cases h : i < ops.size
      · simp [h]
      · simp [h]
    have hlw0 : ∀ s n, lw ops (fun i => (Array.replicate ops.size false).getD i false) s n = 0 := by
      intro s n
      induction n with
      | zero => rfl
      | succ n ih =>
        unfold lw
        try simp only
        rw [hf0 n]
        simp only [Bool.false_eq_true, false_and, if_false]
        exact ih
    refine ⟨by simp, ?_, ⟨ρ, 0, _, Ext.refl _, (hI.keep _).drew, hst, ?_, ?_⟩, rfl, rfl⟩
    · intro i o ho hi
      try simp only at hi
      rw [hf0] at hi; cases hi
    · intro i
      rw [hf0]
      simp
    · intro s
      rw [hlw0, hT0]
      exact ht.getD s
theorem adraw2_sound (hm : P.follows .mixedOrders = true) (hcall : CallSound P B w0 call) : DrawSound P B w0 (adraw2 P call) := by
  intro ops id tmps A tmps1 A1 ρ w a Q e hI ht hQ
  unfold adraw2 at e
  split at e
  · rename_i r hr
    exact adraw_sound hm hcall ops id tmps A tmps1 A1 ρ w a Q (by rw [hr]; exact e) hI ht hQ
  · exact adrawE_sound hm hcall ops id tmps A tmps1 A1 ρ w a Q e hI ht hQ
end
end Go.Abs
