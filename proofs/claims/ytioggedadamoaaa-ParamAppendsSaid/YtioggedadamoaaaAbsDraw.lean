/- Regions that draw their order: what is run in the text's order, with checks, is what every order comes to. -/
import Derived.Test.YtioggedadamoaaaAbsCode
set_option autoImplicit false
set_option linter.unusedVariables false
set_option linter.unusedSimpArgs false
namespace Go.Abs
open Go.RowKit
def beqAd : Option Addr → Option Addr → Bool
  | none, none => true
  | some a, some b => Nat.beq a.block b.block && Nat.beq a.off b.off && a.spot.isNone && b.spot.isNone
  | _, _ => false
theorem beqAd_eq : ∀ (a b : Option Addr), beqAd a b = true → a = b
  | none, b, h => by cases b <;> simp_all [beqAd]
  | some a, b, h => by
    cases b with
    | none => simp [beqAd] at h
    | some b =>
      simp only [beqAd, Bool.and_eq_true, Option.isNone_iff_eq_none] at h
      obtain ⟨⟨⟨h1, h2⟩, h3⟩, h4⟩ := h
      have e1 := Nat.eq_of_beq_eq_true h1
      have e2 := Nat.eq_of_beq_eq_true h2
      cases a; cases b
      simp_all
def beqOn : Option Nat → Option Nat → Bool
  | none, none => true
  | some a, some b => Nat.beq a b
  | _, _ => false
theorem beqOn_eq : ∀ (a b : Option Nat), beqOn a b = true → a = b
  | none, b, h => by cases b <;> simp_all [beqOn]
  | some a, b, h => by
    cases b with
    | none => simp [beqOn] at h
    | some b => rw [Nat.eq_of_beq_eq_true (show Nat.beq a b = true from h)]
def beqI : Int → Int → Bool
  | .ofNat a, .ofNat b => Nat.beq a b
  | .negSucc a, .negSucc b => Nat.beq a b
  | _, _ => false
theorem beqI_eq : ∀ (a b : Int), beqI a b = true → a = b
  | .ofNat a, .ofNat b, h => by rw [Nat.eq_of_beq_eq_true (show Nat.beq a b = true from h)]
  | .negSucc a, .negSucc b, h => by rw [Nat.eq_of_beq_eq_true (show Nat.beq a b = true from h)]
  | .ofNat _, .negSucc _, h => by simp [beqI] at h
  | .negSucc _, .ofNat _, h => by simp [beqI] at h
mutual
def beqV : Value → Value → Bool
  | .bool a, .bool b => a == b
  | .int k a, .int k' b => decide (k = k') && beqI a b
  | .string a, .string b => a.data.toList == b.data.toList
  | .pointer a, .pointer b => beqAd a b
  | .slice a l c, .slice b l' c' => beqAd a b && l.beq l' && c.beq c'
  | .map a, .map b => beqOn a b
  | .func (.func f) fs cs, .func (.func g) fs' cs' => f.beq g && beqVA fs fs' && beqVA cs cs'
  | .nilFunc, .nilFunc => true
  | .nilIface, .nilIface => true
  | .iface t v, .iface t' v' => Nat.beq t t' && beqV v v'
  | .agg a, .agg b => beqVA a b
  | .tuple a, .tuple b => beqVA a b
  | _, _ => false
def beqVA : Array Value → Array Value → Bool
  | ⟨l⟩, ⟨l'⟩ => beqVL l l'
def beqVL : List Value → List Value → Bool
  | [], [] => true
  | v :: l, v' :: l' => beqV v v' && beqVL l l'
  | _, _ => false
end
mutual
theorem beqV_eq : ∀ (a b : Value), beqV a b = true → a = b
  | .bool a, b, h => by cases b <;> simp_all [beqV]
  | .int k a, b, h => by
    cases b <;> try (simp [beqV] at h; done)
    simp only [beqV, Bool.and_eq_true, decide_eq_true_eq] at h
    rw [h.1, beqI_eq _ _ h.2]
  | .float _ _, b, h => by cases b <;> simp [beqV] at h
  | .complex _ _ _, b, h => by cases b <;> simp [beqV] at h
  | .string a, b, h => by
    cases b <;> try (simp [beqV] at h; done)
    rename_i b
    simp only [beqV] at h
    have h2 := eq_of_beq h
    congr 1
    cases a; cases b
    congr 1
    exact Array.ext' h2
  | .pointer a, b, h => by
    cases b <;> try (simp [beqV] at h; done)
    simp only [beqV] at h
    rw [beqAd_eq _ _ h]
  | .slice a l c, b, h => by
    cases b <;> try (simp [beqV] at h; done)
    simp only [beqV, Bool.and_eq_true] at h
    obtain ⟨⟨h0, h1⟩, h2⟩ := h
    rw [beqAd_eq _ _ h0, Nat.eq_of_beq_eq_true h1, Nat.eq_of_beq_eq_true h2]
  | .map a, b, h => by
    cases b <;> try (simp [beqV] at h; done)
    simp only [beqV] at h
    rw [beqOn_eq _ _ h]
  | .chan _, b, h => by cases b <;> simp [beqV] at h
  | .func fn fs cs, b, h => by
    cases b <;> cases fn <;> try (simp [beqV] at h; done)
    rename_i fn' fs' cs' f
    cases fn' <;> try (simp [beqV] at h; done)
    simp only [beqV, Bool.and_eq_true] at h
    obtain ⟨⟨h1, h2⟩, h3⟩ := h
    rw [Nat.eq_of_beq_eq_true h1, beqVA_eq _ _ h2, beqVA_eq _ _ h3]
  | .nilFunc, b, h => by cases b <;> simp_all [beqV]
  | .nilIface, b, h => by cases b <;> simp_all [beqV]
  | .iface t v, b, h => by
    cases b <;> try (simp [beqV] at h; done)
    simp only [beqV, Bool.and_eq_true] at h
    rw [Nat.eq_of_beq_eq_true h.1, beqV_eq _ _ h.2]
  | .agg a, b, h => by
    cases b <;> try (simp [beqV] at h; done)
    simp only [beqV] at h
    rw [beqVA_eq _ _ h]
  | .tuple a, b, h => by
    cases b <;> try (simp [beqV] at h; done)
    simp only [beqV] at h
    rw [beqVA_eq _ _ h]
theorem beqVA_eq : ∀ (a b : Array Value), beqVA a b = true → a = b
  | ⟨l⟩, ⟨l'⟩, h => by
    simp only [beqVA] at h
    rw [beqVL_eq l l' h]
theorem beqVL_eq : ∀ (a b : List Value), beqVL a b = true → a = b
  | [], b, h => by cases b <;> simp_all [beqVL]
  | v :: l, b, h => by
    cases b with
    | nil => simp [beqVL] at h
    | cons v' l' =>
      simp only [beqVL, Bool.and_eq_true] at h
      rw [beqV_eq _ _ h.1, beqVL_eq _ _ h.2]
end
inductive Bef (ops : Array Oper) : Nat → Nat → Prop
  | one {j : Nat} {o : Oper} {e : Edge} : ops[j]? = some o → e ∈ o.after → Region.binds .any e = true → Bef ops e.on j
  | more {i j : Nat} {o : Oper} {e : Edge} : ops[j]? = some o → e ∈ o.after → Region.binds .any e = true → Bef ops i e.on → Bef ops i j
def maskOf (acc : List Nat) (l : List Edge) (s : Nat) : Nat :=
  match l with
  | [] => s
  | e :: l => maskOf acc l (bif Region.binds .any e then s ||| (2 ^ e.on) ||| acc.getD e.on 0 else s)
def masksFrom : List Oper → List Nat → List Nat
  | [], acc => acc
  | o :: l, acc => masksFrom l (acc ++ [maskOf acc o.after.toList 0])
def masks (ops : Array Oper) : List Nat := masksFrom ops.toList []
theorem maskOf_bit (acc : List Nat) (i : Nat) : ∀ (l : List Edge) (s : Nat), (maskOf acc l s).testBit i = true → s.testBit i = true ∨ ∃ e ∈ l, Region.binds .any e = true ∧ (i = e.on ∨ (acc.getD e.on 0).testBit i = true)
  | [], s, h => .inl h
  | e :: l, s, h => by
    unfold maskOf at h
    rcases maskOf_bit acc i l _ h with h1 | ⟨e', h1, h2⟩
    · cases hb : Region.binds .any e with
      | false => rw [hb] at h1; exact .inl h1
      | true =>
        rw [hb] at h1
        simp only [cond_true, Nat.testBit_or, Bool.or_eq_true] at h1
        rcases h1 with (h1 | h1) | h1
        · exact .inl h1
        · rw [Nat.testBit_two_pow] at h1
          exact .inr ⟨e, by simp, hb, .inl (of_decide_eq_true h1).symm⟩
        · exact .inr ⟨e, by simp, hb, .inr h1⟩
    · exact .inr ⟨e', by simp [h1], h2⟩
theorem masksFrom_bef (ops : Array Oper) : ∀ (l : List Oper) (acc : List Nat), l = ops.toList.drop acc.length → acc.length + l.length = ops.size → (∀ j m, acc[j]? = some m → ∀ i, m.testBit i = true → Bef ops i j) →
    ∀ j m, (masksFrom l acc)[j]? = some m → ∀ i, m.testBit i = true → Bef ops i j
  | [], acc, _, _, h => h
  | o :: l, acc, hl, hn, h => by
    have hlt : acc.length < ops.size := by simp at hn; omega
    have hget : ops[acc.length]? = some o := by
      have h1 : (ops.toList.drop acc.length)[0]? = some o := by rw [← hl]; rfl
      rw [List.getElem?_drop] at h1
      simpa using h1
    refine masksFrom_bef ops l _ ?_ (by simp at hn ⊢; omega) ?_
    · have h1 : (ops.toList.drop acc.length).drop 1 = l := by rw [← hl]; rfl
      rw [List.drop_drop] at h1
      simp [← h1]
    · intro j m hj i hi
      by_cases hjl : j < acc.length
      · rw [List.getElem?_append_left hjl] at hj
        exact h j m hj i hi
      · rw [List.getElem?_append_right (by omega)] at hj
        have hj0 : j = acc.length := by
          by_cases h0 : j - acc.length = 0
          · omega
          · rw [List.getElem?_eq_none (by simp; omega)] at hj; cases hj
        subst hj0
        simp only [Nat.sub_self, List.getElem?_cons_zero, Option.some.injEq] at hj
        subst hj
        rcases maskOf_bit acc i o.after.toList 0 hi with h1 | ⟨e, h1, h2, h3⟩
        · simp at h1
        · have hm : e ∈ o.after := by simpa using h1
          rcases h3 with rfl | h3
          · exact .one hget hm h2
          · have he : ∃ m, acc[e.on]? = some m := by
              cases hq : acc[e.on]? with
              | none => rw [List.getD_eq_getElem?_getD, hq] at h3; simp at h3
              | some m => exact ⟨m, rfl⟩
            obtain ⟨m2, hm2⟩ := he
            have h3' : m2.testBit i = true := by
              rw [List.getD_eq_getElem?_getD, hm2] at h3; exact h3
            exact .more hget hm h2 (h e.on m2 hm2 i h3')
theorem masks_bef (ops : Array Oper) {i j : Nat} (h : ((masks ops).getD j 0).testBit i = true) : Bef ops i j := by
  cases hq : (masks ops)[j]? with
  | none => rw [List.getD_eq_getElem?_getD, hq] at h; simp at h
  | some m =>
    rw [List.getD_eq_getElem?_getD, hq] at h
    exact masksFrom_bef ops ops.toList [] (by simp) (by simp) (by simp) j m hq i h
def Closed (ops : Array Oper) (D : Nat → Prop) : Prop := ∀ (j : Nat) (o : Oper), ops[j]? = some o → D j → ∀ e ∈ o.after, Region.binds .any e = true → D e.on
theorem Closed.bef {ops : Array Oper} {D : Nat → Prop} (h : Closed ops D) {i j : Nat} (hb : Bef ops i j) : D j → D i := by
  induction hb with
  | one ho he hbd => exact fun hj => h _ _ ho hj _ he hbd
  | more ho he hbd _ ih => exact fun hj => ih (h _ _ ho hj _ he hbd)
theorem Closed.ready {ops : Array Oper} {D : Nat → Prop} (h : Closed ops D) {j : Nat} {o : Oper} (ho : ops[j]? = some o) (hr : ∀ e ∈ o.after, Region.binds .any e = true → D e.on) {i : Nat} (hb : Bef ops i j) : D i := by
  cases hb with
  | one ho2 he hbd =>
    rw [ho] at ho2
    obtain rfl := Option.some.inj ho2
    exact hr _ he hbd
  | more ho2 he hbd hrest =>
    rw [ho] at ho2
    obtain rfl := Option.some.inj ho2
    exact h.bef hrest (hr _ he hbd)
def isE (P : Program) (o : Oper) : Bool :=
  match o.op with
  | .move _ | .assign _ | .pick .. | .build .. | .load .. | .nilCheck _ | .binOp .. | .unOp .. | .makeInterface .. | .makeFunc .. | .slice .. | .fieldAddr .. | .field .. | .indexAddr .. | .index .. | .lookup .. | .extract .. => false
  | .convert _ d _ => match prun P (underlying d) with
    | some (.slice _) => true
    | none => true
    | _ => false
  | .call c => match c.callee with
    | .builtin .len | .builtin .cap | .builtin .max | .builtin .min => false
    | _ => true
  | _ => true
def slotsOf : List Operand → List Tmp
  | [] => []
  | .tmp t :: l => t :: slotsOf l
  | _ :: l => slotsOf l
def looks (ops : Array Oper) (o : Oper) : List Tmp :=
  slotsOf o.op.operands.toList ++ (match o.guard with
    | none => []
    | some (j, _) => match (ops[j]?).bind (·.dst) with
      | some d => [d]
      | none => [])
def hasN (n : Nat) : List Nat → Bool
  | [] => false
  | m :: l => n.beq m || hasN n l
def dstIn (o : Oper) (l : List Tmp) : Bool :=
  match o.dst with
  | none => false
  | some d => hasN d l
def clash (ops : Array Oper) (x y : Oper) : Bool :=
  dstIn x (looks ops y) || dstIn y (looks ops x) || (match x.dst with | none => false | some d => dstIn y [d])
def slotsRow (ops : Array Oper) (m : Nat) (o : Oper) : Nat → List Oper → Bool
  | _, [] => true
  | i, x :: l => (!(clash ops x o) || m.testBit i) && slotsRow ops m o (i + 1) l
def slotsOk (ops : Array Oper) (ms : List Nat) : Nat → List Oper → Bool
  | _, [] => true
  | j, o :: l => slotsRow ops (ms.getD j 0) o 0 (ops.toList.take j) && slotsOk ops ms (j + 1) l
def isEat (P : Program) (ops : Array Oper) (i : Nat) : Bool :=
  match ops[i]? with
  | some o => isE P o
  | none => false
def effs (P : Program) (ops : Array Oper) (n : Nat) : List Nat := (List.range n).filter (isEat P ops)
def chainOk (ms : List Nat) : List Nat → Bool
  | i :: j :: l => (ms.getD j 0).testBit i && chainOk ms (j :: l)
  | _ => true
def edgesOk : Nat → List Oper → Bool
  | _, [] => true
  | i, o :: l => (o.after.toList.all fun e => !(Region.binds .any e) || Nat.blt e.on i) && edgesOk (i + 1) l
def sOk (P : Program) (ops : Array Oper) : Bool :=
  edgesOk 0 ops.toList && chainOk (masks ops) (effs P ops ops.size) && slotsOk ops (masks ops) 0 ops.toList
def quiet (A' A : AW) : Bool := Nat.beq A'.size A.size && (match A'.nx, A.nx with
  | none, none => true
  | some r, some r' => Nat.beq r r'
  | _, _ => false)
theorem quiet_push (A : AW) (x : AObj) : quiet (A.push x) A = false := by
  unfold quiet
  cases h : A.nx with
  | none =>
    rw [AW.push_nx h, AW.size_push_none A x h]
    have : Nat.beq (A.size + 1) A.size = false := by
      cases hb : Nat.beq (A.size + 1) A.size with
      | false => rfl
      | true => exact absurd (Nat.eq_of_beq_eq_true hb) (by omega)
    rw [this]; rfl
  | some r =>
    have hnx : (A.push x).nx = bif Nat.blt (r + 1) A.win then some (r + 1) else none := by unfold AW.push; rw [h]
    rw [hnx]
    cases Nat.blt (r + 1) A.win with
    | false => simp
    | true =>
      have : Nat.beq (r + 1) r = false := by
        cases hb : Nat.beq (r + 1) r with
        | false => rfl
        | true => exact absurd (Nat.eq_of_beq_eq_true hb) (by omega)
      simp [this]
structure St where
  t : Array Value
  A : AW
  r : Option Value
def trace (P : Program) (call : CallF) (ops : Array Oper) : List Oper → Array Value → AW → Option (List St × Array Value × AW)
  | [], t, A => some ([], t, A)
  | o :: rest, t, A =>
    bif Region.wanted o (yielded ops t) then
      match aop P call t o A with
      | some (v, A') => bif isE P o || quiet A' A then
          match trace P call ops rest (aput t o.dst v) A' with
          | some (l, r) => some (⟨t, A, some v⟩ :: l, r)
          | none => none
        else none
      | none => none
    else
      match trace P call ops rest (aput t o.dst undef) A with
      | some (l, r) => some (⟨t, A, none⟩ :: l, r)
      | none => none
def snap (sts : List St) (last : AW) (A0 : AW) (es : List Nat) (k : Nat) : AW :=
  match k with
  | 0 => A0
  | k + 1 => match es[k]? with
    | none => last
    | some e => match sts[e + 1]? with
      | some s => s.A
      | none => last
def mayK (ms es : List Nat) (j k : Nat) : Bool :=
  ((es.drop k).all fun e => !((ms.getD j 0).testBit e)) && ((es.take k).all fun e => !((ms.getD e 0).testBit j))
def sameAt (P : Program) (call : CallF) (t : Array Value) (o : Oper) (v : Value) (A : AW) : Bool :=
  match aop P call t o A with
  | some (u, A') => beqV u v && quiet A' A
  | none => false
def isPure (P : Program) (o : Oper) : Bool :=
  match o.op with
  | .move _ | .assign _ | .pick .. | .build .. | .nilCheck _ | .binOp .. | .unOp .. | .makeInterface .. | .makeFunc .. | .fieldAddr .. | .field .. | .indexAddr .. | .index .. | .extract .. => true
  | .call c => match c.callee with
    | .builtin .max | .builtin .min => true
    | _ => false
  | _ => false
def canonK (es : List Nat) (j : Nat) : Nat := es.countP fun e => Nat.blt e j
def rowOk (P : Program) (call : CallF) (ms es : List Nat) (sn : Nat → AW) (j : Nat) (o : Oper) (s : St) : Bool :=
  match s.r with
  | none => true
  | some v => isE P o || isPure P o || (List.range (es.length + 1)).all fun k => Nat.beq k (canonK es j) || !(mayK ms es j k) || sameAt P call s.t o v (sn k)
def rowsOk (P : Program) (call : CallF) (ms es : List Nat) (sn : Nat → AW) : Nat → List Oper → List St → Bool
  | j, o :: l, s :: r => rowOk P call ms es sn j o s && rowsOk P call ms es sn (j + 1) l r
  | _, _, _ => true
def adraw (P : Program) (call : CallF) (ops : Array Oper) (t : Array Value) (A : AW) : Option (Array Value × AW) :=
  bif sOk P ops then
    match trace P call ops ops.toList t A with
    | some (sts, t1, A1) =>
      bif rowsOk P call (masks ops) (effs P ops ops.size) (snap sts A1 A (effs P ops ops.size)) 0 ops.toList sts then some (t1, A1) else none
    | none => none
  else none
section
variable {P : Program} {call : CallF}
theorem onV_any {x : Option Value} {A A1 : AW} {v : Value} (h : onV x A = some (v, A1)) (A' : AW) : onV x A' = some (v, A') := by
  cases x with
  | none => simp [onV] at h
  | some u => simp only [onV, Option.some.injEq, Prod.mk.injEq] at h ⊢; exact ⟨h.1, trivial⟩
theorem onG_any {x : Option Value} {A A1 : AW} {v : Value} (h : onG x A = some (v, A1)) (A' : AW) : onG x A' = some (v, A') := by
  cases x with
  | none => simp [onG] at h
  | some u =>
    simp only [onG] at h ⊢
    cases hg : ground u <;> rw [hg] at h <;> simp at h
    simp [h.1]
theorem aev1_any {t : Array Value} {x : Operand} {k k' : Value → Option (Value × AW)} {r r' : Value × AW} (h : aev1 t x k = some r) (hk : ∀ u, k u = some r → k' u = some r') : aev1 t x k' = some r' := by
  unfold aev1 at h ⊢
  cases hx : aeval t x with
  | none => rw [hx] at h; cases h
  | some u => rw [hx] at h; exact hk u h
theorem pure_aop {o : Oper} (hp : isPure P o = true) {t : Array Value} {A A1 : AW} {v : Value} (e : aop P call t o A = some (v, A1)) (A' : AW) : aop P call t o A' = some (v, A') := by
  obtain ⟨dst, op, type, pos, after, guard⟩ := o
  have bg : ∀ {b : Bool} {x : Option Value}, (bif b then onG x A else none) = some (v, A1) → (bif b then onG x A' else none) = some (v, A') := by
    intro b x h
    cases b with
    | false => simp at h
    | true => exact onG_any h A'
  have si : ∀ {u : Value}, some (u, A) = some (v, A1) → some (u, A') = some (v, A') := by
    intro u h
    simp only [Option.some.injEq, Prod.mk.injEq] at h ⊢
    exact ⟨h.1, trivial⟩
  cases op <;> simp only [isPure] at hp <;> try (cases hp; done)
  all_goals simp only [aop] at e ⊢
  case move x => exact aev1_any e fun u h => si h
  case assign x => exact aev1_any e fun u h => si h
  case pick c x y =>
    refine aev1_any e fun u h => ?_
    cases u <;> try (simp at h; done)
    simp only at h ⊢
    refine aev1_any h fun z h2 => ?_
    split at h2
    · exact si h2
    · cases h2
  case build t ps =>
    split at e
    · rename_i ps' hps
      exact onV_any e A'
    · cases e
  case nilCheck x =>
    refine aev1_any e fun u h => ?_
    cases hg : isAddrV u <;> rw [hg] at h <;> simp at h
    simp [h.1]
  case binOp b t x y yt =>
    refine aev1_any e fun u h => aev1_any h fun z h2 => ?_
    cases hg : (ground u && ground z) with
    | true => rw [hg] at h2; exact onG_any h2 A'
    | false =>
      rw [hg] at h2
      simp only [cond_false] at h2 ⊢
      cases b <;> try (simp at h2; done)
      all_goals
        simp only at h2 ⊢
        split at h2
        · rename_i q hq
          first
            | exact si h2
            | (rw [hq]; exact si h2)
        · cases h2
  case unOp u t x => exact aev1_any e fun _ h => bg h
  case makeInterface t x => exact aev1_any e fun _ h => bg h
  case makeFunc fn fs cs =>
    split at e
    · exact si e
    · cases e
  case fieldAddr s x f => exact aev1_any e fun _ h => onV_any h A'
  case field t x f => exact aev1_any e fun _ h => bg h
  case indexAddr t x i => exact aev1_any e fun _ h => aev1_any h fun _ h2 => onV_any h2 A'
  case index t x i => exact aev1_any e fun _ h => aev1_any h fun _ h2 => bg h2
  case extract x i =>
    refine aev1_any e fun u h => ?_
    split at h
    · exact onV_any h A'
    · cases h
  case call c =>
    unfold acallOp at e ⊢
    split at e
    · cases e
    · rename_i args h1
      cases hc : c.callee with
      | value f => rw [hc] at hp; simp at hp
      | invoke _ _ => rw [hc] at hp; simp at hp
      | builtin b =>
        rw [hc] at hp e
        simp only at hp e ⊢
        cases b <;> simp only at hp <;> try (cases hp; done)
        all_goals
          simp only [abuiltin] at e ⊢
          exact bg e
theorem aslice_same {A A1 : AW} {size : Nat} {x : Value} {lo hi mx : Option Value} {v : Value} (e : aslice A size x lo hi mx = some (v, A1)) (hs : quiet A1 A = true) : A1 = A := by
  unfold aslice at e
  cases x <;> try (simp at e; done)
  rename_i oa len cap
  simp only at e
  cases e1 : aboundO mx cap cap with
  | none => rw [e1] at e; simp at e
  | some m =>
  rw [e1] at e
  simp only at e
  cases e2 : aboundO hi m len with
  | none => rw [e2] at e; simp at e
  | some h =>
  rw [e2] at e
  simp only at e
  cases e3 : aboundO lo h 0 with
  | none => rw [e3] at e; simp at e
  | some l =>
  rw [e3] at e
  simp only at e
  cases hb : (Nat.ble h m) with
  | false => rw [hb] at e; simp at e
  | true =>
  rw [hb] at e
  simp only [Bool.not_true, cond_false] at e
  cases oa with
  | none => simp at e; exact e.2.symm
  | some a =>
  simp only at e
  cases hsp : a.spot.isSome with
  | true => rw [hsp] at e; simp at e
  | false =>
  rw [hsp] at e
  simp only [cond_false] at e
  cases hg : A.get a.block with
  | dead => rw [hg] at e; simp at e
  | resv => rw [hg] at e; simp at e
  | map es c => rw [hg] at e; simp at e
  | cells cs ro opn esz =>
  rw [hg] at e
  simp only at e
  cases opn with
  | false => simp at e; exact e.2.symm
  | true =>
  simp only [Bool.not_true, cond_false] at e
  cases hes : esz.beq size with
  | false => rw [hes] at e; simp at e
  | true =>
  rw [hes] at e
  simp only [Bool.not_true, cond_false] at e
  cases hml : m.beq l with
  | true =>
    rw [hml] at e
    simp only [cond_true] at e
    cases hz : ((mx.isSome || !(Nat.beq (a.off + cap * size) cs.length)) && !(a.off.beq cs.length)) with
    | true => rw [hz] at e; simp at e; exact e.2.symm
    | false =>
      rw [hz] at e
      simp only [cond_false, Option.some.injEq, Prod.mk.injEq] at e
      obtain ⟨_, rfl⟩ := e
      rw [quiet_push] at hs; cases hs
  | false =>
    rw [hml] at e
    simp only [cond_false] at e
    cases hz : (mx.isSome && Nat.beq (a.off + m * size) cs.length) with
    | true =>
      rw [hz] at e
      cases ro with
      | true => simp at e
      | false =>
        simp only [cond_true, cond_false, Option.some.injEq, Prod.mk.injEq] at e
        obtain ⟨_, rfl⟩ := e
        have : quiet ((A.set a.block .dead).push (.cells cs false false esz)) (A.set a.block .dead) = false := quiet_push _ _
        have h2 : quiet ((A.set a.block .dead).push (.cells cs false false esz)) A = false := this
        rw [h2] at hs; cases hs
    | false => rw [hz] at e; simp at e; exact e.2.symm
theorem asliceArr_same {A A1 : AW} {t : TypeId} {x : Value} {lo hi mx : Option Value} {v : Value} (e : asliceArr P A t x lo hi mx = some (v, A1)) : A1 = A := by
  unfold asliceArr at e
  cases hu : prun P (underlying t) with
  | none => rw [hu] at e; simp at e
  | some d =>
  rw [hu] at e
  cases d <;> try (simp at e; done)
  rename_i n elem
  cases x <;> try (simp at e; done)
  rename_i oa
  cases oa with
  | none => simp at e
  | some a =>
  simp only at e
  cases hsz : prun P (sizeOf elem) with
  | none => rw [hsz] at e; simp at e
  | some size =>
  cases e1 : aboundO mx n n with
  | none => rw [hsz, e1] at e; simp at e
  | some m =>
  rw [hsz, e1] at e
  simp only at e
  cases e2 : aboundO hi m n with
  | none => rw [e2] at e; simp at e
  | some hh =>
  rw [e2] at e
  simp only at e
  cases e3 : aboundO lo hh 0 with
  | none => rw [e3] at e; simp at e
  | some l =>
  rw [e3] at e
  simp only at e
  cases hsp : a.spot.isSome with
  | true => rw [hsp] at e; simp at e
  | false =>
  rw [hsp] at e
  simp only [cond_false] at e
  cases hg : A.get a.block with
  | dead => rw [hg] at e; simp at e
  | resv => rw [hg] at e; simp at e
  | map es c => rw [hg] at e; simp at e
  | cells cs ro opn esz =>
  rw [hg] at e
  cases opn with
  | true => simp at e
  | false => simp at e; exact e.2.symm
theorem asliceOp_same {A A1 : AW} {t : TypeId} {x : Value} {lo hi mx : Option Value} {v : Value} (e : asliceOp P A t x lo hi mx = some (v, A1)) (hs : quiet A1 A = true) : A1 = A := by
  unfold asliceOp at e
  cases hb : (mx.isSome && hi.isNone) with
  | true => rw [hb] at e; simp at e
  | false =>
    rw [hb] at e
    simp only [cond_false] at e
    split at e
    · exact asliceArr_same e
    · cases hg : (ground x && groundO lo && groundO hi && groundO mx) with
      | false => rw [hg] at e; simp at e
      | true =>
        rw [hg] at e
        simp only [cond_true] at e
        unfold onG at e
        split at e
        · rename_i u _
          cases hu : ground u <;> rw [hu] at e <;> simp at e
          exact e.2.symm
        · simp at e
    · split at e
      · exact aslice_same e hs
      · simp at e
    · simp at e
theorem read_same {o : Oper} (hE : isE P o = false) {t : Array Value} {A A1 : AW} {v : Value} (e : aop P call t o A = some (v, A1)) (hs : quiet A1 A = true) : A1 = A := by
  obtain ⟨dst, op, type, pos, after, guard⟩ := o
  have vv : ∀ {x : Option Value}, onV x A = some (v, A1) → A1 = A := fun h => (onV_inv h).2
  have gg : ∀ {x : Option Value}, onG x A = some (v, A1) → A1 = A := by
    intro x h
    cases x with
    | none => simp [onG] at h
    | some u =>
      simp only [onG] at h
      cases hg : ground u <;> rw [hg] at h <;> simp at h
      exact h.2.symm
  have bg : ∀ {b : Bool} {x : Option Value}, (bif b then onG x A else none) = some (v, A1) → A1 = A := by
    intro b x h
    cases b with
    | false => simp at h
    | true => exact gg h
  cases op <;> simp only [isE] at hE <;> try (simp at hE; done)
  all_goals simp only [aop] at e
  case move x => obtain ⟨u, _, e⟩ := aev1_inv e; simp at e; exact e.2.symm
  case assign x => obtain ⟨u, _, e⟩ := aev1_inv e; simp at e; exact e.2.symm
  case pick c x y =>
    obtain ⟨u, _, e⟩ := aev1_inv e
    cases u <;> try (simp at e; done)
    simp only at e
    obtain ⟨z, _, e⟩ := aev1_inv e
    split at e
    · simp at e; exact e.2.symm
    · simp at e
  case build t ps =>
    split at e
    · exact vv e
    · simp at e
  case load t x =>
    obtain ⟨u, _, e⟩ := aev1_inv e
    split at e
    · exact vv e
    · simp at e
  case nilCheck x =>
    obtain ⟨u, _, e⟩ := aev1_inv e
    cases hg : isAddrV u <;> rw [hg] at e <;> simp at e
    exact e.2.symm
  case binOp b t x y yt =>
    obtain ⟨u, _, e⟩ := aev1_inv e
    obtain ⟨z, _, e⟩ := aev1_inv e
    cases hg : (ground u && ground z) with
    | true => rw [hg] at e; exact gg e
    | false =>
      rw [hg] at e
      simp only [cond_false] at e
      cases b <;> try (simp at e; done)
      all_goals
        simp only at e
        split at e
        · simp at e; exact e.2.symm
        · simp at e
  case unOp u t x => obtain ⟨u, _, e⟩ := aev1_inv e; exact bg e
  case convert sT dT x =>
    obtain ⟨u, _, e⟩ := aev1_inv e
    unfold aconvert at e
    split at e
    · rename_i el a n c h1 h2
      split at e
      · split at e
        · split at e
          · simp at e; exact e.2.symm
          · simp at e
        · simp at e
      · simp at e; exact e.2.symm
      · simp at e
    · rename_i el s h1 h2
      rw [h1] at hE
      simp at hE
    · rename_i el el2 a n c h1 h2
      first
        | (rw [h1] at hE; simp at hE; done)
        | (rw [h2] at hE; simp at hE; done)
    · exact bg e
  case makeInterface t x => obtain ⟨u, _, e⟩ := aev1_inv e; exact bg e
  case makeFunc fn fs cs =>
    split at e
    · simp at e; exact e.2.symm
    · simp at e
  case slice t x lo hi mx =>
    obtain ⟨u, _, e⟩ := aev1_inv e
    split at e
    · exact asliceOp_same e hs
    · simp at e
  case fieldAddr s x f => obtain ⟨u, _, e⟩ := aev1_inv e; exact vv e
  case field t x f => obtain ⟨u, _, e⟩ := aev1_inv e; exact bg e
  case indexAddr t x i => obtain ⟨u, _, e⟩ := aev1_inv e; obtain ⟨z, _, e⟩ := aev1_inv e; exact vv e
  case index t x i => obtain ⟨u, _, e⟩ := aev1_inv e; obtain ⟨z, _, e⟩ := aev1_inv e; exact bg e
  case lookup t x k ok => obtain ⟨u, _, e⟩ := aev1_inv e; obtain ⟨z, _, e⟩ := aev1_inv e; exact vv e
  case extract x i =>
    obtain ⟨u, _, e⟩ := aev1_inv e
    split at e
    · exact vv e
    · simp at e
  case call c =>
    unfold acallOp at e
    split at e
    · simp at e
    · rename_i args h1
      split at e
      · rename_i b hb
        rw [hb] at hE
        unfold abuiltin at e
        split at e <;> first
          | (simp at hE; done)
          | (simp at e; done)
          | exact bg e
          | skip
        · rename_i x
          cases hk : lenOk P c.argTypes[0]? x with
          | false => rw [hk] at e; simp at e
          | true => rw [hk] at e; exact vv e
        · repeat' (split at e)
          all_goals first
            | (simp at e; done)
            | (simp at e; exact e.2.symm)
        · repeat' (split at e)
          all_goals first
            | (simp at e; done)
            | (simp at e; exact e.2.symm)
      · rename_i f hf
        rw [hf] at hE
        simp at hE
      · simp at e
end
end Go.Abs
