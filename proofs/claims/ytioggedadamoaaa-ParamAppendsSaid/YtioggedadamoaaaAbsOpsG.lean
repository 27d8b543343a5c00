/- Conversions, maps, comparisons with nil. -/
import Derived.Test.YtioggedadamoaaaAbsOpsF
set_option autoImplicit false
set_option linter.unusedVariables false
set_option linter.unusedSimpArgs false
namespace Go.Abs
open Go.RowKit
section
variable {P : Program} {B : Nat → Prop} {w0 : World} {ρ : Rho} {A : AW} {w : World}
theorem bytesToString_run : ∀ (vs : List Value) (acc s : ByteArray), abytesStr vs acc = some s → ∀ (w : World),
    (do
      let mut t := acc
      for c in vs do
        let .int .u8 n := c | stuck "bytesToString: byte expected"
        t := t.push (UInt8.ofNat n.toNat)
      pure t : Sem ByteArray).run P w = .ok s w
  | [], acc, s, h, w => by
    simp only [abytesStr, Option.some.injEq] at h
    subst h
    rfl
  | v :: vs, acc, s, h, w => by
    unfold abytesStr at h
    cases v <;> try (simp at h; done)
    rename_i k n
    cases k <;> try (simp at h; done)
    simp only at h
    have ih := bytesToString_run vs _ s h w
    simp only [List.forIn_cons, bind_assoc, pure_bind] at ih ⊢
    exact ih
theorem bytesStr_ground : ∀ (vs : List Value) (acc s : ByteArray), abytesStr vs acc = some s → groundL vs = true
  | [], _, _, _ => rfl
  | v :: vs, acc, s, h => by
    unfold abytesStr at h
    cases v <;> try (simp at h; done)
    rename_i k n
    cases k <;> try (simp at h; done)
    simp only at h
    simp only [groundL, Abs.ground, Bool.true_and]
    exact bytesStr_ground vs _ s h
theorem sv_bytesToString (h : Inv B w0 ρ A w) {a : Addr} {n c : Nat} {x' : Value} (hx : VR ρ (.slice (some a) n c) x') {vs : List Value} (hl : A.loadN a n = some vs) {s : ByteArray}
    (hs : abytesStr vs ByteArray.empty = some s) : (Conv.bytesToString x').run P w = .ok (.string s) w := by
  obtain ⟨hsp, f, hf, rfl⟩ := hx
  obtain ⟨vs', k1, k2, k3, k4⟩ := h.loadN ⟨hsp, f, hf, rfl⟩ hl
  have heq : vs' = vs := (VRL.ground vs (bytesStr_ground vs _ s hs) vs').1 k1
  subst heq
  have hload := run_loadCells_rel (P := P) k4 k2 (w' := w) rfl
  unfold Conv.bytesToString
  simp only
  rw [Sem.run_bind, hload]
  simp only [Result.andThen_ok]
  have := bytesToString_run (P := P) vs' ByteArray.empty s hs w
  simp only [List.forIn_toArray]
  rw [bind_pure] at this
  rw [Sem.run_bind]
  exact (congrArg (fun r => Result.andThen r fun a w' => Sem.run P (pure (Value.string a)) w') this).trans rfl
theorem alloc_freeze (w : World) (rc : Array Value) (t : TypeId) (n : Nat) : (w.alloc (.cells rc t (0, 0))).freeze ⟨w.heap.size, n, none⟩ 1 = w.alloc (.cells rc t (n, n + 1)) := by
  unfold World.freeze World.alloc
  rw [if_neg (by omega)]
  simp only [World.mk.injEq, and_true]
  apply Array.ext_getElem?
  intro i
  rw [Array.getElem?_modify, Array.getElem?_push, Array.getElem?_push]
  by_cases hi : i = w.heap.size
  · subst hi; simp
  · rw [if_neg (by omega), if_neg hi, if_neg hi]
theorem sv_stringToBytes (h : Inv B w0 ρ A w) (e : TypeId) (s : ByteArray) :
    SV P B w0 ρ w (Conv.stringToBytes e s) (.slice (some ⟨A.nid, 0, none⟩) s.size s.size) (A.push (.cells (s.data.toList.map fun b => .int .u8 b.toNat) false true 1)) := by
  have hd := h.drew
  -- the capacity that is drawn
  have hcut : s.size ≤ (Question.appendCap s.size 0 e).cut (w.tape w.drawn (.appendCap s.size 0 e)) := Nat.le_add_right _ _
  generalize hcap : (Question.appendCap s.size 0 e).cut (w.tape w.drawn (.appendCap s.size 0 e)) = cap at hcut
  have hlen : (s.data.toList.map fun b => (Value.int .u8 b.toNat)).length = s.size := by simp
  let rc : Array Value := (s.data.map fun b => (Value.int .u8 b.toNat)) ++ Array.replicate (cap - s.size) (.int .u8 0)
  have hrc : rc.size = cap := by
    have : s.data.size = s.size := rfl
    simp only [rc, Array.size_append, Array.size_map, Array.size_replicate, this]
    omega
  have hrl : rc.toList.take (s.data.toList.map fun b => (Value.int .u8 b.toNat)).length = (s.data.toList.map fun b => (Value.int .u8 b.toNat)) := by
    simp only [rc, Array.toList_append, Array.toList_map]
    exact List.take_left
  have key := hd.new (s.data.toList.map fun b => (Value.int .u8 b.toNat)) true 1 (cap - s.size) rc e (cap, cap + 1)
    (by rw [hrl]; exact (VRL.ground _ (str_ground s) _).2 rfl) (by rw [hlen, hrc]; omega)
    (mk_oneCells _ fun v hv => by obtain ⟨b, _, rfl⟩ := List.mem_map.1 hv; rfl) (fun hc => by cases hc) (.inr (by rw [hrc]; exact Nat.le_refl _))
  refine ⟨_, _, .slice (some ⟨w.heap.size, 0, none⟩) s.size cap, ?_, place_ext hd.free _, key, ⟨rfl, _, place_same _ _ _, ?_⟩⟩
  · unfold Conv.stringToBytes
    rw [Sem.run_bind, run_choose]
    simp only [Question.forced, Bool.false_eq_true, if_false, Result.andThen_ok, hcap]
    rw [Sem.run_bind]
    show ((newRow e rc).run P w.drew).andThen _ = _
    rw [show (newRow e rc).run P w.drew = .ok ⟨w.drew.heap.size, 0, none⟩ (w.drew.alloc (.cells rc e (0, 0))) from rfl]
    simp only [Result.andThen_ok]
    have hsh : (w.drew.alloc (.cells rc e (0, 0))).shape? w.drew.heap.size = some (e, rc.size) := by
      unfold World.shape?
      rw [heap_alloc_new']
    have hmark : (markStringish ⟨w.drew.heap.size, 0, none⟩).run P (w.drew.alloc (.cells rc e (0, 0))) = .ok () (w.drew.alloc (.cells rc e (cap, cap + 1))) := by
      unfold markStringish
      rw [Sem.run_bind, run_shape, hsh]
      simp only [Result.andThen_ok, run_freeze, hrc]
      rw [alloc_freeze]
    rw [Sem.run_bind, hmark]
    rfl
  · simp only [Nat.zero_add, Nat.mul_one, hlen, if_true]
    congr 1
    omega
theorem Inv.mark (h : Inv B w0 ρ A w) {b o : Nat} {f : Ent} {cs : List Value} {opn : Bool} {esz : Nat} (hf : ρ b = some f) (hg : A.get b = .cells cs false opn esz) :
    ∃ w', (markStringish ⟨f.blk, o, none⟩).run P w = .ok () w' ∧ Inv B w0 ρ A w' := by
  obtain ⟨hlt, hw, ho⟩ := h.at_ _ _ hf
  rw [hg] at ho
  obtain ⟨h1, h2, h3, h4, h5, rc, t, fr, rs, h6, h7, h8, h9, h10⟩ := ho
  obtain ⟨hB, hfr⟩ := h10 rfl
  have hsh : w.shape? f.blk = some (t, rc.size) := by
    unfold World.shape?
    rw [h6]
  have hoff : ∀ k, k ≠ f.blk → (w.freeze ⟨f.blk, rc.size, none⟩ 1).heap[k]? = w.heap[k]? := by
    intro k hk
    unfold World.freeze
    rw [if_neg (by omega)]
    simp only
    rw [Array.getElem?_modify, if_neg (fun q => hk q.symm)]
  have hon : ∃ fr', (w.freeze ⟨f.blk, rc.size, none⟩ 1).heap[f.blk]? = some (.cells rc t fr') ∧ frOk fr' rc.size := by
    unfold World.freeze
    rw [if_neg (by omega)]
    simp only
    rw [Array.getElem?_modify, if_pos rfl, h6]
    obtain ⟨lo, hi⟩ := fr
    refine ⟨_, rfl, ?_⟩
    by_cases hlh : lo = hi
    · subst hlh
      simp [frOk]
    · have hn : rc.size ≤ lo := hfr.resolve_left hlh
      have : (lo == hi) = false := by simpa using hlh
      rw [this]
      exact .inr (by simp; omega)
  have hsz : (w.freeze ⟨f.blk, rc.size, none⟩ 1).heap.size = w.heap.size := by
    unfold World.freeze
    rw [if_neg (by omega)]
    simp
  obtain ⟨fr', hon, hfr'⟩ := hon
  refine ⟨w.freeze ⟨f.blk, rc.size, none⟩ 1, ?_, ?_, h.base, ?_, h.sep, h.dead_, h.nx_, h.full⟩
  · unfold markStringish
    rw [Sem.run_bind, run_shape, hsh]
    simp only [Result.andThen_ok, run_freeze]
  · refine h.below.trans ⟨?_, ?_, ?_, by omega, fun k hk => hoff k (by rintro rfl; exact hB hk), shape_one h6 hon rfl hoff⟩ <;> (unfold World.freeze; rw [if_neg (by omega)])
  · intro c e hc
    obtain ⟨g1, g2, g3⟩ := h.at_ c e hc
    refine ⟨g1, by omega, ?_⟩
    by_cases hce : e.blk = f.blk
    · cases hA : A.get c with
      | dead => exact trivial
      | resv => exact (h.notKept hc hA).elim
      | map es ck =>
        rw [hA] at g3
        obtain ⟨_, es', g4, _⟩ := g3
        rw [hce, h6] at g4
        cases g4
      | cells cs2 ro2 opn2 esz2 =>
        rw [hA] at g3
        obtain ⟨k1, k2, k3, k4, k5, rc2, t2, fr2, rs2, k6, k7, k8, k9, k10⟩ := g3
        rw [hce, h6] at k6
        simp only [Option.some.injEq, Obj.cells.injEq] at k6
        obtain ⟨rfl, rfl, rfl⟩ := k6
        exact ⟨k1, k2, k3, k4, k5, rc, t, fr', rs2, by rw [hce]; exact hon, k7, k8, k9, fun hro => ⟨(k10 hro).1, hfr'⟩⟩
    · exact g3.block (hoff _ hce)
theorem sv_convert (h : Inv B w0 ρ A w) {src dst : TypeId} {x x' : Value} (hx : VR ρ x x') {u : Value} {A1 : AW} (e : aconvert P A src dst x = some (u, A1)) :
    SV P B w0 ρ w (convert src dst x') u A1 := by
  have rest : (bif ground x then onG (prun P (convert src dst x)) A else none) = some (u, A1) → SV P B w0 ρ w (convert src dst x') u A1 := by
    intro e
    cases hgx : ground x with
    | false => rw [hgx] at e; simp at e
    | true =>
      rw [hgx] at e
      simp only [cond_true] at e
      obtain rfl := (VR.ground x hgx x').1 hx
      exact SV.ground h e
  unfold aconvert at e
  split at e
  · rename_i el a n c h1 h2
    cases h3 : prun P (underlying el) with
    | none => rw [h3] at e; simp at e
    | some d =>
      rw [h3] at e
      cases a with
      | none =>
        cases d <;> try (simp at e; done)
        rename_i kk
        cases kk <;> try (simp at e; done)
        simp only [Option.some.injEq, Prod.mk.injEq] at e
        obtain ⟨rfl, rfl⟩ := e
        simp only [VR] at hx
        subst hx
        refine ⟨ρ, w, .string ByteArray.empty, ?_, Ext.refl _, h, by simp [VR]⟩
        unfold convert
        rw [run_prun_bind h1, run_prun_bind h2]
        show Sem.run P (underlying el >>= _) w = _
        rw [run_prun_bind h3]
        rfl
      | some a =>
        cases d <;> try (simp at e; done)
        rename_i kk
        cases kk <;> try (simp at e; done)
        simp only at e
        cases hl : A.loadN a n with
        | none => rw [hl] at e; simp at e
        | some vs =>
          rw [hl] at e
          simp only at e
          cases hs : abytesStr vs ByteArray.empty with
          | none => rw [hs] at e; simp at e
          | some s =>
            rw [hs] at e
            simp only [Option.some.injEq, Prod.mk.injEq] at e
            obtain ⟨rfl, rfl⟩ := e
            have hb := sv_bytesToString (P := P) h hx hl hs
            obtain ⟨hsp, f, hf, rfl⟩ := hx
            refine ⟨ρ, w, .string s, ?_, Ext.refl _, h, by simp [VR]⟩
            unfold convert
            rw [run_prun_bind h1, run_prun_bind h2]
            show Sem.run P (underlying el >>= _) w = _
            rw [run_prun_bind h3]
            exact hb
  · rename_i el s h1 h2
    cases h3 : prun P (underlying el) with
    | none => rw [h3] at e; simp at e
    | some d =>
      rw [h3] at e
      cases d <;> try (simp at e; done)
      rename_i kk
      cases kk <;> try (simp at e; done)
      simp only [Option.some.injEq, Prod.mk.injEq] at e
      obtain ⟨rfl, rfl⟩ := e
      simp only [VR] at hx
      subst hx
      obtain ⟨ρ1, w1, v', r1, r2⟩ := sv_stringToBytes (P := P) h el s
      refine ⟨ρ1, w1, v', ?_, r2⟩
      unfold convert
      rw [run_prun_bind h1, run_prun_bind h2]
      show Sem.run P (underlying el >>= _) w = _
      rw [run_prun_bind h3]
      exact r1
  · rename_i el el2 a n c h1 h2
    cases hsd : Nat.beq src dst with
    | false => rw [hsd] at e; simp at e
    | true =>
    rw [hsd] at e
    simp only [cond_true] at e
    have hsd' := Nat.eq_of_beq_eq_true hsd
    cases h3 : prun P (underlying el2) with
    | none => rw [h3] at e; simp at e
    | some d =>
    rw [h3] at e
    cases d <;> try (simp at e; done)
    rename_i kk
    cases kk <;> try (simp at e; done)
    simp only at e
    cases hg : A.get a.block with
    | dead => rw [hg] at e; simp at e
    | resv => rw [hg] at e; simp at e
    | map es ck => rw [hg] at e; simp at e
    | cells cs ro opn esz =>
    rw [hg] at e
    cases ro with
    | true => simp at e
    | false =>
    simp only [Option.some.injEq, Prod.mk.injEq] at e
    obtain ⟨rfl, rfl⟩ := e
    have hx0 := hx
    obtain ⟨hsp, f, hf, rfl⟩ := hx
    obtain ⟨w1, m1, m2⟩ := Inv.mark (P := P) (o := f.off + a.off) h hf hg
    refine ⟨ρ, w1, _, ?_, Ext.refl _, m2, hx0⟩
    unfold convert
    rw [run_prun_bind h1, run_prun_bind h2]
    show Sem.run P (underlying el2 >>= _) w = _
    rw [run_prun_bind h3]
    have : (src == dst) = true := by rw [hsd']; simp
    rw [this]
    show Sem.run P (markStringish _ >>= _) w = _
    rw [Sem.run_bind, m1]
    rfl
  · exact rest e
theorem sameKey_now {kind : TypeDesc} {k q : Value} {b : Bool} (hk : (∃ z, kind = .int z) ∧ ∃ z n, k = .int z n) (e : sameKey k q = some b) : Instr.sameNow kind k q = some b := by
  obtain ⟨⟨z, rfl⟩, z2, n, rfl⟩ := hk
  cases q <;> try (simp [sameKey] at e; done)
  rename_i z3 m
  simp only [sameKey] at e
  by_cases hz : z2 = z3
  · subst hz
    simp at e
    simp [Instr.sameNow, e]
  · simp [hz] at e
theorem find_rel {kind : TypeDesc} {k : Value} (hk : (∃ z, kind = .int z) ∧ ∃ z n, k = .int z n) : ∀ (es es' : List MapEntry) (i : Nat) (r : Option (Nat × Value)),
    entsRel ρ es es' → afind k es i = some r → ∃ r', Instr.findNow kind k es' i = some r' ∧ (match r with | none => r' = none | some (j, v) => ∃ v', r' = some (j, v') ∧ VR ρ v v')
  | [], _, i, r, h, e => by
    simp only [entsRel] at h
    subst h
    simp only [afind, Option.some.injEq] at e
    subst e
    exact ⟨none, rfl, rfl⟩
  | x :: es, _, i, r, h, e => by
    obtain ⟨y, es', rfl, h1, h2, h3, h4, h5⟩ := h
    unfold afind at e
    cases hs : sameKey k x.key with
    | none => rw [hs] at e; simp at e
    | some b =>
      have hn := sameKey_now hk hs
      rw [hs] at e
      cases b with
      | true =>
        simp only [Option.some.injEq] at e
        subst e
        exact ⟨some (i, y.val), by unfold Instr.findNow; rw [h1, hn], _, rfl, h3⟩
      | false =>
        simp only at e
        obtain ⟨r', q1, q2⟩ := find_rel hk es es' (i + 1) r h5 e
        exact ⟨r', by unfold Instr.findNow; rw [h1, hn]; exact q1, q2⟩
theorem keyKind_spec {t : TypeId} {k : Value} (h : keyKind P t k = true) : ∃ kind, prun P (underlying t) = some kind ∧ ((∃ z, kind = .int z) ∧ ∃ z n, k = .int z n) ∧ ground k = true := by
  unfold keyKind at h
  cases hu : prun P (underlying t) with
  | none => rw [hu] at h; simp at h
  | some d =>
    rw [hu] at h
    refine ⟨d, rfl, ?_⟩
    cases d <;> cases k <;> first
      | (simp at h; done)
      | exact ⟨⟨⟨_, rfl⟩, _, _, rfl⟩, rfl⟩
theorem checkKey_run {t : TypeId} {k : Value} {kind : TypeDesc} (hu : prun P (underlying t) = some kind) (hk : (∃ z, kind = .int z) ∧ ∃ z n, k = .int z n) (b : Bool) (w : World) :
    (Instr.checkKey b 10000 t k).run P w = .ok () w := by
  unfold Instr.checkKey
  rw [run_prun_bind hu]
  obtain ⟨⟨z, rfl⟩, z2, n, rfl⟩ := hk
  rfl
def lookTail (key elem : TypeId) (k : Value) (ok : Bool) (es : Array MapEntry) : Sem Value := do
  Instr.checkKey es.isEmpty 10000 key k
  let (v, ok') ← match ← Instr.findKey key k es.toList with
    | some (_, v) => pure (v, true)
    | none => pure (← zeroValue elem, false)
  pure (if ok then .tuple #[v, .bool ok'] else v)
theorem sv_lookup (h : Inv B w0 ρ A w) {t : TypeId} {x x' k k' : Value} (hx : VR ρ x x') (hkk : VR ρ k k') {ok : Bool} {u : Value} (e : alookup P A t x k ok = some u) :
    SV P B w0 ρ w (Instr.lookup t x' k' ok) u A := by
  unfold alookup at e
  cases hu : prun P (underlying t) with
  | none => rw [hu] at e; simp at e
  | some d =>
  rw [hu] at e
  cases d <;> try (simp at e; done)
  rename_i key elem
  simp only at e
  cases hkd : keyKind P key k with
  | false => rw [hkd] at e; simp at e
  | true =>
  rw [hkd] at e
  simp only [cond_true] at e
  obtain ⟨kind, hku, hk, hgk⟩ := keyKind_spec hkd
  obtain rfl := (VR.ground k hgk k').1 hkk
  have tail : ∀ (es : List MapEntry) (es' : Array MapEntry), entsRel ρ es es'.toList → (match afind k' es 0, prun P (zeroValue elem) with
        | some (some (_, v)), _ => some (bif ok then .tuple #[v, .bool true] else v)
        | some none, some z => bif ground z then some (bif ok then .tuple #[z, .bool false] else z) else none
        | _, _ => none) = some u → SV P B w0 ρ w (lookTail key elem k' ok es') u A := by
    intro es es' hrel e
    cases hf : afind k' es 0 with
    | none => rw [hf] at e; simp at e
    | some r =>
      obtain ⟨r', q1, q2⟩ := find_rel hk es es'.toList 0 r hrel hf
      rw [hf] at e
      have hfk : (Instr.findKey key k' es'.toList).run P w = .ok r' w := by
        unfold Instr.findKey
        rw [run_prun_bind hku, q1]
        rfl
      cases r with
      | some jv =>
        obtain ⟨j, v⟩ := jv
        obtain ⟨v', rfl, hv⟩ := q2
        have e' : some (bif ok then Value.tuple #[v, .bool true] else v) = some u := by
          cases hz : prun P (zeroValue elem) <;> rw [hz] at e <;> exact e
        simp only [Option.some.injEq] at e'
        subst e'
        refine ⟨ρ, w, (if ok then .tuple #[v', .bool true] else v'), ?_, Ext.refl _, h, ?_⟩
        · unfold lookTail
          rw [Sem.run_bind, checkKey_run hku hk]
          simp only [Result.andThen_ok]
          rw [Sem.run_bind, hfk]
          rfl
        · cases ok with
          | true => exact ⟨#[v', .bool true], ⟨v', [.bool true], rfl, hv, .bool true, [], rfl, by simp [VR], by simp [VRL]⟩, rfl⟩
          | false => exact hv
      | none =>
        simp only at q2
        subst q2
        cases hz : prun P (zeroValue elem) with
        | none => rw [hz] at e; simp at e
        | some z =>
          rw [hz] at e
          simp only at e
          cases hgz : ground z with
          | false => rw [hgz] at e; simp at e
          | true =>
            rw [hgz] at e
            simp only [cond_true, Option.some.injEq] at e
            subst e
            refine ⟨ρ, w, (if ok then .tuple #[z, .bool false] else z), ?_, Ext.refl _, h, ?_⟩
            · unfold lookTail
              rw [Sem.run_bind, checkKey_run hku hk]
              simp only [Result.andThen_ok]
              rw [Sem.run_bind, hfk]
              simp only [Result.andThen_ok]
              rw [run_prun_bind hz]
              rfl
            · cases ok with
              | true => exact ⟨#[z, .bool false], ⟨z, [.bool false], rfl, VR.self hgz, .bool false, [], rfl, by simp [VR], by simp [VRL]⟩, rfl⟩
              | false => exact VR.self hgz
  cases hes : mapEnts A x with
  | none => rw [hes] at e; simp at e
  | some es =>
  rw [hes] at e
  simp only at e
  unfold mapEnts at hes
  cases x <;> try (simp at hes; done)
  rename_i r
  cases r with
  | none =>
    simp only [Option.some.injEq] at hes
    subst hes
    simp only [VR] at hx
    subst hx
    refine (tail [] #[] rfl e).congr ?_
    unfold Instr.lookup
    rw [run_prun_bind hu]
    rfl
  | some r =>
    obtain ⟨f, hf, rfl⟩ := hx
    obtain ⟨_, _, ho⟩ := h.at_ _ _ hf
    simp only at hes
    cases hg : A.get r with
    | dead => rw [hg] at hes; simp at hes
    | resv => rw [hg] at hes; simp at hes
    | cells => rw [hg] at hes; simp at hes
    | map es2 c =>
      rw [hg] at hes ho
      simp only [Option.some.injEq] at hes
      subst hes
      obtain ⟨_, es', q1, q2⟩ := ho
      refine (tail es2 es' q2 e).congr ?_
      unfold Instr.lookup
      rw [run_prun_bind hu]
      show Sem.run P (getObj f.blk >>= _) w = _
      rw [Sem.run_bind]
      simp only [getObj, Sem.run, q1, Result.andThen_ok]
      rfl
theorem entsRel_append : ∀ {l l' : List MapEntry} {x y : MapEntry}, entsRel ρ l l' → y.key = x.key → ground x.key = true → VR ρ x.val y.val → y.born = x.born → entsRel ρ (l ++ [x]) (l' ++ [y])
  | [], _, x, y, h, h1, h2, h3, h4 => by
    simp only [entsRel] at h
    subst h
    exact ⟨y, [], rfl, h1, h2, h3, h4, rfl⟩
  | z :: l, _, x, y, h, h1, h2, h3, h4 => by
    obtain ⟨u, r, rfl, k1, k2, k3, k4, k5⟩ := h
    exact ⟨u, r ++ [y], rfl, k1, k2, k3, k4, entsRel_append k5 h1 h2 h3 h4⟩
theorem entsRel_modify {k v v' : Value} (hg : ground k = true) (hv : VR ρ v v') : ∀ {l l' : List MapEntry} (i : Nat), entsRel ρ l l' →
    entsRel ρ (l.modify i fun e => { e with key := k, val := v }) (l'.modify i fun e => { e with key := k, val := v' })
  | [], _, i, h => by simp only [entsRel] at h; subst h; simp [entsRel]
  | z :: l, _, 0, h => by
    obtain ⟨u, r, rfl, k1, k2, k3, k4, k5⟩ := h
    exact ⟨{ u with key := k, val := v' }, r, rfl, rfl, hg, hv, k4, k5⟩
  | z :: l, _, i + 1, h => by
    obtain ⟨u, r, rfl, k1, k2, k3, k4, k5⟩ := h
    exact ⟨u, r.modify i fun e => { e with key := k, val := v' }, rfl, k1, k2, k3, k4, entsRel_modify hg hv i k5⟩
theorem entsRel_keys : ∀ {l l' : List MapEntry}, entsRel ρ l l' → ∀ (i : Nat), (l'[i]?).map (fun e : MapEntry => e.key) = (l[i]?).map (fun e : MapEntry => e.key)
  | [], _, h, i => by simp only [entsRel] at h; subst h; rfl
  | z :: l, _, h, 0 => by obtain ⟨u, r, rfl, k1, _⟩ := h; simp [k1]
  | z :: l, _, h, i + 1 => by obtain ⟨u, r, rfl, k1, _, _, _, k5⟩ := h; simpa using entsRel_keys k5 i
theorem Inv.setMap (h : Inv B w0 ρ A w) {r : Nat} {f : Ent} (hf : ρ r = some f) {es : List MapEntry} {c : Nat} (hg : A.get r = .map es c) (es2 : List MapEntry) (es2' : Array MapEntry) (c2 : Nat) (hr : entsRel ρ es2 es2'.toList) :
    ∃ w1, (setObj f.blk (.map es2' c2)).run P w = .ok () w1 ∧ Inv B w0 ρ (A.set r (.map es2 c2)) w1 := by
  obtain ⟨hlt, hw, ho⟩ := h.at_ _ _ hf
  rw [hg] at ho
  obtain ⟨hB, es', q1, q2⟩ := ho
  refine ⟨{ w with heap := w.heap.setIfInBounds f.blk (.map es2' c2) }, ?_, ?_⟩
  · simp [setObj, Sem.run, q1]
  · have hother : ∀ k, k ≠ f.blk → (w.heap.setIfInBounds f.blk (.map es2' c2))[k]? = w.heap[k]? := fun k hk => by
      rw [Array.getElem?_setIfInBounds_ne (Ne.symm hk)]
    refine ⟨h.below.trans ⟨rfl, rfl, rfl, by simp, fun k hk => hother k (by rintro rfl; exact hB hk), shape_map q1 hother⟩, h.base, ?_, ?_, h.dead_, h.nx_ne hf _, h.full_set hf _⟩
    · intro b e hb
      obtain ⟨g1, g2, g3⟩ := h.at_ b e hb
      rw [AW.get_set, AW.size_set]
      refine ⟨g1, by simpa using g2, ?_⟩
      by_cases hbr : b = r
      · subst hbr
        rw [hf] at hb
        obtain rfl := Option.some.inj hb
        rw [if_pos rfl]
        refine ⟨hB, es2', ?_, hr⟩
        rw [Array.getElem?_setIfInBounds_self]
        simp [hw]
      · rw [if_neg hbr]
        cases hlb : live (A.get b) with
        | true => exact g3.block (hother _ (h.sep b r e f hbr hb hf hlb (by rw [hg]; rfl)))
        | false =>
          cases hgb : A.get b with
          | dead => trivial
          | resv => exact (h.notKept hb hgb).elim
          | map es c => rw [hgb] at hlb; simp [live] at hlb
          | cells cs2 ro2 opn2 esz2 =>
            rw [hgb] at g3
            by_cases hfb : e.blk = f.blk
            · obtain ⟨k1, k2, k3, k4, k5, rc2, t2, fr2, rs2, k6, _⟩ := g3
              rw [hfb, q1] at k6
              cases k6
            · exact g3.block (hother _ hfb)
    · intro b c' e f' hne hb hc hlb hlc
      have lv : ∀ x, live ((A.set r (.map es2 c2)).get x) = live (A.get x) := by
        intro x
        rw [AW.get_set]
        by_cases hx : x = r
        · rw [if_pos hx, hx, hg]; rfl
        · rw [if_neg hx]
      rw [lv] at hlb hlc
      exact h.sep b c' e f' hne hb hc hlb hlc
theorem find_key : ∀ {es : List MapEntry} {k : Value} {i j : Nat} {v : Value}, afind k es i = some (some (j, v)) → i ≤ j ∧ ∃ e, es[j - i]? = some e ∧ sameKey k e.key = some true
  | [], k, i, j, v, h => by simp [afind] at h
  | x :: es, k, i, j, v, h => by
    unfold afind at h
    cases hs : sameKey k x.key with
    | none => rw [hs] at h; simp at h
    | some b =>
      rw [hs] at h
      cases b with
      | true =>
        simp only [Option.some.injEq, Prod.mk.injEq] at h
        obtain ⟨rfl, rfl⟩ := h
        exact ⟨Nat.le_refl _, x, by simp, hs⟩
      | false =>
        simp only at h
        obtain ⟨h1, e, h2, h3⟩ := find_key h
        refine ⟨by omega, e, ?_, h3⟩
        rw [show j - i = (j - (i + 1)) + 1 from by omega]
        simpa using h2
theorem sameKey_eq {k q : Value} (h : sameKey k q = some true) : q = k := by
  unfold sameKey at h
  cases k <;> cases q <;> try (simp at h; done)
  rename_i k1 a k2 b
  by_cases hk : k1 = k2
  · subst hk; simp at h; rw [h]
  · simp [hk] at h
theorem sv_mapUpdate (h : Inv B w0 ρ A w) {t : TypeId} {m m' k k' v v' : Value} (hm : VR ρ m m') (hkk : VR ρ k k') (hv : VR ρ v v') {A1 : AW} (e : amapUpdate P A t m k v = some A1) :
    ∃ w1, (Instr.mapUpdate t m' k' v').run P w = .ok () w1 ∧ Inv B w0 ρ A1 w1 := by
  unfold amapUpdate at e
  cases hu : prun P (underlying t) with
  | none => rw [hu] at e; simp at e
  | some d =>
  rw [hu] at e
  cases d <;> try (simp at e; done)
  rename_i key elem
  cases m <;> try (simp at e; done)
  rename_i r
  cases r with
  | none => simp at e
  | some r =>
  simp only at e
  cases hkd : keyKind P key k with
  | false => rw [hkd] at e; simp at e
  | true =>
  rw [hkd] at e
  simp only [cond_true] at e
  obtain ⟨kind, hku, hk, hgk⟩ := keyKind_spec hkd
  obtain rfl := (VR.ground k hgk k').1 hkk
  obtain ⟨f, hf, rfl⟩ := hm
  obtain ⟨_, _, ho⟩ := h.at_ _ _ hf
  cases hg : A.get r with
  | dead => rw [hg] at e; simp at e
  | resv => rw [hg] at e; simp at e
  | cells => rw [hg] at e; simp at e
  | map es c =>
  rw [hg] at e ho
  obtain ⟨_, es', q1, q2⟩ := ho
  simp only at e
  cases hfd : afind k' es 0 with
  | none => rw [hfd] at e; simp at e
  | some res =>
  rw [hfd] at e
  obtain ⟨res', p1, p2⟩ := find_rel hk es es'.toList 0 res q2 hfd
  have hfk : (Instr.findKey key k' es'.toList).run P w = .ok res' w := by
    unfold Instr.findKey
    rw [run_prun_bind hku, p1]
    rfl
  have start : (Instr.mapUpdate t (.map (some f.blk)) k' v').run P w = (match res' with
      | some (i, _) => (do
        let key ← Instr.keyThatStays (((es'[i]?).map (·.key)).getD k') k'
        setObj f.blk (.map (es'.modify i fun e => { e with key, val := v' }) c))
      | none => setObj f.blk (.map (es'.push { key := k', val := v', born := c }) (c + 1)) : Sem Unit).run P w := by
    unfold Instr.mapUpdate
    rw [run_prun_bind hu]
    show Sem.run P (getObj f.blk >>= _) w = _
    rw [Sem.run_bind]
    simp only [getObj, Sem.run, q1, Result.andThen_ok]
    show Sem.run P (Instr.checkKey false 10000 key k' >>= _) w = _
    rw [Sem.run_bind, checkKey_run hku hk]
    simp only [Result.andThen_ok]
    rw [Sem.run_bind]
    refine (congrArg (fun r => Result.andThen r _) hfk).trans ?_
    cases res' with
    | none => rfl
    | some x => rfl
  cases res with
  | none =>
    simp only at p2
    subst p2
    simp only [Option.some.injEq] at e
    subst e
    obtain ⟨w1, r1, r2⟩ := h.setMap (P := P) hf hg (es ++ [{ key := k', val := v, born := c }]) (es'.push { key := k', val := v', born := c }) (c + 1) (by
      simpa using entsRel_append q2 (x := { key := k', val := v, born := c }) (y := { key := k', val := v', born := c }) rfl hgk hv rfl)
    exact ⟨w1, by rw [start]; exact r1, r2⟩
  | some jv =>
    obtain ⟨j, u⟩ := jv
    obtain ⟨u', rfl, _⟩ := p2
    simp only [Option.some.injEq] at e
    subst e
    obtain ⟨_, en, hen, hsk⟩ := find_key hfd
    simp only [Nat.sub_zero] at hen
    have hkey : ((es'[j]?).map (·.key)).getD k' = k' := by
      have := entsRel_keys q2 j
      rw [hen] at this
      simp only [Option.map_some, sameKey_eq hsk, Array.getElem?_toList] at this
      rw [this]
      rfl
    obtain ⟨w1, r1, r2⟩ := h.setMap (P := P) hf hg (es.modify j fun e => { e with key := k', val := v }) (es'.modify j fun e => { e with key := k', val := v' }) c (by
      rw [Array.toList_modify]
      exact entsRel_modify hgk hv j q2)
    refine ⟨w1, ?_, r2⟩
    rw [start]
    simp only [hkey]
    have hstay : (Instr.keyThatStays k' k').run P w = .ok k' w := by
      unfold Instr.keyThatStays
      have : Instr.sameBits 10000 k' k' = true := by
        obtain ⟨_, z2, n, rfl⟩ := hk
        simp [Instr.sameBits]
      rw [if_pos this]
      rfl
    rw [Sem.run_bind, hstay]
    exact r1
theorem nilCmp_run {t : TypeId} {x x' y y' : Value} (hx : VR ρ x x') (hy : VR ρ y y') {b : Bool} (e : nilCmp P t x y = some b) (w : World) : (Op.equal t x' y').run P w = .ok b w := by
  unfold nilCmp at e
  unfold Op.equal
  show (Op.equalIn (9999 + 1) t x' y').run P w = _
  unfold Op.equalIn
  split at e <;> first
    | (simp at e; done)
    | (rename_i h1; simp only [Option.some.injEq] at e; subst e; rw [run_prun_bind h1]
       first
         | (obtain ⟨_, _, rfl⟩ := hx; simp only [VR] at hy; subst hy; rfl)
         | (obtain ⟨_, _, rfl⟩ := hy; simp only [VR] at hx; subst hx; rfl)
         | (obtain ⟨_, _, _, rfl⟩ := hx; simp only [VR] at hy; subst hy; rfl)
         | (obtain ⟨_, _, _, rfl⟩ := hy; simp only [VR] at hx; subst hx; rfl)
         | (obtain ⟨_, _, _, _, rfl⟩ := hx; simp only [VR] at hy; subst hy; rfl)
         | (obtain ⟨_, _, _, _, rfl⟩ := hy; simp only [VR] at hx; subst hx; rfl))
end
end Go.Abs
