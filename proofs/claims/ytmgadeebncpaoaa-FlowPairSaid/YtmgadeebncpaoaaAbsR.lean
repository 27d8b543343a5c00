/- Rows of bytes. -/
import Derived.Test.YtmgadeebncpaoaaAbsK
set_option autoImplicit false
set_option linter.unusedVariables false
set_option linter.unusedSimpArgs false
namespace Go.Abs
open Go.RowKit

section
variable {P : Program} {call : CallF} {n : Nat} {ops : Array Oper} {i : Nat} {S : Slots} {A : AW} {Q : Slots → AW → Prop}
  {draws : Array Oper → Array Value → AW → Option (Array Value × AW)} {R : Nat}

theorem EO.cast {S2 : Slots} (e : S = S2) (h : EO P call n ops i S2 A Q) : EO P call n ops i S A Q := by rw [e]; exact h
theorem J.cast {c : Code} {Q : X → Slots → AW → Prop} {S2 : Slots} (e : S = S2) (h : J P call draws R n c S2 A Q) : J P call draws R n c S A Q := by rw [e]; exact h

def u8s (zs : List Int) : List Value := zs.map fun z => .int .u8 z
@[simp] theorem u8s_length (zs : List Int) : (u8s zs).length = zs.length := by simp [u8s]
theorem u8s_append (a b : List Int) : u8s (a ++ b) = u8s a ++ u8s b := by simp [u8s]

def isByte (zs : List Int) : Prop := ∀ z ∈ zs, 0 ≤ z ∧ z < 256

/-- In block b, from o on, lie these bytes. -/
structure Row (A : AW) (b o cap : Nat) (zs : List Int) : Prop where
  lt : b < A.size
  cells : ∃ cs ro opn, A.get b = .cells cs ro opn 1 ∧ o + zs.length ≤ cs.length ∧ o + cap ≤ cs.length ∧ (cs.drop o).take zs.length = u8s zs
  le : zs.length ≤ cap
  byte : isByte zs

theorem Row.ext {A A' : AW} {b o cap : Nat} {zs : List Int} (h : Row A b o cap zs) (k : AExt A A') : Row A' b o cap zs := by
  obtain ⟨h1, ⟨cs, ro, opn, h2, h3⟩, h4, h5⟩ := h
  exact ⟨Nat.lt_of_lt_of_le h1 k.size, ⟨cs, ro, opn, by rw [k.get b h1]; exact h2, h3⟩, h4, h5⟩

theorem Row.loadN {b o cap : Nat} {zs : List Int} (h : Row A b o cap zs) : A.loadN ⟨b, o, none⟩ zs.length = some (u8s zs) := by
  obtain ⟨_, ⟨cs, ro, opn, h2, h3, h4, h5⟩, _⟩ := h
  unfold AW.loadN
  simp only [h2]
  rw [Nat.ble_eq_true_of_le h3]
  simp [h5]

theorem Row.cell {b o cap : Nat} {zs : List Int} (h : Row A b o cap zs) {j : Nat} {z : Int} (hz : zs[j]? = some z) : ∃ cs ro opn, A.get b = .cells cs ro opn 1 ∧ cs[o + j]? = some (.int .u8 z) := by
  obtain ⟨_, ⟨cs, ro, opn, h2, h3, h4, h5⟩, _⟩ := h
  refine ⟨cs, ro, opn, h2, ?_⟩
  have hj := (List.getElem?_eq_some_iff.1 hz).1
  have e : ((cs.drop o).take zs.length)[j]? = some (.int .u8 z) := by
    rw [h5]
    simp [u8s, hz]
  rw [List.getElem?_take_of_lt hj, List.getElem?_drop] at e
  exact e

/-- A byte's place, and the byte. -/
theorem Row.load {t : TypeId} {b o cap : Nat} {zs : List Int} (h : Row A b o cap zs) (ht : prun P (isAgg t) = some false) {j : Nat} {z : Int} (hz : zs[j]? = some z) : aload P A t ⟨b, o + j * 1, none⟩ = some (.int .u8 z) := by
  obtain ⟨cs, ro, opn, h1, h2⟩ := h.cell hz
  rw [Nat.mul_one]
  exact aload_one ht h1 h2

/-- A piece. -/
theorem Row.sub {b o cap : Nat} {zs : List Int} (h : Row A b o cap zs) (l k m : Nat) (hlk : l ≤ k) (hk : k ≤ zs.length) (hkm : k ≤ m) (hm : m ≤ cap) : Row A b (o + l) (m - l) ((zs.drop l).take (k - l)) := by
  obtain ⟨h1, ⟨cs, ro, opn, h2, h3, h4, h5⟩, h6, h7⟩ := h
  have hlen : ((zs.drop l).take (k - l)).length = k - l := by simp; omega
  refine ⟨h1, ⟨cs, ro, opn, h2, by rw [hlen]; omega, by omega, ?_⟩, by rw [hlen]; omega, ?_⟩
  · rw [hlen]
    have e : ((cs.drop o).take zs.length).drop l = u8s (zs.drop l) := by rw [h5]; simp [u8s, List.map_drop]
    have e2 : (((cs.drop o).take zs.length).drop l).take (k - l) = u8s ((zs.drop l).take (k - l)) := by rw [e]; simp [u8s, List.map_take, List.map_drop]
    rw [← e2, List.drop_take, List.take_take, List.drop_drop]
    congr 1
    omega
  · intro z hz
    exact h7 z (List.mem_of_mem_drop (List.mem_of_mem_take hz))

/-- A slice of bytes. -/
def RowV (A : AW) (v : Value) (zs : List Int) : Prop := (v = .slice none 0 0 ∧ zs = []) ∨ ∃ b o cap, v = .slice (some ⟨b, o, none⟩) zs.length cap ∧ Row A b o cap zs

theorem RowV.ext {A A' : AW} {v : Value} {zs : List Int} (h : RowV A v zs) (k : AExt A A') : RowV A' v zs := by
  rcases h with h | ⟨b, o, cap, h1, h2⟩
  · exact .inl h
  · exact .inr ⟨b, o, cap, h1, h2.ext k⟩

theorem RowV.byte {v : Value} {zs : List Int} (h : RowV A v zs) : isByte zs := by
  rcases h with ⟨_, rfl⟩ | ⟨b, o, cap, _, h2⟩
  · intro z hz; simp at hz
  · exact h2.byte

theorem abound_nat {k : IntKind} {i y : Nat} (h : i ≤ y) : abound (.int k (.ofNat i)) y = some i := by
  unfold abound
  simp only
  rw [Nat.ble_eq_true_of_le h]; rfl

/-- 'x[l:k]' of a row of bytes. -/
theorem Row.slice {A : AW} {b o cap : Nat} {zs : List Int} (h : Row A b o cap zs) (hnx : A.nx = none) {lo hi : Option Value} {l k : Nat} (hhi : aboundO hi cap zs.length = some k) (hlo : aboundO lo k 0 = some l) (hk : k ≤ zs.length) (hlk : l ≤ k) :
    ∃ v A', aslice A 1 (.slice (some ⟨b, o, none⟩) zs.length cap) lo hi none = some (v, A') ∧ RowV A' v ((zs.drop l).take (k - l)) ∧ AExt A A' ∧ A'.nx = none ∧ v ≠ .slice none 0 0 := by
  have hr := h
  obtain ⟨h1, ⟨cs, ro, opn, h2, h3, h4, h5⟩, h6, h7⟩ := h
  have hlen : ((zs.drop l).take (k - l)).length = k - l := by simp; omega
  have hsub := hr.sub l k cap hlk hk (Nat.le_trans hk h6) (Nat.le_refl _)
  unfold aslice
  simp only [aboundO] at hhi hlo ⊢
  have hhc : Nat.ble k cap = true := Nat.ble_eq_true_of_le (Nat.le_trans hk h6)
  simp only [hhi, hlo, hhc, Bool.not_true, cond_false, h2, Option.isSome_none, Bool.false_or]
  have base : RowV A (.slice (some (bif cap.beq l then ⟨b, o, none⟩ else (⟨b, o, none⟩ : Addr).add (l * 1))) (k - l) (cap - l)) ((zs.drop l).take (k - l)) := by
    cases hb : cap.beq l with
    | false => exact .inr ⟨b, o + l, cap - l, by rw [hlen]; simp [addr_add], hsub⟩
    | true =>
      have hcl := Nat.eq_of_beq_eq_true hb
      have hkl : k = l := by omega
      refine .inr ⟨b, o, cap - l, by rw [hlen]; simp, ?_⟩
      have : ((zs.drop l).take (k - l)) = [] := by rw [hkl]; simp
      rw [this]
      exact ⟨h1, ⟨cs, ro, opn, h2, by simp; omega, by omega, by simp [u8s]⟩, by simp, by intro z hz; simp at hz⟩
  cases opn with
  | false =>
    simp only [Bool.not_false, cond_true]
    exact ⟨_, A, rfl, base, AExt.refl A, hnx, by simp⟩
  | true =>
    simp only [Bool.not_true, cond_false, Nat.beq_refl, Bool.false_and]
    cases hb : cap.beq l with
    | false =>
      rw [hb] at base
      simp only [cond_false] at base ⊢
      exact ⟨_, A, rfl, base, AExt.refl A, hnx, by simp⟩
    | true =>
      have hcl := Nat.eq_of_beq_eq_true hb
      have hkl : k = l := by omega
      rw [hb] at base
      simp only [cond_true] at base ⊢
      cases hx : (!(Nat.beq (o + cap * 1) cs.length) && !(o.beq cs.length)) with
      | true =>
        simp only [cond_true]
        exact ⟨_, A, rfl, base, AExt.refl A, hnx, by simp⟩
      | false =>
        simp only [cond_false]
        have he : ((zs.drop l).take (k - l)) = [] := by rw [hkl]; simp
        refine ⟨_, _, rfl, ?_, AExt.push hnx _, AW.push_nx _ _, by simp⟩
        rw [he]
        refine .inr ⟨A.nid, 0, 0, by simp, ?_, ⟨[], true, _, push_get_new _, by simp, by simp, by simp [u8s]⟩, by simp, by intro z hz; simp at hz⟩
        rw [nid_none hnx, A.size_push_none _ hnx]
        exact Nat.lt_succ_self _
end
end Go.Abs
namespace Go.Abs
theorem beq_false' {x y : Int} (h : x ≠ y) : (x == y) = false := by simp [h]
theorem beq_true' {x y : Int} (h : x = y) : (x == y) = true := by simp [h]
theorem exists_cons {r : List Int} (h : 0 < r.length) : ∃ z r', r = z :: r' := by
  cases r with
  | nil => simp at h
  | cons z r => exact ⟨z, r, rfl⟩
theorem asliceOp_slice {P : Program} {A : AW} {t elem : TypeId} {size : Nat} {v : Value} {lo hi : Option Value} (hu : prun P (underlying t) = some (.slice elem)) (hs : prun P (sizeOf elem) = some size) :
    asliceOp P A t v lo hi none = aslice A size v lo hi none := by
  unfold asliceOp
  simp [hu, hs]

/-! bits -/
theorem shr6 {z : Int} : sShr .u8 z 6 = z / 64 := by
  show Int.fdiv z 64 = _
  exact Int.fdiv_eq_ediv_of_nonneg _ (by omega)
theorem bv_u8 {z : Int} (h : 0 ≤ z ∧ z < 256) : (BitVec.ofInt 8 z).toNat = z.toNat := by
  rw [BitVec.toNat_ofInt]
  omega
theorem and63 {z : Int} (h : 0 ≤ z ∧ z < 256) : IntKind.wrap .u64 (bAnd .u8 z 63) = z % 64 := by
  have e : ((BitVec.ofInt 8 z &&& BitVec.ofInt 8 63).toNat : Int) = z % 64 := by
    rw [BitVec.toNat_and, bv_u8 h]
    have : (BitVec.ofInt 8 63).toNat = 2 ^ 6 - 1 := rfl
    rw [this, Nat.and_two_pow_sub_one_eq_mod]
    omega
  show IntKind.wrap .u64 (IntKind.wrap .u8 ((BitVec.ofInt 8 z &&& BitVec.ofInt 8 63).toNat : Int)) = _
  rw [e, wrap_u8 (by omega) (by omega), wrap_u64 (by omega) (by omega)]
theorem or_step {x z : Int} (hx : 0 ≤ x) (hx2 : x < 72057594037927936) (h : 0 ≤ z ∧ z < 256) : bOr .u64 (sShl .u64 x 8) (IntKind.wrap .u64 z) = 256 * x + z := by
  have e1 : sShl .u64 x 8 = x * 256 := by
    show IntKind.wrap .u64 (x * 2 ^ 8) = _
    rw [wrap_u64 (by omega) (by omega)]; rfl
  rw [e1, wrap_u64 h.1 (by omega)]
  have n1 : (BitVec.ofInt 64 (x * 256)).toNat = x.toNat * 256 := by rw [BitVec.toNat_ofInt]; omega
  have n2 : (BitVec.ofInt 64 z).toNat = z.toNat := by rw [BitVec.toNat_ofInt]; omega
  have e : ((BitVec.ofInt 64 (x * 256) ||| BitVec.ofInt 64 z).toNat : Int) = 256 * x + z := by
    rw [BitVec.toNat_or, n1, n2]
    have := Nat.two_pow_add_eq_or_of_lt (i := 8) (b := z.toNat) (by omega) x.toNat
    rw [show x.toNat * 256 = 2 ^ 8 * x.toNat from by omega, ← this]
    omega
  show IntKind.wrap .u64 ((BitVec.ofInt 64 (x * 256) ||| BitVec.ofInt 64 z).toNat : Int) = _
  rw [e, wrap_u64 (by omega) (by omega)]
end Go.Abs
namespace Go.Abs
theorem aboundO_nat {k : IntKind} {i y d : Nat} (h : i ≤ y) : aboundO (some (.int k (.ofNat i))) y d = some i := abound_nat (k := k) h
end Go.Abs
namespace Go.Abs
theorem quo64 {z : Int} (h : 0 ≤ z ∧ z < 256) : IntKind.wrap .i64 (IntKind.wrap .u8 (Int.tdiv z 64)) = z / 64 := by
  have : Int.tdiv z 64 = z / 64 := Int.tdiv_eq_ediv_of_nonneg h.1
  rw [this, wrap_u8 (by omega) (by omega), wrap_i64 (by omega) (by omega)]
theorem rem64 {z : Int} (h : 0 ≤ z ∧ z < 256) : IntKind.wrap .u64 (Int.tmod z 64) = z % 64 := by
  have : Int.tmod z 64 = z % 64 := Int.tmod_eq_emod_of_nonneg h.1
  rw [this, wrap_u64 (by omega) (by omega)]
theorem mul_step {x z : Int} (hx : 0 ≤ x) (hx2 : x < 72057594037927936) (h : 0 ≤ z ∧ z < 256) : IntKind.wrap .u64 (IntKind.wrap .u64 (256 * x) + IntKind.wrap .u64 z) = 256 * x + z := by
  rw [wrap_u64 (x := 256 * x) (by omega) (by omega), wrap_u64 (x := z) h.1 (by omega), wrap_u64 (by omega) (by omega)]
theorem split_at {zs : List Int} {k : Nat} (h : k < zs.length) : ∃ p z r, zs = p ++ z :: r ∧ p.length = k := by
  refine ⟨zs.take k, zs[k], zs.drop (k + 1), ?_, by simp; omega⟩
  rw [← List.drop_eq_getElem_cons h, List.take_append_drop]
end Go.Abs
namespace Go.Abs
section
variable {P : Program} {A : AW}

theorem oneCells_u8s : ∀ (zs : List Int), oneCells (u8s zs) = true
  | [] => rfl
  | z :: zs => by
    show (Value.oneCell' (.int .u8 z) && oneCells (u8s zs)) = true
    rw [oneCells_u8s zs]; rfl

theorem RowV.acells {v : Value} {zs : List Int} (h : RowV A v zs) : acells A 1 v = some (zs.length, u8s zs) := by
  rcases h with ⟨rfl, rfl⟩ | ⟨b, o, cap, rfl, hr⟩
  · rfl
  · unfold Abs.acells
    simp only [Nat.mul_one]
    rw [hr.loadN]

theorem row_new {zs : List Int} {opn : Bool} (hb : isByte zs) (hnx : A.nx = none) : Row (A.push (.cells (u8s zs) false opn 1)) A.nid 0 zs.length zs := by
  refine ⟨?_, ⟨u8s zs, false, opn, push_get_new _, by simp, by simp, ?_⟩, Nat.le_refl _, hb⟩
  · rw [nid_none hnx, A.size_push_none _ hnx]; exact Nat.lt_succ_self _
  · rw [List.drop_zero, ← u8s_length zs, List.take_length]

theorem grow_u8 {zs0 zs : List Int} (k : Nat) (hk : k = zs0.length + zs.length) : appendGrow A 1 k (u8s zs0) (u8s zs) = some (.slice (some ⟨A.nid, 0, none⟩) k k, A.push (.cells (u8s (zs0 ++ zs)) false true 1)) := by
  unfold appendGrow
  rw [oneCells_u8s, oneCells_u8s, u8s_append]
  have : Nat.beq ((u8s zs0).length + (u8s zs).length) (k * 1) = true := by
    rw [u8s_length, u8s_length, hk, Nat.mul_one]
    exact Nat.beq_refl _
  rw [this]
  rfl

/-- A slice of bytes that lies in blocks from K on (or nowhere). -/
def RowVN (K : Nat) (A : AW) (v : Value) (zs : List Int) : Prop := (v = .slice none 0 0 ∧ zs = []) ∨ ∃ b o cap, v = .slice (some ⟨b, o, none⟩) zs.length cap ∧ K ≤ b ∧ Row A b o cap zs

theorem RowVN.rowV {K : Nat} {v : Value} {zs : List Int} (h : RowVN K A v zs) : RowV A v zs := by
  rcases h with h | ⟨b, o, cap, h1, _, h2⟩
  · exact .inl h
  · exact .inr ⟨b, o, cap, h1, h2⟩
theorem RowVN.mono {K K' : Nat} {v : Value} {zs : List Int} (h : RowVN K A v zs) (hk : K' ≤ K) : RowVN K' A v zs := by
  rcases h with h | ⟨b, o, cap, h1, h3, h2⟩
  · exact .inl h
  · exact .inr ⟨b, o, cap, h1, Nat.le_trans hk h3, h2⟩

/-- One block may be another one; the rest is as it was. -/
structure AMod (A : AW) (b0 : Nat) (A' : AW) : Prop where
  size : A'.size = A.size
  nx : A'.nx = none
  get : ∀ b, b ≠ b0 → A'.get b = A.get b

theorem AMod.set {A : AW} {b0 : Nat} (h : A.nx = none) (x : AObj) : AMod A b0 (A.set b0 x) := ⟨rfl, h, fun b hb => by rw [AW.get_set, if_neg hb]⟩
theorem AMod.trans {A B C : AW} {b0 : Nat} (h : AMod A b0 B) (k : AMod B b0 C) : AMod A b0 C :=
  ⟨k.size.trans h.size, k.nx, fun b hb => (k.get b hb).trans (h.get b hb)⟩
theorem AMod.refl {A : AW} {b0 : Nat} (h : A.nx = none) : AMod A b0 A := ⟨rfl, h, fun _ _ => rfl⟩
theorem Row.mod {A A' : AW} {b o cap b0 : Nat} {zs : List Int} (h : Row A b o cap zs) (k : AMod A b0 A') (hb : b ≠ b0) : Row A' b o cap zs := by
  obtain ⟨h1, ⟨cs, ro, opn, h2, h3⟩, h4, h5⟩ := h
  exact ⟨by rw [k.size]; exact h1, ⟨cs, ro, opn, by rw [k.get b hb]; exact h2, h3⟩, h4, h5⟩

/-- A row of bytes of one's own: all of a block. -/
structure Own (A : AW) (b : Nat) (zs : List Int) : Prop where
  lt : b < A.size
  cells : ∃ opn, A.get b = .cells (u8s zs) false opn 1
  byte : isByte zs

/-- append to nil. -/
theorem append_nil {ats : Array TypeId} (hA : ∀ s x, aappend P A ats s x = match acells A 1 x with | none => none | some (k, new) => aappendAt A 1 s k new) {x : Value} {zs : List Int} (h : RowV A x zs) (hl : zs.length ≤ 1073741824) (hnx : A.nx = none) :
    ∃ w A', aappend P A ats (.slice none 0 0) x = some (w, A') ∧ RowVN A.size A' w zs ∧ AExt A A' ∧ A'.nx = none := by
  rw [hA, h.acells]
  simp only [aappendAt]
  cases zs with
  | nil => exact ⟨_, A, rfl, .inl ⟨rfl, rfl⟩, AExt.refl A, hnx⟩
  | cons z r =>
    have h1 : Nat.beq (z :: r).length 0 = false := rfl
    rw [h1]
    simp only [cond_false]
    rw [Nat.ble_eq_true_of_le hl]
    simp only [cond_true]
    have hg := grow_u8 (A := A) (zs0 := []) (zs := z :: r) (z :: r).length (by simp)
    simp only [List.nil_append] at hg
    show ∃ w A', appendGrow A 1 (z :: r).length (u8s []) (u8s (z :: r)) = _ ∧ _
    rw [hg]
    exact ⟨_, _, rfl, .inr ⟨A.nid, 0, _, rfl, by rw [nid_none hnx]; exact Nat.le_refl _, row_new h.byte hnx⟩, AExt.push hnx _, AW.push_nx _ _⟩

/-- append to a row of no bytes whose capacity is none. -/
theorem append_empty_own {ats : Array TypeId} (hA : ∀ s x, aappend P A ats s x = match acells A 1 x with | none => none | some (k, new) => aappendAt A 1 s k new) {b : Nat} {ro : Bool} {esz : Nat} (hg : A.get b = .cells [] ro false esz) {x : Value} {zs : List Int} (h : RowV A x zs)
    (hb : b < A.size) (hes : esz = 1) (hl : zs.length ≤ 1073741824) (hnx : A.nx = none) :
    ∃ w A', aappend P A ats (.slice (some ⟨b, 0, none⟩) 0 0) x = some (w, A') ∧ (RowV A' w zs ∧ (zs = [] ∨ ∃ cap, w = .slice (some ⟨A.nid, 0, none⟩) zs.length cap ∧ Own A' A.nid zs)) ∧ AExt A A' ∧ A'.nx = none := by
  rw [hA, h.acells]
  simp only [aappendAt, Nat.zero_add]
  cases zs with
  | nil =>
    refine ⟨.slice (some ⟨b, 0, none⟩) 0 0, A, rfl, ⟨.inr ⟨b, 0, 0, rfl, ⟨hb, ⟨[], ro, false, by rw [hg, hes], by simp, by simp, by simp [u8s]⟩, by simp, h.byte⟩⟩, .inl rfl⟩, AExt.refl A, hnx⟩
  | cons z r =>
    have h1 : Nat.ble (z :: r).length 0 = false := rfl
    rw [h1]
    simp only [cond_false]
    rw [Nat.ble_eq_true_of_le hl]
    simp only [cond_true, AW.loadN, hg, List.length_nil, Nat.zero_mul, Nat.add_zero, Nat.ble, List.drop_nil, List.take_nil, exactCap, Bool.not_false]
    have hg2 := grow_u8 (A := A) (zs0 := []) (zs := z :: r) (z :: r).length (by simp)
    simp only [List.nil_append] at hg2
    show ∃ w A', appendGrow A 1 (z :: r).length (u8s []) (u8s (z :: r)) = _ ∧ _
    rw [hg2]
    exact ⟨_, _, rfl, ⟨.inr ⟨A.nid, 0, _, rfl, row_new h.byte hnx⟩, .inr ⟨_, rfl, (row_new (opn := true) h.byte hnx).lt, ⟨true, push_get_new _⟩, h.byte⟩⟩, AExt.push hnx _, AW.push_nx _ _⟩

theorem append_empty {ats : Array TypeId} (hA : ∀ s x, aappend P A ats s x = match acells A 1 x with | none => none | some (k, new) => aappendAt A 1 s k new) {b : Nat} {ro : Bool} {esz : Nat} (hg : A.get b = .cells [] ro false esz) {x : Value} {zs : List Int} (h : RowV A x zs)
    (hb : b < A.size) (hes : esz = 1) (hl : zs.length ≤ 1073741824) (hnx : A.nx = none) :
    ∃ w A', aappend P A ats (.slice (some ⟨b, 0, none⟩) 0 0) x = some (w, A') ∧ RowV A' w zs ∧ AExt A A' ∧ A'.nx = none := by
  obtain ⟨w, A', h1, ⟨h2, _⟩, h3, h4⟩ := append_empty_own hA hg h hb hes hl hnx
  exact ⟨w, A', h1, h2, h3, h4⟩

/-! bytes as a string -/
def strFrom (s : ByteArray) : List Int → ByteArray
  | [] => s
  | z :: zs => strFrom (s.push (UInt8.ofNat z.toNat)) zs

theorem abytesStr_u8s : ∀ (zs : List Int) (s : ByteArray), abytesStr (u8s zs) s = some (strFrom s zs)
  | [], s => rfl
  | z :: zs, s => abytesStr_u8s zs _

theorem RowV.toStr {v : Value} {zs : List Int} (h : RowV A v zs) {src dst e : TypeId} (hs : prun P (underlying src) = some (.slice e)) (hd : prun P (underlying dst) = some .string) (he : prun P (underlying e) = some (.int .u8)) :
    aconvert P A src dst v = some (.string (strFrom ByteArray.empty zs), A) := by
  rcases h with ⟨rfl, rfl⟩ | ⟨b, o, cap, rfl, hr⟩
  · simp only [aconvert, hs, hd, he]; rfl
  · simp only [aconvert, hs, hd, he, hr.loadN, abytesStr_u8s]
end
end Go.Abs
namespace Go.Abs
section
variable {P : Program} {A : AW}

theorem RowV.form {v : Value} {zs : List Int} (h : RowV A v zs) : ∃ a cap, v = .slice a zs.length cap := by
  rcases h with ⟨rfl, rfl⟩ | ⟨b, o, cap, rfl, _⟩
  · exact ⟨none, 0, rfl⟩
  · exact ⟨_, cap, rfl⟩

theorem new_empty (hnx : A.nx = none) : ∃ A1, A.push (.cells [] false false 1) = A1 ∧ AExt A A1 ∧ A1.nx = none ∧ A1.get A.nid = .cells [] false false 1 ∧ A.nid < A1.size :=
  ⟨_, rfl, AExt.push hnx _, AW.push_nx _ _, push_get_new _, by rw [nid_none hnx, A.size_push_none _ hnx]; exact Nat.lt_succ_self _⟩

/-- 'x[l:k]'. -/
theorem RowV.slice2 {v : Value} {zs : List Int} (h : RowV A v zs) (hnx : A.nx = none) {kd : IntKind} (l k : Nat) (hlk : l ≤ k) (hk : k ≤ zs.length) :
    ∃ w A', aslice A 1 v (some (.int kd (Int.ofNat l))) (some (.int kd (Int.ofNat k))) none = some (w, A') ∧ RowV A' w ((zs.drop l).take (k - l)) ∧ AExt A A' ∧ A'.nx = none := by
  rcases h with ⟨rfl, rfl⟩ | ⟨b, o, cap, rfl, hr⟩
  · simp only [List.length_nil, Nat.le_zero] at hk
    subst hk
    have : l = 0 := by omega
    subst this
    exact ⟨_, A, rfl, .inl ⟨rfl, rfl⟩, AExt.refl A, hnx⟩
  · obtain ⟨w, A', h1, h2, h3, h4, _⟩ := hr.slice hnx (lo := some (.int kd (Int.ofNat l))) (hi := some (.int kd (Int.ofNat k))) (l := l) (k := k) (aboundO_nat (Nat.le_trans hk hr.le)) (aboundO_nat hlk) hk hlk
    exact ⟨w, A', h1, h2, h3, h4⟩

/-- 'x[l:]'. -/
theorem RowV.slice1 {v : Value} {zs : List Int} (h : RowV A v zs) (hnx : A.nx = none) {kd : IntKind} (l : Nat) (hl : l ≤ zs.length) :
    ∃ w A', aslice A 1 v (some (.int kd (Int.ofNat l))) none none = some (w, A') ∧ RowV A' w (zs.drop l) ∧ AExt A A' ∧ A'.nx = none := by
  rcases h with ⟨rfl, rfl⟩ | ⟨b, o, cap, rfl, hr⟩
  · simp only [List.length_nil, Nat.le_zero] at hl
    subst hl
    exact ⟨_, A, rfl, .inl ⟨rfl, rfl⟩, AExt.refl A, hnx⟩
  · obtain ⟨w, A', h1, h2, h3, h4, _⟩ := hr.slice hnx (lo := some (.int kd (Int.ofNat l))) (hi := none) (l := l) (k := zs.length) rfl (aboundO_nat hl) (Nat.le_refl _) hl
    have : (zs.drop l).take (zs.length - l) = zs.drop l := List.take_of_length_le (by simp)
    rw [this] at h2
    exact ⟨w, A', h1, h2, h3, h4⟩

/-- 'x[:k]'. -/
theorem RowV.slice0 {v : Value} {zs : List Int} (h : RowV A v zs) (hnx : A.nx = none) {kd : IntKind} (k : Nat) (hk : k ≤ zs.length) :
    ∃ w A', aslice A 1 v none (some (.int kd (Int.ofNat k))) none = some (w, A') ∧ RowV A' w (zs.take k) ∧ AExt A A' ∧ A'.nx = none := by
  rcases h with ⟨rfl, rfl⟩ | ⟨b, o, cap, rfl, hr⟩
  · simp only [List.length_nil, Nat.le_zero] at hk
    subst hk
    exact ⟨_, A, rfl, .inl ⟨rfl, rfl⟩, AExt.refl A, hnx⟩
  · obtain ⟨w, A', h1, h2, h3, h4, _⟩ := hr.slice hnx (lo := none) (hi := some (.int kd (Int.ofNat k))) (l := 0) (k := k) (aboundO_nat (Nat.le_trans hk hr.le)) rfl hk (Nat.zero_le _)
    exact ⟨w, A', h1, by simpa using h2, h3, h4⟩
end
end Go.Abs
namespace Go.Abs
theorem Own.row {A : AW} {b : Nat} {zs : List Int} (h : Own A b zs) : Row A b 0 zs.length zs := by
  obtain ⟨h1, ⟨opn, h2⟩, h3⟩ := h
  refine ⟨h1, ⟨_, _, _, h2, by simp, by simp, ?_⟩, Nat.le_refl _, h3⟩
  rw [List.drop_zero, ← u8s_length zs, List.take_length]

theorem Own.ext {A A' : AW} {b : Nat} {zs : List Int} (h : Own A b zs) (k : AExt A A') : Own A' b zs := by
  obtain ⟨h1, ⟨opn, h2⟩, h3⟩ := h
  exact ⟨Nat.lt_of_lt_of_le h1 k.size, ⟨opn, by rw [k.get b h1]; exact h2⟩, h3⟩

theorem u8s_set (zs : List Int) (i : Nat) (z : Int) : (u8s zs).set i (.int .u8 z) = u8s (zs.set i z) := by simp [u8s, List.map_set]

theorem splice_one (cs : List Value) (i : Nat) (v : Value) (h : i < cs.length) : splice cs i [v] = cs.set i v := by
  unfold splice
  rw [List.set_eq_take_append_cons_drop, if_pos h]
  simp

/-- A byte is written. -/
theorem Own.store {P : Program} {A : AW} {b : Nat} {zs : List Int} (h : Own A b zs) (hnx : A.nx = none) {t : TypeId} (ht : prun P (sizeOf t) = some 1) {i : Nat} (hi : i < zs.length) {z : Int} (hz : 0 ≤ z ∧ z < 256) :
    ∃ A', astore P A t ⟨b, 0 + i * 1, none⟩ (.int .u8 z) = some A' ∧ Own A' b (zs.set i z) ∧ AMod A b A' := by
  obtain ⟨h1, ⟨opn, h2⟩, h3⟩ := h
  have hc : (Value.int IntKind.u8 z).cells = #[.int .u8 z] := rfl
  refine ⟨A.set b (.cells (u8s (zs.set i z)) false opn 1), ?_, ⟨h1, ⟨opn, by rw [AW.get_set, if_pos rfl]⟩, ?_⟩, AMod.set hnx _⟩
  · unfold astore
    simp only [ht, hc, List.size_toArray, List.length_cons, List.length_nil]
    unfold AW.storeN
    simp only [h2]
    have e0 : 0 + i * 1 = i := by omega
    rw [e0]
    have : Nat.ble (i + [Value.int IntKind.u8 z].length) (u8s zs).length = true := Nat.ble_eq_true_of_le (by show i + 1 ≤ (u8s zs).length; rw [u8s_length]; exact hi)
    show (bif Nat.beq 1 1 then (bif Nat.ble (i + [Value.int IntKind.u8 z].length) (u8s zs).length && oneCells [.int .u8 z] then _ else none) else none) = _
    rw [this]
    show some (A.set b (.cells (splice (u8s zs) i [.int .u8 z]) false opn 1)) = _
    rw [splice_one _ _ _ (by simpa using hi), u8s_set]
  · intro y hy
    rcases List.mem_or_eq_of_mem_set hy with h | rfl
    · exact h3 y h
    · exact hz

theorem beq_refl' {α : Type} [BEq α] [ReflBEq α] {x y : α} (h : x = y) : (x == y) = true := by subst h; exact beq_self_eq_true _
theorem bne_refl' {α : Type} [BEq α] [ReflBEq α] {x y : α} (h : x = y) : (x != y) = false := by subst h; unfold bne; rw [beq_self_eq_true]; rfl
theorem xor255 {z : Int} : 0 ≤ bXor .u8 z 255 ∧ bXor .u8 z 255 < 256 := by
  show 0 ≤ IntKind.wrap .u8 _ ∧ IntKind.wrap .u8 _ < 256
  have : (BitVec.ofInt 8 z ^^^ BitVec.ofInt 8 255).toNat < 256 := (BitVec.ofInt 8 z ^^^ BitVec.ofInt 8 255).isLt
  have e := wrap_u8 (x := ((BitVec.ofInt 8 z ^^^ BitVec.ofInt 8 255).toNat : Int)) (by omega) (by omega)
  have e2 : IntKind.wrap .u8 ((BitVec.ofInt IntKind.u8.bits z ^^^ BitVec.ofInt IntKind.u8.bits 255).toNat : Int) = ((BitVec.ofInt 8 z ^^^ BitVec.ofInt 8 255).toNat : Int) := e
  rw [e2]
  omega
end Go.Abs
namespace Go.Abs
theorem AExt.mod {A B C : AW} {b : Nat} (h : AExt A B) (k : AMod B b C) (hb : A.size ≤ b) : AExt A C :=
  ⟨by rw [k.size]; exact h.size, fun x hx => by rw [k.get x (by omega), h.get x hx], fun _ => k.nx⟩
theorem tmod256 {x : Int} (h0 : 0 ≤ x) : IntKind.wrap .u8 (Int.tmod x 256) = x % 256 := by
  have : Int.tmod x 256 = x % 256 := Int.tmod_eq_emod_of_nonneg h0
  rw [this, wrap_u8 (by omega) (by omega)]
theorem tmod256' {x : Int} (h0 : 0 ≤ x) (h1 : x < 18446744073709551616) : Int.tmod x 256 = x % 256 := Int.tmod_eq_emod_of_nonneg h0
theorem tdiv256 {x : Int} (h0 : 0 ≤ x) (h1 : x < 18446744073709551616) : IntKind.wrap .u64 (Int.tdiv x 256) = x / 256 := by
  have : Int.tdiv x 256 = x / 256 := Int.tdiv_eq_ediv_of_nonneg h0
  rw [this, wrap_u64 (by omega) (by omega)]
/-- A new row of so many zeros. -/
theorem new_zeros {A : AW} (hnx : A.nx = none) (zs : List Int) (hb : isByte zs) : ∃ A1, A.push (.cells (u8s zs) false false 1) = A1 ∧ AExt A A1 ∧ A1.nx = none ∧ Own A1 A.nid zs :=
  ⟨_, rfl, AExt.push hnx _, AW.push_nx _ _, ⟨(row_new (opn := false) hb hnx).lt, ⟨false, push_get_new _⟩, hb⟩⟩
end Go.Abs
