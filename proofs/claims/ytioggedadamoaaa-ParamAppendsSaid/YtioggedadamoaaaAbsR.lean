/- Rows of bytes. -/
import Derived.Test.YtioggedadamoaaaAbsK
set_option autoImplicit false
set_option linter.unusedVariables false
set_option linter.unusedSimpArgs false
namespace Go.Abs
open Go.RowKit
section
variable {P : Program} {call : CallF} {n : Nat} {ops : Array Oper} {i : Nat} {S : Slots} {A : AW} {Q : Slots → AW → Prop}
  {draws : Array Oper → Array Value → AW → Option (Array Value × AW)} {R : Nat}
theorem EO.cast {S2 : Slots} (e : S = S2) (h : EO P call n ops i S2 A Q) : EO P call n ops i S A Q := by rw [e]; exact h
def u8s (zs : List Int) : List Value := zs.map fun z => .int .u8 z
@[simp] theorem u8s_length (zs : List Int) : (u8s zs).length = zs.length := by simp [u8s]
theorem u8s_append (a b : List Int) : u8s (a ++ b) = u8s a ++ u8s b := by simp [u8s]
def isByte (zs : List Int) : Prop := ∀ z ∈ zs, 0 ≤ z ∧ z < 256
structure Row (A : AW) (b o cap : Nat) (zs : List Int) : Prop where
  lt : b < A.size
  cells : ∃ cs ro opn, A.get b = .cells cs ro opn 1 ∧ o + zs.length ≤ cs.length ∧ o + cap ≤ cs.length ∧ (cs.drop o).take zs.length = u8s zs
  le : zs.length ≤ cap
  byte : isByte zs
theorem Row.loadN {b o cap : Nat} {zs : List Int} (h : Row A b o cap zs) : A.loadN ⟨b, o, none⟩ zs.length = some (u8s zs) := by
  obtain ⟨_, ⟨cs, ro, opn, h2, h3, h4, h5⟩, _⟩ := h
  unfold AW.loadN
  simp only [h2]
  rw [Nat.ble_eq_true_of_le h3]
  simp [h5]
theorem Row.cell {b o cap : Nat} {zs : List Int} (h : Row A b o cap zs) {j : Nat} {z : Int} (hz : zs[j]? = some z) : ∃ cs ro opn, A.get b = .cells cs ro opn 1 ∧ cs[o + j]? = some (.int .u8 z) := by
  obtain ⟨_, ⟨cs, ro, opn, h2, h3, h4, h5⟩, _⟩ := h
  refine ⟨cs, ro, opn, h2, ?_⟩
  have hj := (List.getElem?_eq_some_iff.1 hz).1
  have e : ((cs.drop o).take zs.length)[j]? = some (.int .u8 z) := by
    rw [h5]
    simp [u8s, hz]
  rw [List.getElem?_take_of_lt hj, List.getElem?_drop] at e
  exact e
theorem Row.load {t : TypeId} {b o cap : Nat} {zs : List Int} (h : Row A b o cap zs) (ht : prun P (isAgg t) = some false) {j : Nat} {z : Int} (hz : zs[j]? = some z) : aload P A t ⟨b, o + j * 1, none⟩ = some (.int .u8 z) := by
  obtain ⟨cs, ro, opn, h1, h2⟩ := h.cell hz
  rw [Nat.mul_one]
  exact aload_one ht h1 h2
def RowV (A : AW) (v : Value) (zs : List Int) : Prop := (v = .slice none 0 0 ∧ zs = []) ∨ ∃ b o cap, v = .slice (some ⟨b, o, none⟩) zs.length cap ∧ Row A b o cap zs
theorem RowV.byte {v : Value} {zs : List Int} (h : RowV A v zs) : isByte zs := by
  rcases h with ⟨_, rfl⟩ | ⟨b, o, cap, _, h2⟩
  · intro z hz; simp at hz
  · exact h2.byte
end
end Go.Abs
namespace Go.Abs
end Go.Abs
namespace Go.Abs
end Go.Abs
namespace Go.Abs
end Go.Abs
namespace Go.Abs
section
variable {P : Program} {A : AW}
theorem oneCells_u8s : ∀ (zs : List Int), oneCells (u8s zs) = true
  | [] => rfl
  | z :: zs => by
    show (Value.oneCell' (.int .u8 z) && oneCells (u8s zs)) = true
    rw [oneCells_u8s zs]; rfl
theorem RowV.acells {v : Value} {zs : List Int} (h : RowV A v zs) : acells A 1 v = some (zs.length, u8s zs) := by
  rcases h with ⟨rfl, rfl⟩ | ⟨b, o, cap, rfl, hr⟩
  · rfl
  · unfold Abs.acells
    simp only [Nat.mul_one]
    rw [hr.loadN]
theorem row_new {zs : List Int} {opn : Bool} (hb : isByte zs) (hnx : A.nx = none) : Row (A.push (.cells (u8s zs) false opn 1)) A.nid 0 zs.length zs := by
  refine ⟨?_, ⟨u8s zs, false, opn, push_get_new _, by simp, by simp, ?_⟩, Nat.le_refl _, hb⟩
  · rw [nid_none hnx, A.size_push_none _ hnx]; exact Nat.lt_succ_self _
  · rw [List.drop_zero, ← u8s_length zs, List.take_length]
theorem grow_u8 {zs0 zs : List Int} (k : Nat) (hk : k = zs0.length + zs.length) : appendGrow A 1 k (u8s zs0) (u8s zs) = some (.slice (some ⟨A.nid, 0, none⟩) k k, A.push (.cells (u8s (zs0 ++ zs)) false true 1)) := by
  unfold appendGrow
  rw [oneCells_u8s, oneCells_u8s, u8s_append]
  have : Nat.beq ((u8s zs0).length + (u8s zs).length) (k * 1) = true := by
    rw [u8s_length, u8s_length, hk, Nat.mul_one]
    exact Nat.beq_refl _
  rw [this]
  rfl
def RowVN (K : Nat) (A : AW) (v : Value) (zs : List Int) : Prop := (v = .slice none 0 0 ∧ zs = []) ∨ ∃ b o cap, v = .slice (some ⟨b, o, none⟩) zs.length cap ∧ K ≤ b ∧ Row A b o cap zs
theorem RowVN.rowV {K : Nat} {v : Value} {zs : List Int} (h : RowVN K A v zs) : RowV A v zs := by
  rcases h with h | ⟨b, o, cap, h1, _, h2⟩
  · exact .inl h
  · exact .inr ⟨b, o, cap, h1, h2⟩
structure AMod (A : AW) (b0 : Nat) (A' : AW) : Prop where
  size : A'.size = A.size
  nx : A'.nx = none
  get : ∀ b, b ≠ b0 → A'.get b = A.get b
theorem AMod.set {A : AW} {b0 : Nat} (h : A.nx = none) (x : AObj) : AMod A b0 (A.set b0 x) := ⟨rfl, h, fun b hb => by rw [AW.get_set, if_neg hb]⟩
structure Own (A : AW) (b : Nat) (zs : List Int) : Prop where
  lt : b < A.size
  cells : ∃ opn, A.get b = .cells (u8s zs) false opn 1
  byte : isByte zs
def strFrom (s : ByteArray) : List Int → ByteArray
  | [] => s
  | z :: zs => strFrom (s.push (UInt8.ofNat z.toNat)) zs
theorem abytesStr_u8s : ∀ (zs : List Int) (s : ByteArray), abytesStr (u8s zs) s = some (strFrom s zs)
  | [], s => rfl
  | z :: zs, s => abytesStr_u8s zs _
theorem RowV.toStr {v : Value} {zs : List Int} (h : RowV A v zs) {src dst e : TypeId} (hs : prun P (underlying src) = some (.slice e)) (hd : prun P (underlying dst) = some .string) (he : prun P (underlying e) = some (.int .u8)) :
    aconvert P A src dst v = some (.string (strFrom ByteArray.empty zs), A) := by
  rcases h with ⟨rfl, rfl⟩ | ⟨b, o, cap, rfl, hr⟩
  · simp only [aconvert, hs, hd, he]; rfl
  · simp only [aconvert, hs, hd, he, hr.loadN, abytesStr_u8s]
end
end Go.Abs
namespace Go.Abs
section
variable {P : Program} {A : AW}
theorem RowV.form {v : Value} {zs : List Int} (h : RowV A v zs) : ∃ a cap, v = .slice a zs.length cap := by
  rcases h with ⟨rfl, rfl⟩ | ⟨b, o, cap, rfl, _⟩
  · exact ⟨none, 0, rfl⟩
  · exact ⟨_, cap, rfl⟩
end
end Go.Abs
namespace Go.Abs
theorem Own.row {A : AW} {b : Nat} {zs : List Int} (h : Own A b zs) : Row A b 0 zs.length zs := by
  obtain ⟨h1, ⟨opn, h2⟩, h3⟩ := h
  refine ⟨h1, ⟨_, _, _, h2, by simp, by simp, ?_⟩, Nat.le_refl _, h3⟩
  rw [List.drop_zero, ← u8s_length zs, List.take_length]
theorem u8s_set (zs : List Int) (i : Nat) (z : Int) : (u8s zs).set i (.int .u8 z) = u8s (zs.set i z) := by simp [u8s, List.map_set]
theorem splice_one (cs : List Value) (i : Nat) (v : Value) (h : i < cs.length) : splice cs i [v] = cs.set i v := by
  unfold splice
  rw [List.set_eq_take_append_cons_drop, if_pos h]
  simp
theorem Own.store {P : Program} {A : AW} {b : Nat} {zs : List Int} (h : Own A b zs) (hnx : A.nx = none) {t : TypeId} (ht : prun P (sizeOf t) = some 1) {i : Nat} (hi : i < zs.length) {z : Int} (hz : 0 ≤ z ∧ z < 256) :
    ∃ A', astore P A t ⟨b, 0 + i * 1, none⟩ (.int .u8 z) = some A' ∧ Own A' b (zs.set i z) ∧ AMod A b A' := by
  obtain ⟨h1, ⟨opn, h2⟩, h3⟩ := h
  have hc : (Value.int IntKind.u8 z).cells = #[.int .u8 z] := rfl
  refine ⟨A.set b (.cells (u8s (zs.set i z)) false opn 1), ?_, ⟨h1, ⟨opn, by rw [AW.get_set, if_pos rfl]⟩, ?_⟩, AMod.set hnx _⟩
  · unfold astore
    simp only [ht, hc, List.size_toArray, List.length_cons, List.length_nil]
    unfold AW.storeN
    simp only [h2]
    have e0 : 0 + i * 1 = i := by omega
    rw [e0]
    have : Nat.ble (i + [Value.int IntKind.u8 z].length) (u8s zs).length = true := Nat.ble_eq_true_of_le (by show i + 1 ≤ (u8s zs).length; rw [u8s_length]; exact hi)
    show (bif Nat.beq 1 1 then (bif Nat.ble (i + [Value.int IntKind.u8 z].length) (u8s zs).length && oneCells [.int .u8 z] then _ else none) else none) = _
    rw [this]
    show some (A.set b (.cells (splice (u8s zs) i [.int .u8 z]) false opn 1)) = _
    rw [splice_one _ _ _ (by simpa using hi), u8s_set]
  · intro y hy
    rcases List.mem_or_eq_of_mem_set hy with h | rfl
    · exact h3 y h
    · exact hz
end Go.Abs
namespace Go.Abs
theorem AExt.mod {A B C : AW} {b : Nat} (h : AExt A B) (k : AMod B b C) (hb : A.size ≤ b) : AExt A C :=
  ⟨by rw [k.size]; exact h.size, fun x hx => by rw [k.get x (by omega), h.get x hx], fun _ => k.nx⟩
theorem tmod256 {x : Int} (h0 : 0 ≤ x) : IntKind.wrap .u8 (Int.tmod x 256) = x % 256 := by
  have : Int.tmod x 256 = x % 256 := Int.tmod_eq_emod_of_nonneg h0
  rw [this, wrap_u8 (by omega) (by omega)]
theorem tdiv256 {x : Int} (h0 : 0 ≤ x) (h1 : x < 18446744073709551616) : IntKind.wrap .u64 (Int.tdiv x 256) = x / 256 := by
  have : Int.tdiv x 256 = x / 256 := Int.tdiv_eq_ediv_of_nonneg h0
  rw [this, wrap_u64 (by omega) (by omega)]
theorem new_zeros {A : AW} (hnx : A.nx = none) (zs : List Int) (hb : isByte zs) : ∃ A1, A.push (.cells (u8s zs) false false 1) = A1 ∧ AExt A A1 ∧ A1.nx = none ∧ Own A1 A.nid zs :=
  ⟨_, rfl, AExt.push hnx _, AW.push_nx hnx _, ⟨(row_new (opn := false) hb hnx).lt, ⟨false, push_get_new _⟩, hb⟩⟩
end Go.Abs
