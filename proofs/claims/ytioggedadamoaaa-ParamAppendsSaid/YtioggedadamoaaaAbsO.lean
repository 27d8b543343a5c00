/- Rows that grow; rows of numbers. -/
import Derived.Test.YtioggedadamoaaaAbsIn
set_option autoImplicit false
set_option linter.unusedVariables false
set_option linter.unusedSimpArgs false
namespace Go.Abs
open Go.RowKit
structure AK (K : Nat) (A A' : AW) : Prop where
  size : A.size ≤ A'.size
  get : ∀ b, b < K → A'.get b = A.get b
  nx : A'.nx = none
theorem AExt.ak {A0 A A' : AW} (h : AExt A0 A) (k : AK A0.size A A') : AExt A0 A' :=
  ⟨Nat.le_trans h.size k.size, fun b hb => by rw [k.get b hb, h.get b hb], fun _ => k.nx⟩
theorem AExt.toAK {A A' : AW} (h : AExt A A') (hn : A'.nx = none) {K : Nat} (hK : K ≤ A.size) : AK K A A' := ⟨h.size, fun b hb => h.get b (by omega), hn⟩
def OutV (K : Nat) (A : AW) (v : Value) (zs : List Int) : Prop := isByte zs ∧ ((v = .slice none 0 0 ∧ zs = []) ∨ ∃ b, v = .slice (some ⟨b, 0, none⟩) zs.length zs.length ∧ K ≤ b ∧ b < A.size ∧ A.get b = .cells (u8s zs) false true 1)
theorem OutV.ext {K : Nat} {A A' : AW} {v : Value} {zs : List Int} (h : OutV K A v zs) (k : AExt A A') : OutV K A' v zs := by
  obtain ⟨hb, h | ⟨b, h1, h2, h3, h4⟩⟩ := h
  · exact ⟨hb, .inl h⟩
  · exact ⟨hb, .inr ⟨b, h1, h2, Nat.lt_of_lt_of_le h3 k.size, by rw [k.get b h3]; exact h4⟩⟩
theorem OutV.rowVN {K : Nat} {A : AW} {v : Value} {zs : List Int} (h : OutV K A v zs) : RowVN K A v zs := by
  obtain ⟨hb, h | ⟨b, h1, h2, h3, h4⟩⟩ := h
  · exact .inl h
  · refine .inr ⟨b, 0, zs.length, h1, h2, h3, ⟨_, _, _, h4, by simp, by simp, ?_⟩, Nat.le_refl _, hb⟩
    rw [List.drop_zero, ← u8s_length zs, List.take_length]
theorem OutV.rowV {K : Nat} {A : AW} {v : Value} {zs : List Int} (h : OutV K A v zs) : RowV A v zs := h.rowVN.rowV
section
variable {P : Program} {A : AW} {K : Nat}
theorem append_nil_out {ats : Array TypeId} (hA : ∀ s x, aappend P A ats s x = match acells A 1 x with | none => none | some (k, new) => aappendAt A 1 s k new) {x : Value} {zs : List Int} (h : RowV A x zs) (hl : zs.length ≤ 1073741824) (hnx : A.nx = none) :
    ∃ w A', aappend P A ats (.slice none 0 0) x = some (w, A') ∧ OutV A.size A' w zs ∧ AExt A A' ∧ A'.nx = none := by
  rw [hA, h.acells]
  simp only [aappendAt]
  cases zs with
  | nil => exact ⟨_, A, rfl, ⟨h.byte, .inl ⟨rfl, rfl⟩⟩, AExt.refl A, hnx⟩
  | cons z r =>
    have h1 : Nat.beq (z :: r).length 0 = false := rfl
    rw [h1]
    simp only [cond_false]
    rw [Nat.ble_eq_true_of_le hl]
    simp only [cond_true]
    have hg := grow_u8 (A := A) (zs0 := []) (zs := z :: r) (z :: r).length (by simp)
    simp only [List.nil_append] at hg
    show ∃ w A', appendGrow A 1 (z :: r).length (u8s []) (u8s (z :: r)) = _ ∧ _
    rw [hg]
    exact ⟨_, _, rfl, ⟨h.byte, .inr ⟨A.nid, rfl, by rw [nid_none hnx]; exact Nat.le_refl _, (row_new (opn := true) h.byte hnx).lt, push_get_new _⟩⟩, AExt.push hnx _, AW.push_nx hnx _⟩
theorem OutV.app {ats : Array TypeId} (hA : ∀ s x, aappend P A ats s x = match acells A 1 x with | none => none | some (k, new) => aappendAt A 1 s k new) {v x : Value} {zs xs : List Int} (h : OutV K A v zs) (hx : RowV A x xs) (hne : xs ≠ []) (hl : zs.length + xs.length ≤ 1073741824)
    (hK : K ≤ A.size) (hnx : A.nx = none) : ∃ w A', aappend P A ats v x = some (w, A') ∧ OutV K A' w (zs ++ xs) ∧ AK K A A' := by
  have hby : isByte (zs ++ xs) := by
    intro z hz
    rcases List.mem_append.1 hz with h1 | h1
    · exact h.1 z h1
    · exact hx.byte z h1
  have hpos : 0 < xs.length := by cases xs with | nil => exact absurd rfl hne | cons => simp
  obtain ⟨hb, ⟨rfl, rfl⟩ | ⟨b, rfl, h2, h3, h4⟩⟩ := h
  · obtain ⟨w, A', e, h1, h2, h3⟩ := append_nil_out hA hx (by simpa using hl) hnx
    refine ⟨w, A', e, ⟨hby, ?_⟩, h2.toAK h3 hK⟩
    obtain ⟨_, h1 | ⟨b, g1, g2, g3, g4⟩⟩ := h1
    · exact .inl (by simpa using h1)
    · exact .inr ⟨b, by simpa using g1, by omega, g3, by simpa using g4⟩
  · rw [hA, hx.acells]
    simp only [aappendAt]
    have hble : Nat.ble (zs.length + xs.length) zs.length = false := by
      cases hc : Nat.ble (zs.length + xs.length) zs.length with
      | false => rfl
      | true => have := Nat.le_of_ble_eq_true hc; omega
    rw [hble]
    simp only [cond_false]
    rw [Nat.ble_eq_true_of_le hl]
    simp only [cond_true]
    have hload : A.loadN ⟨b, 0, none⟩ (zs.length * 1) = some (u8s zs) := by
      unfold AW.loadN
      simp only [h4, Nat.zero_add, Nat.mul_one]
      rw [Nat.ble_eq_true_of_le (by simp)]
      simp only [cond_true, List.drop_zero]
      rw [← u8s_length zs, List.take_length]
    rw [hload]
    have hex : exactCap A ⟨b, 0, none⟩ zs.length 1 = some false := by
      unfold exactCap
      simp only [h4, Bool.not_true, cond_false, Nat.beq_refl, cond_true, Nat.zero_add, Nat.mul_one, u8s_length]
    simp only [hex, h4, Nat.beq_refl, cond_true]
    have hnx2 : (A.set b .dead).nx = none := hnx
    rw [grow_u8 (A := A.set b .dead) (zs0 := zs) (zs := xs) (zs.length + xs.length) rfl]
    have hnid : (A.set b .dead).nid = A.size := nid_none hnx2
    refine ⟨_, _, rfl, ⟨hby, .inr ⟨_, by rw [List.length_append], by rw [hnid]; exact hK, ?_, push_get_new _⟩⟩, ?_⟩
    · rw [hnid, (A.set b .dead).size_push_none _ hnx2]; exact Nat.lt_succ_self _
    · refine ⟨Nat.le_trans (Nat.le_of_eq (by rfl)) (AW.size_push_le _ _), ?_, AW.push_nx hnx2 _⟩
      intro c hc
      rw [AW.get_push, if_neg (by rw [hnid]; omega), AW.get_set, if_neg (by omega)]
theorem new_one (hnx : A.nx = none) (z : Int) (hz : 0 ≤ z ∧ z < 256) : ∃ A1, A.push (.cells (u8s [z]) false false 1) = A1 ∧ AExt A A1 ∧ A1.nx = none ∧ RowV A1 (.slice (some ⟨A.nid, 0, none⟩) 1 1) [z] :=
  ⟨_, rfl, AExt.push hnx _, AW.push_nx hnx _, .inr ⟨A.nid, 0, 1, rfl, row_new (opn := false) (by intro y hy; simp at hy; subst hy; exact hz) hnx⟩⟩
theorem OutV.at_ {v : Value} {zs : List Int} (h : OutV K A v zs) (hne : zs ≠ []) : ∃ b, v = .slice (some ⟨b, 0, none⟩) zs.length zs.length ∧ K ≤ b ∧ Own A b zs := by
  obtain ⟨hb, ⟨_, rfl⟩ | ⟨b, h1, h2, h3, h4⟩⟩ := h
  · exact absurd rfl hne
  · exact ⟨b, h1, h2, h3, ⟨true, h4⟩, hb⟩
theorem OutV.store {zs r : List Int} {e y : Int} {b : Nat} (h : OutV K A (.slice (some ⟨b, 0, none⟩) (zs ++ e :: r).length (zs ++ e :: r).length) (zs ++ e :: r)) (hnx : A.nx = none) {t : TypeId} (ht : prun P (sizeOf t) = some 1) (hy : 0 ≤ y ∧ y < 256) :
    ∃ A', astore P A t ⟨b, 0 + zs.length * 1, none⟩ (.int .u8 y) = some A' ∧ OutV K A' (.slice (some ⟨b, 0, none⟩) (zs ++ e :: r).length (zs ++ e :: r).length) (zs ++ y :: r) ∧ AK K A A' := by
  obtain ⟨hb, ⟨h1, _⟩ | ⟨b', h1, h2, h3, h4⟩⟩ := h
  · simp at h1
  · simp only [Value.slice.injEq, Option.some.injEq, Addr.mk.injEq] at h1
    obtain ⟨⟨rfl, _⟩, _⟩ := h1
    have hc : (Value.int IntKind.u8 y).cells = #[.int .u8 y] := rfl
    have hset : (zs ++ e :: r).set zs.length y = zs ++ y :: r := by rw [List.set_append_right _ _ (Nat.le_refl _)]; simp
    have hlen : (zs ++ e :: r).length = (zs ++ y :: r).length := by simp
    refine ⟨A.set b (.cells (u8s (zs ++ y :: r)) false true 1), ?_, ⟨?_, .inr ⟨b, by rw [hlen], h2, h3, by rw [AW.get_set, if_pos rfl]⟩⟩, ⟨Nat.le_refl _, fun c hc => by rw [AW.get_set, if_neg (by omega)], hnx⟩⟩
    · unfold astore
      simp only [ht, hc, List.size_toArray, List.length_cons, List.length_nil]
      unfold AW.storeN
      simp only [h4]
      have e0 : 0 + zs.length * 1 = zs.length := by omega
      rw [e0]
      have hlt : zs.length < (u8s (zs ++ e :: r)).length := by simp
      have : Nat.ble (zs.length + [Value.int IntKind.u8 y].length) (u8s (zs ++ e :: r)).length = true := Nat.ble_eq_true_of_le hlt
      show (bif Nat.beq 1 1 then (bif Nat.ble (zs.length + [Value.int IntKind.u8 y].length) (u8s (zs ++ e :: r)).length && oneCells [.int .u8 y] then _ else none) else none) = _
      rw [this]
      show some (A.set b (.cells (splice (u8s (zs ++ e :: r)) zs.length [.int .u8 y]) false true 1)) = _
      rw [splice_one _ _ _ hlt, u8s_set, hset]
    · intro z hz
      rcases List.mem_append.1 hz with h | h
      · exact hb z (by simp [h])
      · rcases List.mem_cons.1 h with rfl | h
        · exact hy
        · exact hb z (by simp [h])
end
def R64 (A : AW) (v : Value) (ns : List Int) : Prop := (∀ n ∈ ns, 0 ≤ n ∧ n < 18446744073709551616) ∧ ((v = .slice none 0 0 ∧ ns = []) ∨
  ∃ b o cap, v = .slice (some ⟨b, o, none⟩) ns.length cap ∧ b < A.size ∧ ∃ cs ro opn esz, A.get b = .cells cs ro opn esz ∧ ∀ j n, ns[j]? = some n → cs[o + j]? = some (.int .u64 n))
theorem R64.ext {A A' : AW} {v : Value} {ns : List Int} (h : R64 A v ns) (k : AExt A A') : R64 A' v ns := by
  obtain ⟨hb, h | ⟨b, o, cap, h1, h2, cs, ro, opn, esz, h3, h4⟩⟩ := h
  · exact ⟨hb, .inl h⟩
  · exact ⟨hb, .inr ⟨b, o, cap, h1, Nat.lt_of_lt_of_le h2 k.size, cs, ro, opn, esz, by rw [k.get b h2]; exact h3, h4⟩⟩
theorem R64.form {A : AW} {v : Value} {ns : List Int} (h : R64 A v ns) : ∃ a cap, v = .slice a ns.length cap := by
  obtain ⟨_, ⟨rfl, rfl⟩ | ⟨b, o, cap, rfl, _⟩⟩ := h
  · exact ⟨none, 0, rfl⟩
  · exact ⟨_, cap, rfl⟩
theorem R64.load {P : Program} {A : AW} {v : Value} {ns : List Int} (h : R64 A v ns) {t st e : TypeId} (ht : prun P (isAgg t) = some false) (hu : prun P (underlying st) = some (.slice e)) (hs : prun P (sizeOf e) = some 1) {j : Nat} {n : Int} (hj : ns[j]? = some n) :
    ∃ ad, aindexAddr P st v (.int .i64 (Int.ofNat j)) = some (.pointer (some ad)) ∧ aload P A t ad = some (.int .u64 n) := by
  have hlt := (List.getElem?_eq_some_iff.1 hj).1
  obtain ⟨_, ⟨_, rfl⟩ | ⟨b, o, cap, rfl, h2, cs, ro, opn, esz, h3, h4⟩⟩ := h
  · simp at hlt
  · exact ⟨⟨b, o + j * 1, none⟩, aindexAddr_slice hu hs hlt, by rw [Nat.mul_one]; exact aload_one ht h3 (h4 j n hj)⟩
end Go.Abs
namespace Go.Abs
theorem wrap_u8_mod (x : Int) : IntKind.wrap .u8 x = x % 256 := by
  simp [IntKind.wrap, IntKind.bits, IntKind.signed]
theorem shr_b0 {n : Int} : IntKind.wrap .u8 (sShr .u64 n 0) = n % 256 := by
  rw [wrap_u8_mod]; show Int.fdiv n 1 % 256 = _; rw [Int.fdiv_eq_ediv_of_nonneg _ (by omega)]; omega
theorem shr_b1 {n : Int} : IntKind.wrap .u8 (sShr .u64 n 8) = n / 256 % 256 := by
  rw [wrap_u8_mod]; show Int.fdiv n 256 % 256 = _; rw [Int.fdiv_eq_ediv_of_nonneg _ (by omega)]
theorem shr_b2 {n : Int} : IntKind.wrap .u8 (sShr .u64 n 16) = n / 256 / 256 % 256 := by
  rw [wrap_u8_mod]; show Int.fdiv n 65536 % 256 = _; rw [Int.fdiv_eq_ediv_of_nonneg _ (by omega)]; omega
theorem shr_b3 {n : Int} : IntKind.wrap .u8 (sShr .u64 n 24) = n / 256 / 256 / 256 % 256 := by
  rw [wrap_u8_mod]; show Int.fdiv n 16777216 % 256 = _; rw [Int.fdiv_eq_ediv_of_nonneg _ (by omega)]; omega
theorem shr_b4 {n : Int} : IntKind.wrap .u8 (sShr .u64 n 32) = n / 256 / 256 / 256 / 256 % 256 := by
  rw [wrap_u8_mod]; show Int.fdiv n 4294967296 % 256 = _; rw [Int.fdiv_eq_ediv_of_nonneg _ (by omega)]; omega
theorem shr_b5 {n : Int} : IntKind.wrap .u8 (sShr .u64 n 40) = n / 256 / 256 / 256 / 256 / 256 % 256 := by
  rw [wrap_u8_mod]; show Int.fdiv n 1099511627776 % 256 = _; rw [Int.fdiv_eq_ediv_of_nonneg _ (by omega)]; omega
theorem shr_b6 {n : Int} : IntKind.wrap .u8 (sShr .u64 n 48) = n / 256 / 256 / 256 / 256 / 256 / 256 % 256 := by
  rw [wrap_u8_mod]; show Int.fdiv n 281474976710656 % 256 = _; rw [Int.fdiv_eq_ediv_of_nonneg _ (by omega)]; omega
theorem shr_b7 {n : Int} : IntKind.wrap .u8 (sShr .u64 n 56) = n / 256 / 256 / 256 / 256 / 256 / 256 / 256 % 256 := by
  rw [wrap_u8_mod]; show Int.fdiv n 72057594037927936 % 256 = _; rw [Int.fdiv_eq_ediv_of_nonneg _ (by omega)]; omega
theorem or_top {e : Int} (h0 : 0 ≤ e) (h1 : e < 64) (t : Nat) (ht : t < 4) : bOr .u8 e ((64 * t : Nat) : Int) = e + ((64 * t : Nat) : Int) := by
  have n1 : (BitVec.ofInt 8 e).toNat = e.toNat := by rw [BitVec.toNat_ofInt]; omega
  have n2 : (BitVec.ofInt 8 ((64 * t : Nat) : Int)).toNat = 64 * t := by rw [BitVec.toNat_ofInt]; omega
  have hh : ((BitVec.ofInt 8 e ||| BitVec.ofInt 8 ((64 * t : Nat) : Int)).toNat : Int) = e + ((64 * t : Nat) : Int) := by
    rw [BitVec.toNat_or, n1, n2, Nat.or_comm]
    have := Nat.two_pow_add_eq_or_of_lt (i := 6) (b := e.toNat) (by omega) t
    rw [show 64 * t = 2 ^ 6 * t from by omega, ← this]
    omega
  show IntKind.wrap .u8 ((BitVec.ofInt 8 e ||| BitVec.ofInt 8 ((64 * t : Nat) : Int)).toNat : Int) = _
  rw [hh, wrap_u8 (by omega) (by omega)]
end Go.Abs
namespace Go.Abs
theorem strFrom_size : ∀ (l : List Int) (s : ByteArray), (strFrom s l).size = s.size + l.length
  | [], s => rfl
  | z :: l, s => by
    show (strFrom (s.push _) l).size = _
    rw [strFrom_size l, ByteArray.size_push, List.length_cons]
    omega
theorem strFrom_data : ∀ (l : List Int) (s : ByteArray), (strFrom s l).data.toList = s.data.toList ++ l.map fun z => UInt8.ofNat z.toNat
  | [], s => by simp [strFrom]
  | z :: l, s => by
    show (strFrom (s.push _) l).data.toList = _
    rw [strFrom_data l]
    have : (s.push (UInt8.ofNat z.toNat)).data.toList = s.data.toList ++ [UInt8.ofNat z.toNat] := by
      show (s.data.push _).toList = _
      simp
    rw [this]
    simp
theorem strFrom_append (a b : List Int) : strFrom ByteArray.empty a ++ strFrom ByteArray.empty b = strFrom ByteArray.empty (a ++ b) := by
  have h : (strFrom ByteArray.empty a ++ strFrom ByteArray.empty b).data.toList = (strFrom ByteArray.empty (a ++ b)).data.toList := by
    rw [strFrom_data, ByteArray.data_append, Array.toList_append, strFrom_data, strFrom_data]
    simp [ByteArray.empty, ByteArray.emptyWithCapacity] <;> rfl
  have h2 := Array.ext' h
  cases hx : (strFrom ByteArray.empty a ++ strFrom ByteArray.empty b)
  cases hy : strFrom ByteArray.empty (a ++ b)
  rw [hx, hy] at h2
  simp only at h2
  rw [h2]
theorem prun_strAdd {P : Program} {t : TypeId} {x y : Operand} {a b : ByteArray} (h : a.size + b.size < 4611686018427387904) : prun P (do eqGuard .add t x y (Value.string a) (Value.string b); binOp .add t (Value.string a) (Value.string b)) = some (Value.string (a ++ b)) := by
  have hn : ¬ ((a.size + b.size : Nat) : Int) > IntKind.i64.max := by
    have : IntKind.i64.max = 9223372036854775807 := rfl
    omega
  show prun P (if ((a.size + b.size : Nat) : Int) > IntKind.i64.max then unsupported _ else (pure (Value.string (a ++ b)) : Sem Value)) = _
  rw [if_neg hn]
  rfl
section
variable {P : Program} {call : CallF} {n : Nat} {ops : Array Oper} {i : Nat} {S : Slots} {A : AW} {Q : Slots → AW → Prop}
end
end Go.Abs
namespace Go.Abs
open Go.RowKit
def cellsK (k : IntKind) (zs : List Int) : List Value := zs.map fun z => .int k z
theorem oneCells_k (k : IntKind) : ∀ (zs : List Int), oneCells (cellsK k zs) = true
  | [] => rfl
  | z :: zs => by
    show (Value.oneCell' (.int k z) && oneCells (cellsK k zs)) = true
    rw [oneCells_k k zs]; rfl
theorem groundL_k (k : IntKind) : ∀ (zs : List Int), groundL (cellsK k zs) = true
  | [] => rfl
  | z :: zs => by
    show (ground (.int k z) && groundL (cellsK k zs)) = true
    rw [groundL_k k zs]; rfl
theorem row_cells_k {k : IntKind} {w : World} {x : Addr} {zs : List Int} {c : Array Value} {t : TypeId} {fr : Nat × Nat} (hs : x.spot = none) (hh : w.heap[x.block]? = some (.cells c t fr)) (ho : x.off ≤ c.size)
    (hc : ∀ i, i < zs.length → w.cell? (x.add i) = some (.int k (zs.getD i 0))) : (c.toList.drop x.off).take (cellsK k zs).length = cellsK k zs ∧ x.off + (cellsK k zs).length ≤ c.size := by
  have hl0 : (cellsK k zs).length = zs.length := by simp [cellsK]
  have key : ∀ i, i < zs.length → c[x.off + i]? = some (.int k (zs.getD i 0)) := by
    intro i hi
    have h := hc i hi
    obtain ⟨k1, k2, k3⟩ := add_block hs i
    unfold World.cell? at h
    rw [k1, hh, k3, k2] at h
    simpa using h
  have hlen : x.off + zs.length ≤ c.size := by
    cases hz : zs.length with
    | zero => omega
    | succ n =>
      have := (Array.getElem?_eq_some_iff.1 (key n (by omega))).1
      omega
  refine ⟨?_, by rw [hl0]; exact hlen⟩
  apply List.ext_getElem?
  intro i
  rw [hl0]
  by_cases hi : i < zs.length
  · rw [List.getElem?_take_of_lt hi, List.getElem?_drop]
    have h2 : c.toList[x.off + i]? = some (.int k (zs.getD i 0)) := by simpa using key i hi
    rw [h2]
    unfold cellsK
    rw [List.getElem?_map, List.getElem?_eq_getElem hi, List.getD_eq_getElem?_getD, List.getElem?_eq_getElem hi]
    rfl
  · rw [List.getElem?_eq_none (by simp; omega), List.getElem?_eq_none (by omega)]
def CameIn (k : IntKind) (w : World) (a : Option Addr) (len cap : Nat) (zs : List Int) : Prop :=
  (a = none ∧ len = 0 ∧ cap = 0 ∧ zs = []) ∨
  ∃ x, a = some x ∧ len ≤ cap ∧ cap ≤ maxLen ∧ zs.length = cap ∧ (∀ i, i < zs.length → w.cell? (x.add i) = some (.int k (zs.getD i 0))) ∧ ∀ n ∈ zs, (Lit.int k n).wf = true
def LiesAt (B : Nat → Prop) (w : World) (a : Option Addr) : Prop := ∀ x, a = some x → x.spot = none ∧ B x.block ∧ ∃ c t fr, w.heap[x.block]? = some (.cells c t fr) ∧ x.off ≤ c.size
section
variable {B : Nat → Prop} {w0 : World} {ρ : Rho} {A : AW} {w : World}
end
end Go.Abs
namespace Go.Abs
section
variable {P : Program} {A : AW} {K : Nat}
end
end Go.Abs
