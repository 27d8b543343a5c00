/- varint.Append. -/
import Derived.Test.YtioggedadamoaaaAbsO
import Derived.Test.YtioggedadamoaaaTiVh
set_option autoImplicit false
set_option linter.unusedVariables false
set_option linter.unusedSimpArgs false
namespace Go.Proofs.Ytioggedadamoaaa
open Go.Abs Go.RowKit
section
variable {pre : FuncId → Option (List Value → AW → Option (Value × AW))} {dr : CallF → Array Oper → Array Value → AW → Option (Array Value × AW)} {A : AW} {m : Nat}
def encL (ns : List Int) : List Int := ns.flatMap shortOf
theorem encL_succ {ns : List Int} {i : Nat} {n : Int} (h : ns[i]? = some n) : encL (ns.take (i + 1)) = encL (ns.take i) ++ shortOf n := by
  unfold encL
  rw [List.take_add_one, h]
  simp
theorem all_succ {ns : List Int} {i : Nat} {n : Int} {p : Int → Prop} (h : ns[i]? = some n) (hp : p n) (ha : ∀ x ∈ ns.take i, p x) : ∀ x ∈ ns.take (i + 1), p x := by
  intro x hx
  rw [List.take_add_one, h] at hx
  simp only [Option.toList_some, List.mem_append, List.mem_singleton] at hx
  rcases hx with hx | rfl
  · exact ha x hx
  · exact hp
theorem shortOf_le (n : Int) : (shortOf n).length ≤ 8 := by
  unfold shortOf
  rcases clsN_le n with h | h | h | h | h <;> rw [h] <;> simp [encC]
theorem f17_spec (hp : pre 17 = none) (hp25 : pre 25 = none) (hp27 : pre 27 = none) {vb vl : Value} {zs ns : List Int} (hb : RowV A vb zs) (hl : R64 A vl ns) (hnx : A.nx = none) (hsz : zs.length + 8 * ns.length ≤ 1073741824) (hsn : ns.length < 99999) :
    ∃ v' A', acall Try.prog pre dr 100000 (m + 1 + 1) 17 [vb, vl] A = some (v', A') ∧ (AExt A A' ∧ A'.nx = none ∧
      (((∀ n ∈ ns, clsN n < 4) ∧ ∃ w, v' = .tuple #[w, .int .i64 0] ∧ OutV A.size A' w (zs ++ encL ns)) ∨ ((∃ n ∈ ns, ¬ clsN n < 4) ∧ v' = .tuple #[.slice none 0 0, .int .i64 5]))) := by
  obtain ⟨al, capl, hvl⟩ := hl.form
  subst hvl
  refine J.fn (fn := Try.f17) hp Try.func17 rfl (bl rfl) ?_
  refine J.sr ?_
  refine EO.run 2 [0, 1, 4, 5] (S2 := [(0, vb), (1, .slice al ns.length capl), (4, .slice none 0 0), (5, .int .i64 0)]) (A2 := A) rfl (by kernel_rfl) ?_
  refine EO.done rfl ?_
  refine J.sr ?_
  refine EO.run 1 [0, 1, 4, 5, 12] (S2 := [(0, vb), (1, .slice al ns.length capl), (4, .slice none 0 0), (5, .int .i64 0), (12, vb)]) (A2 := A) rfl (by kernel_rfl) ?_
  obtain ⟨w0, A1, hA1, hO1, hx1, hn1⟩ := append_nil_out (P := Try.prog) (ats := #[22, 22]) (fun _ _ => by kernel_rfl) hb (by omega) hnx
  refine EO.append (v := .slice none 0 0) (u := vb) (w := w0) (A1 := A1) rfl rfl rfl rfl rfl (by kernel_rfl) (by kernel_rfl) (by kernel_rfl) hA1 ?_
  refine EO.run 3 [0, 1, 4, 5, 6] (S2 := [(0, vb), (1, .slice al ns.length capl), (4, .slice none 0 0), (5, .int .i64 0), (6, w0)]) (A2 := A1) rfl (by kernel_rfl) ?_
  refine EO.done rfl ?_
  refine J.seq ?_
  refine J.sr ?_
  refine EO.run 3 [0, 1, 4, 5, 6, 14, 15, 16] (S2 := [(0, vb), (1, .slice al ns.length capl), (4, .slice none 0 0), (5, .int .i64 0), (6, w0), (14, .slice al ns.length capl), (15, nI ns.length), (16, .int .i64 0)]) (A2 := A1) rfl (by kernel_rfl) ?_
  refine EO.done rfl ?_
  refine J.block ?_
  refine J.loopI (fun k S A' => ∃ (i : Nat) (w : Value) (zc : List Int), i + k = ns.length + 1 ∧ i ≤ ns.length ∧ (∀ n ∈ ns.take i, clsN n < 4) ∧ zc = zs ++ encL (ns.take i) ∧ zc.length ≤ zs.length + 8 * i ∧ OutV A.size A' w zc ∧ AExt A A' ∧ A'.nx = none ∧ S = [(0, vb), (1, .slice al ns.length capl), (4, .slice none 0 0), (5, .int .i64 0), (6, w), (14, .slice al ns.length capl), (15, .int .i64 ((ns.length : Nat) : Int)), (16, .int .i64 ((i : Nat) : Int))]) (ns.length + 1) (by omega) ⟨0, w0, zs, by omega, Nat.zero_le _, by simp, by simp [encL], by omega, hO1, hx1, hn1, rfl⟩ ?_ ?_
  rotate_left
  · rintro S A ⟨i, _, _, q1, q2, _⟩; omega
  rintro k S A2 ⟨i, w, zc, q1, q2, q3, q4, q5, hO, hx, hn, hS⟩
  obtain ⟨aw, capw, hw⟩ := hO.rowV.form
  subst hw
  subst hS
  refine J.sr ?_
  refine EO.run 1 [0, 1, 4, 5, 6, 14, 15, 16, 17] (S2 := [(0, vb), (1, .slice al ns.length capl), (4, .slice none 0 0), (5, .int .i64 0), (6, .slice aw zc.length capw), (14, .slice al ns.length capl), (15, nI ns.length), (16, nI i), (17, bLt i ns.length)]) (A2 := A2) rfl (by kernel_rfl) ?_
  refine EO.done rfl ?_
  refine J.seq ?_
  refine J.cond (decide (((i : Nat) : Int) < ((ns.length : Nat) : Int))) (by kernel_rfl) (fun h1 => ?_) (fun h1 => ?_)
  ·
    refine J.skip ?_
    refine thenJ_n ?_
    refine J.seq ?_
    refine J.block ?_
    refine J.sr ?_
    have q6 : i < ns.length := by have := of_decide_eq_true h1; omega
    obtain ⟨n, hnn⟩ : ∃ n, ns[i]? = some n := ⟨_, List.getElem?_eq_getElem q6⟩
    obtain ⟨ad, hi1, hi2⟩ := (hl.ext hx).load (P := Try.prog) (t := 24) (st := 34) (e := 24) (by kernel_rfl) (by kernel_rfl) (by kernel_rfl) hnn
    have hn0 := hl.1 n (List.mem_of_getElem? hnn)
    refine EO.index (v := .slice al ns.length capl) (u := .int .i64 (Int.ofNat i)) (w := .pointer (some ad)) rfl rfl rfl (by kernel_rfl) (by kernel_rfl) (by kernel_rfl) hi1 ?_
    refine EO.load (ad := ad) (w := .int .u64 n) rfl rfl rfl (by kernel_rfl) (by kernel_rfl) hi2 ?_
    refine EO.run 3 [0, 1, 4, 5, 6, 8, 14, 15, 16, 17] (S2 := [(0, vb), (1, .slice al ns.length capl), (4, .slice none 0 0), (5, .int .i64 0), (6, .slice aw zc.length capw), (8, .int .u64 n), (14, .slice al ns.length capl), (15, nI ns.length), (16, nI i), (17, bLt i ns.length)]) (A2 := A2) rfl (by kernel_rfl) ?_
    refine EO.done rfl ?_
    refine J.sr ?_
    refine EO.run 1 [0, 1, 4, 5, 6, 8, 14, 15, 16, 17, 20] (S2 := [(0, vb), (1, .slice al ns.length capl), (4, .slice none 0 0), (5, .int .i64 0), (6, .slice aw zc.length capw), (8, .int .u64 n), (14, .slice al ns.length capl), (15, nI ns.length), (16, nI i), (17, bLt i ns.length), (20, .int .u64 n)]) (A2 := A2) rfl (by kernel_rfl) ?_
    have e27 := f27_spec_eq (pre := pre) (dr := dr) (A := A2) (m := m) hp27 n
    rw [classOf_eq] at e27
    rcases clsN_le n with hc | hc | hc | hc | hc
    · rw [hc] at e27
      have hsh : shortOf n = [n % 256 + 0] := by unfold shortOf; rw [hc]; rfl
      have hin := (clsN_in hn0.1 hc (by decide)).2
      have hin2 : n < 64 := hin
      refine EO.fcall (f := 27) (vs := [.int .u64 n]) (v := .int .i64 0) (A1 := A2) rfl rfl rfl rfl (by kernel_rfl) (by kernel_rfl) e27 ?_
      refine EO.run 3 [0, 1, 4, 5, 6, 8, 9, 14, 15, 16, 17] (S2 := [(0, vb), (1, .slice al ns.length capl), (4, .slice none 0 0), (5, .int .i64 0), (6, .slice aw zc.length capw), (8, .int .u64 n), (9, .int .i64 0), (14, .slice al ns.length capl), (15, nI ns.length), (16, nI i), (17, bLt i ns.length)]) (A2 := A2) rfl (by kernel_rfl) ?_
      refine EO.done rfl ?_
      refine J.seq ?_
      refine J.sr ?_
      refine EO.run 2 [0, 1, 4, 5, 6, 8, 9, 14, 15, 16, 17, 23] (S2 := [(0, vb), (1, .slice al ns.length capl), (4, .slice none 0 0), (5, .int .i64 0), (6, .slice aw zc.length capw), (8, .int .u64 n), (9, .int .i64 0), (14, .slice al ns.length capl), (15, nI ns.length), (16, nI i), (17, bLt i ns.length), (23, .bool false)]) (A2 := A2) rfl (by kernel_rfl) ?_
      refine EO.done rfl ?_
      refine J.cond false (by kernel_rfl) (fun h => Bool.noConfusion h) (fun _ => ?_)
      refine J.skip ?_
      refine thenJ_n ?_
      refine J.sr ?_
      refine EO.run 3 [0, 1, 4, 5, 6, 8, 9, 10, 14, 15, 16, 17, 23] (S2 := [(0, vb), (1, .slice al ns.length capl), (4, .slice none 0 0), (5, .int .i64 0), (6, .slice aw zc.length capw), (8, .int .u64 n), (9, .int .i64 0), (10, nI zc.length), (14, .slice al ns.length capl), (15, nI ns.length), (16, nI i), (17, bLt i ns.length), (23, .bool false)]) (A2 := A2) rfl (by kernel_rfl) ?_
      refine EO.done rfl ?_
      refine J.seq ?_
      refine J.sr ?_
      refine EO.run 1 [0, 1, 4, 5, 6, 8, 9, 10, 14, 15, 16, 17, 23, 26] (S2 := [(0, vb), (1, .slice al ns.length capl), (4, .slice none 0 0), (5, .int .i64 0), (6, .slice aw zc.length capw), (8, .int .u64 n), (9, .int .i64 0), (10, nI zc.length), (14, .slice al ns.length capl), (15, nI ns.length), (16, nI i), (17, bLt i ns.length), (23, .bool false), (26, .int .i64 0)]) (A2 := A2) rfl (by kernel_rfl) ?_
      refine EO.fcall (f := 25) (vs := [.int .i64 0]) (v := .int .i64 1) (A1 := A2) rfl rfl rfl rfl (by kernel_rfl) (by kernel_rfl) (f25_spec_eq hp25 0 (by decide)) ?_
      refine EO.run 4 [0, 1, 4, 5, 6, 8, 9, 10, 11, 14, 15, 16, 17, 23] (S2 := [(0, vb), (1, .slice al ns.length capl), (4, .slice none 0 0), (5, .int .i64 0), (6, .slice aw zc.length capw), (8, .int .u64 n), (9, .int .i64 0), (10, nI zc.length), (11, .int .i64 0), (14, .slice al ns.length capl), (15, nI ns.length), (16, nI i), (17, bLt i ns.length), (23, .bool false)]) (A2 := A2) rfl (by kernel_rfl) ?_
      refine EO.done rfl ?_
      refine J.block ?_
      refine J.unroll ?_
      refine JL.step ?_
      refine J.seq ?_
      refine J.sr ?_
      refine EO.run 2 [0, 1, 4, 5, 6, 8, 9, 10, 11, 14, 15, 16, 17, 23, 30] (S2 := [(0, vb), (1, .slice al ns.length capl), (4, .slice none 0 0), (5, .int .i64 0), (6, .slice aw zc.length capw), (8, .int .u64 n), (9, .int .i64 0), (10, nI zc.length), (11, .int .i64 0), (14, .slice al ns.length capl), (15, nI ns.length), (16, nI i), (17, bLt i ns.length), (23, .bool false), (30, .bool true)]) (A2 := A2) rfl (by kernel_rfl) ?_
      refine EO.done rfl ?_
      refine J.cond true (by kernel_rfl) (fun _ => ?_) (fun h => Bool.noConfusion h)
      refine J.skip ?_
      refine thenJ_n ?_
      refine J.seq ?_
      refine J.block ?_
      refine J.region ?_
      refine EO.run 6 [0, 1, 4, 5, 6, 8, 9, 10, 11, 14, 15, 16, 17, 23, 30, 33, 38] (S2 := [(0, vb), (1, .slice al ns.length capl), (4, .slice none 0 0), (5, .int .i64 0), (6, .slice aw zc.length capw), (8, .int .u64 n), (9, .int .i64 0), (10, nI zc.length), (11, .int .i64 0), (14, .slice al ns.length capl), (15, nI ns.length), (16, nI i), (17, bLt i ns.length), (23, .bool false), (30, .bool true), (33, .slice aw zc.length capw), (38, .int .u8 (IntKind.wrap .u8 (sShr .u64 n 0)))]) (A2 := A2) rfl (by kernel_rfl) ?_
      refine EO.cast (S2 := [(0, vb), (1, .slice al ns.length capl), (4, .slice none 0 0), (5, .int .i64 0), (6, .slice aw zc.length capw), (8, .int .u64 n), (9, .int .i64 0), (10, nI zc.length), (11, .int .i64 0), (14, .slice al ns.length capl), (15, nI ns.length), (16, nI i), (17, bLt i ns.length), (23, .bool false), (30, .bool true), (33, .slice aw zc.length capw), (38, .int .u8 (n % 256))]) (by rw [shr_b0]) ?_
      obtain ⟨B1, hB1, hxB1, hnB1, hrB1⟩ := new_one (A := A2) hn (n % 256) (by omega)
      refine EO.run 7 [0, 1, 4, 5, 6, 8, 9, 10, 11, 14, 15, 16, 17, 23, 30, 33, 38, 39] (S2 := [(0, vb), (1, .slice al ns.length capl), (4, .slice none 0 0), (5, .int .i64 0), (6, .slice aw zc.length capw), (8, .int .u64 n), (9, .int .i64 0), (10, nI zc.length), (11, .int .i64 0), (14, .slice al ns.length capl), (15, nI ns.length), (16, nI i), (17, bLt i ns.length), (23, .bool false), (30, .bool true), (33, .slice aw zc.length capw), (38, .int .u8 (n % 256)), (39, .slice (some ⟨A2.nid, 0, none⟩) 1 1)]) (A2 := A2.push (.cells (u8s [n % 256]) false false 1)) rfl (by kernel_rfl) ?_
      rw [hB1]
      obtain ⟨w1, C1, hC1, hP1, hk1⟩ := OutV.app (P := Try.prog) (ats := #[22, 22]) (fun _ _ => by kernel_rfl) (hO.ext hxB1) hrB1 (by simp) (by simp only [List.length_append, List.length_cons, List.length_nil] at *; omega) (hx.trans hxB1).size hnB1
      refine EO.append (v := .slice aw zc.length capw) (u := .slice (some ⟨A2.nid, 0, none⟩) 1 1) (w := w1) (A1 := C1) rfl rfl rfl rfl rfl (by kernel_rfl) (by kernel_rfl) (by kernel_rfl) hC1 ?_
      have hO1 : OutV A.size C1 w1 (zc ++ [n % 256]) := hP1
      have hx1' := (hx.trans hxB1).ak hk1
      refine EO.run 9 [0, 1, 4, 5, 6, 8, 9, 10, 11, 14, 15, 16, 17, 23, 30] (S2 := [(0, vb), (1, .slice al ns.length capl), (4, .slice none 0 0), (5, .int .i64 0), (6, w1), (8, .int .u64 n), (9, .int .i64 0), (10, nI zc.length), (11, .int .i64 0), (14, .slice al ns.length capl), (15, nI ns.length), (16, nI i), (17, bLt i ns.length), (23, .bool false), (30, .bool true)]) (A2 := C1) rfl (by kernel_rfl) ?_
      refine EO.done rfl ?_
      refine blockQ_n ?_
      refine thenJ_n ?_
      refine J.region ?_
      refine EO.run 3 [0, 1, 4, 5, 6, 8, 9, 10, 11, 14, 15, 16, 17, 23, 30] (S2 := [(0, vb), (1, .slice al ns.length capl), (4, .slice none 0 0), (5, .int .i64 0), (6, w1), (8, .int .u64 n), (9, .int .i64 0), (10, nI zc.length), (11, .int .i64 (-1)), (14, .slice al ns.length capl), (15, nI ns.length), (16, nI i), (17, bLt i ns.length), (23, .bool false), (30, .bool true)]) (A2 := C1) rfl (by kernel_rfl) ?_
      refine EO.done rfl ?_
      refine loopQ_n ?_
      refine JL.step ?_
      refine J.seq ?_
      refine J.sr ?_
      refine EO.run 2 [0, 1, 4, 5, 6, 8, 9, 10, 11, 14, 15, 16, 17, 23, 30] (S2 := [(0, vb), (1, .slice al ns.length capl), (4, .slice none 0 0), (5, .int .i64 0), (6, w1), (8, .int .u64 n), (9, .int .i64 0), (10, nI zc.length), (11, .int .i64 (-1)), (14, .slice al ns.length capl), (15, nI ns.length), (16, nI i), (17, bLt i ns.length), (23, .bool false), (30, .bool false)]) (A2 := C1) rfl (by kernel_rfl) ?_
      refine EO.done rfl ?_
      refine J.cond false (by kernel_rfl) (fun h => Bool.noConfusion h) (fun _ => ?_)
      refine J.exit ?_
      refine thenJ_e ?_
      refine loopQ_e ?_
      refine blockQ_hit ?_
      refine thenJ_n ?_
      obtain ⟨b2, hw2, _, hOwn2⟩ := hO1.at_ (by simp)
      subst hw2
      refine J.region ?_
      refine EO.run 2 [0, 1, 4, 5, 6, 8, 9, 10, 11, 14, 15, 16, 17, 23, 30, 41, 42] (S2 := [(0, vb), (1, .slice al ns.length capl), (4, .slice none 0 0), (5, .int .i64 0), (6, .slice (some ⟨b2, 0, none⟩) ((zc ++ [n % 256]).length) ((zc ++ [n % 256]).length)), (8, .int .u64 n), (9, .int .i64 0), (10, nI zc.length), (11, .int .i64 (-1)), (14, .slice al ns.length capl), (15, nI ns.length), (16, nI i), (17, bLt i ns.length), (23, .bool false), (30, .bool false), (41, .slice (some ⟨b2, 0, none⟩) ((zc ++ [n % 256]).length) ((zc ++ [n % 256]).length)), (42, nI zc.length)]) (A2 := C1) rfl (by kernel_rfl) ?_
      refine EO.index (v := .slice (some ⟨b2, 0, none⟩) ((zc ++ [n % 256]).length) ((zc ++ [n % 256]).length)) (u := .int .i64 (Int.ofNat zc.length)) (w := .pointer (some ⟨b2, 0 + zc.length * 1, none⟩)) rfl rfl rfl (by kernel_rfl) (by kernel_rfl) (by kernel_rfl) (aindexAddr_slice (elem := 5) (size := 1) (by kernel_rfl) (by kernel_rfl) (by simp)) ?_
      refine EO.load (ad := ⟨b2, 0 + zc.length * 1, none⟩) (w := .int .u8 (n % 256)) rfl rfl rfl (by kernel_rfl) (by kernel_rfl) (hOwn2.row.load (by kernel_rfl) (by rw [List.getElem?_append_right (Nat.le_refl _)]; simp)) ?_
      refine EO.run 8 [0, 1, 4, 5, 6, 8, 9, 10, 11, 14, 15, 16, 17, 23, 30, 41, 42, 48] (S2 := [(0, vb), (1, .slice al ns.length capl), (4, .slice none 0 0), (5, .int .i64 0), (6, .slice (some ⟨b2, 0, none⟩) ((zc ++ [n % 256]).length) ((zc ++ [n % 256]).length)), (8, .int .u64 n), (9, .int .i64 0), (10, nI zc.length), (11, .int .i64 (-1)), (14, .slice al ns.length capl), (15, nI ns.length), (16, nI i), (17, bLt i ns.length), (23, .bool false), (30, .bool false), (41, .slice (some ⟨b2, 0, none⟩) ((zc ++ [n % 256]).length) ((zc ++ [n % 256]).length)), (42, nI zc.length), (48, .int .u8 (bOr .u8 (n % 256) 0))]) (A2 := C1) rfl (by kernel_rfl) ?_
      refine EO.cast (S2 := [(0, vb), (1, .slice al ns.length capl), (4, .slice none 0 0), (5, .int .i64 0), (6, .slice (some ⟨b2, 0, none⟩) ((zc ++ [n % 256]).length) ((zc ++ [n % 256]).length)), (8, .int .u64 n), (9, .int .i64 0), (10, nI zc.length), (11, .int .i64 (-1)), (14, .slice al ns.length capl), (15, nI ns.length), (16, nI i), (17, bLt i ns.length), (23, .bool false), (30, .bool false), (41, .slice (some ⟨b2, 0, none⟩) ((zc ++ [n % 256]).length) ((zc ++ [n % 256]).length)), (42, nI zc.length), (48, .int .u8 (n % 256 + 0))]) (by rw [show bOr .u8 (n % 256) 0 = n % 256 + 0 from or_top (by omega) (by omega) 0 (by decide)]) ?_
      refine EO.index (v := .slice (some ⟨b2, 0, none⟩) ((zc ++ [n % 256]).length) ((zc ++ [n % 256]).length)) (u := .int .i64 (Int.ofNat zc.length)) (w := .pointer (some ⟨b2, 0 + zc.length * 1, none⟩)) rfl rfl rfl (by kernel_rfl) (by kernel_rfl) (by kernel_rfl) (aindexAddr_slice (elem := 5) (size := 1) (by kernel_rfl) (by kernel_rfl) (by simp)) ?_
      obtain ⟨D3, hst3, hOs3, hks3⟩ := hO1.store (P := Try.prog) hk1.nx (t := 5) (by kernel_rfl) (y := n % 256 + 0) (by omega)
      refine EO.store (ad := ⟨b2, 0 + zc.length * 1, none⟩) (u := .int .u8 (n % 256 + 0)) (A1 := D3) rfl rfl rfl (by kernel_rfl) (by kernel_rfl) (by kernel_rfl) hst3 ?_
      refine EO.done rfl ?_
      refine blockQ_n ?_
      refine thenJ_n ?_
      refine J.region ?_
      refine EO.run 1 [0, 1, 4, 5, 6, 8, 9, 10, 11, 14, 15, 16, 17, 23, 30, 41, 42, 48, 49, 50] (S2 := [(0, vb), (1, .slice al ns.length capl), (4, .slice none 0 0), (5, .int .i64 0), (6, .slice (some ⟨b2, 0, none⟩) ((zc ++ [n % 256]).length) ((zc ++ [n % 256]).length)), (8, .int .u64 n), (9, .int .i64 0), (10, nI zc.length), (11, .int .i64 (-1)), (14, .slice al ns.length capl), (15, nI ns.length), (16, nI i), (17, bLt i ns.length), (23, .bool false), (30, .bool false), (41, .slice (some ⟨b2, 0, none⟩) ((zc ++ [n % 256]).length) ((zc ++ [n % 256]).length)), (42, nI zc.length), (48, .int .u8 (n % 256 + 0)), (49, .pointer (some ⟨b2, 0 + zc.length * 1, none⟩)), (50, .int .i64 (IntKind.wrap .i64 (((i : Nat) : Int) + 1)))]) (A2 := D3) rfl (by kernel_rfl) ?_
      refine EO.cast (S2 := [(0, vb), (1, .slice al ns.length capl), (4, .slice none 0 0), (5, .int .i64 0), (6, .slice (some ⟨b2, 0, none⟩) ((zc ++ [n % 256]).length) ((zc ++ [n % 256]).length)), (8, .int .u64 n), (9, .int .i64 0), (10, nI zc.length), (11, .int .i64 (-1)), (14, .slice al ns.length capl), (15, nI ns.length), (16, nI i), (17, bLt i ns.length), (23, .bool false), (30, .bool false), (41, .slice (some ⟨b2, 0, none⟩) ((zc ++ [n % 256]).length) ((zc ++ [n % 256]).length)), (42, nI zc.length), (48, .int .u8 (n % 256 + 0)), (49, .pointer (some ⟨b2, 0 + zc.length * 1, none⟩)), (50, .int .i64 ((i + 1 : Nat) : Int))]) (by rw [show (IntKind.wrap .i64 (((i : Nat) : Int) + 1) : Int) = ((i + 1 : Nat) : Int) from by rw [wrap_i64 (by omega) (by omega)]; omega]) ?_
      refine EO.run 2 [0, 1, 4, 5, 6, 14, 15, 16] (S2 := [(0, vb), (1, .slice al ns.length capl), (4, .slice none 0 0), (5, .int .i64 0), (6, .slice (some ⟨b2, 0, none⟩) ((zc ++ [n % 256]).length) ((zc ++ [n % 256]).length)), (14, .slice al ns.length capl), (15, nI ns.length), (16, .int .i64 ((i + 1 : Nat) : Int))]) (A2 := D3) rfl (by kernel_rfl) ?_
      refine EO.done rfl ?_
      refine loopI_n ?_
      exact ⟨i + 1, _, _, by omega, by omega, all_succ hnn (by rw [hc]; decide) q3, by rw [q4, encL_succ hnn, hsh, List.append_assoc], by simp only [List.length_append, List.length_cons, List.length_nil] at *; omega, hOs3, (hx1'.ak hks3), hks3.nx, rfl⟩
    · rw [hc] at e27
      have hsh : shortOf n = [n / 256 % 256 + 64, n % 256] := by unfold shortOf; rw [hc]; rfl
      have hin := (clsN_in hn0.1 hc (by decide)).2
      have hin2 : n < 16384 := hin
      refine EO.fcall (f := 27) (vs := [.int .u64 n]) (v := .int .i64 1) (A1 := A2) rfl rfl rfl rfl (by kernel_rfl) (by kernel_rfl) e27 ?_
      refine EO.run 3 [0, 1, 4, 5, 6, 8, 9, 14, 15, 16, 17] (S2 := [(0, vb), (1, .slice al ns.length capl), (4, .slice none 0 0), (5, .int .i64 0), (6, .slice aw zc.length capw), (8, .int .u64 n), (9, .int .i64 1), (14, .slice al ns.length capl), (15, nI ns.length), (16, nI i), (17, bLt i ns.length)]) (A2 := A2) rfl (by kernel_rfl) ?_
      refine EO.done rfl ?_
      refine J.seq ?_
      refine J.sr ?_
      refine EO.run 2 [0, 1, 4, 5, 6, 8, 9, 14, 15, 16, 17, 23] (S2 := [(0, vb), (1, .slice al ns.length capl), (4, .slice none 0 0), (5, .int .i64 0), (6, .slice aw zc.length capw), (8, .int .u64 n), (9, .int .i64 1), (14, .slice al ns.length capl), (15, nI ns.length), (16, nI i), (17, bLt i ns.length), (23, .bool false)]) (A2 := A2) rfl (by kernel_rfl) ?_
      refine EO.done rfl ?_
      refine J.cond false (by kernel_rfl) (fun h => Bool.noConfusion h) (fun _ => ?_)
      refine J.skip ?_
      refine thenJ_n ?_
      refine J.sr ?_
      refine EO.run 3 [0, 1, 4, 5, 6, 8, 9, 10, 14, 15, 16, 17, 23] (S2 := [(0, vb), (1, .slice al ns.length capl), (4, .slice none 0 0), (5, .int .i64 0), (6, .slice aw zc.length capw), (8, .int .u64 n), (9, .int .i64 1), (10, nI zc.length), (14, .slice al ns.length capl), (15, nI ns.length), (16, nI i), (17, bLt i ns.length), (23, .bool false)]) (A2 := A2) rfl (by kernel_rfl) ?_
      refine EO.done rfl ?_
      refine J.seq ?_
      refine J.sr ?_
      refine EO.run 1 [0, 1, 4, 5, 6, 8, 9, 10, 14, 15, 16, 17, 23, 26] (S2 := [(0, vb), (1, .slice al ns.length capl), (4, .slice none 0 0), (5, .int .i64 0), (6, .slice aw zc.length capw), (8, .int .u64 n), (9, .int .i64 1), (10, nI zc.length), (14, .slice al ns.length capl), (15, nI ns.length), (16, nI i), (17, bLt i ns.length), (23, .bool false), (26, .int .i64 1)]) (A2 := A2) rfl (by kernel_rfl) ?_
      refine EO.fcall (f := 25) (vs := [.int .i64 1]) (v := .int .i64 2) (A1 := A2) rfl rfl rfl rfl (by kernel_rfl) (by kernel_rfl) (f25_spec_eq hp25 1 (by decide)) ?_
      refine EO.run 4 [0, 1, 4, 5, 6, 8, 9, 10, 11, 14, 15, 16, 17, 23] (S2 := [(0, vb), (1, .slice al ns.length capl), (4, .slice none 0 0), (5, .int .i64 0), (6, .slice aw zc.length capw), (8, .int .u64 n), (9, .int .i64 1), (10, nI zc.length), (11, .int .i64 1), (14, .slice al ns.length capl), (15, nI ns.length), (16, nI i), (17, bLt i ns.length), (23, .bool false)]) (A2 := A2) rfl (by kernel_rfl) ?_
      refine EO.done rfl ?_
      refine J.block ?_
      refine J.unroll ?_
      refine JL.step ?_
      refine J.seq ?_
      refine J.sr ?_
      refine EO.run 2 [0, 1, 4, 5, 6, 8, 9, 10, 11, 14, 15, 16, 17, 23, 30] (S2 := [(0, vb), (1, .slice al ns.length capl), (4, .slice none 0 0), (5, .int .i64 0), (6, .slice aw zc.length capw), (8, .int .u64 n), (9, .int .i64 1), (10, nI zc.length), (11, .int .i64 1), (14, .slice al ns.length capl), (15, nI ns.length), (16, nI i), (17, bLt i ns.length), (23, .bool false), (30, .bool true)]) (A2 := A2) rfl (by kernel_rfl) ?_
      refine EO.done rfl ?_
      refine J.cond true (by kernel_rfl) (fun _ => ?_) (fun h => Bool.noConfusion h)
      refine J.skip ?_
      refine thenJ_n ?_
      refine J.seq ?_
      refine J.block ?_
      refine J.region ?_
      refine EO.run 6 [0, 1, 4, 5, 6, 8, 9, 10, 11, 14, 15, 16, 17, 23, 30, 33, 38] (S2 := [(0, vb), (1, .slice al ns.length capl), (4, .slice none 0 0), (5, .int .i64 0), (6, .slice aw zc.length capw), (8, .int .u64 n), (9, .int .i64 1), (10, nI zc.length), (11, .int .i64 1), (14, .slice al ns.length capl), (15, nI ns.length), (16, nI i), (17, bLt i ns.length), (23, .bool false), (30, .bool true), (33, .slice aw zc.length capw), (38, .int .u8 (IntKind.wrap .u8 (sShr .u64 n 8)))]) (A2 := A2) rfl (by kernel_rfl) ?_
      refine EO.cast (S2 := [(0, vb), (1, .slice al ns.length capl), (4, .slice none 0 0), (5, .int .i64 0), (6, .slice aw zc.length capw), (8, .int .u64 n), (9, .int .i64 1), (10, nI zc.length), (11, .int .i64 1), (14, .slice al ns.length capl), (15, nI ns.length), (16, nI i), (17, bLt i ns.length), (23, .bool false), (30, .bool true), (33, .slice aw zc.length capw), (38, .int .u8 (n / 256 % 256))]) (by rw [shr_b1]) ?_
      obtain ⟨B4, hB4, hxB4, hnB4, hrB4⟩ := new_one (A := A2) hn (n / 256 % 256) (by omega)
      refine EO.run 7 [0, 1, 4, 5, 6, 8, 9, 10, 11, 14, 15, 16, 17, 23, 30, 33, 38, 39] (S2 := [(0, vb), (1, .slice al ns.length capl), (4, .slice none 0 0), (5, .int .i64 0), (6, .slice aw zc.length capw), (8, .int .u64 n), (9, .int .i64 1), (10, nI zc.length), (11, .int .i64 1), (14, .slice al ns.length capl), (15, nI ns.length), (16, nI i), (17, bLt i ns.length), (23, .bool false), (30, .bool true), (33, .slice aw zc.length capw), (38, .int .u8 (n / 256 % 256)), (39, .slice (some ⟨A2.nid, 0, none⟩) 1 1)]) (A2 := A2.push (.cells (u8s [n / 256 % 256]) false false 1)) rfl (by kernel_rfl) ?_
      rw [hB4]
      obtain ⟨w4, C4, hC4, hP4, hk4⟩ := OutV.app (P := Try.prog) (ats := #[22, 22]) (fun _ _ => by kernel_rfl) (hO.ext hxB4) hrB4 (by simp) (by simp only [List.length_append, List.length_cons, List.length_nil] at *; omega) (hx.trans hxB4).size hnB4
      refine EO.append (v := .slice aw zc.length capw) (u := .slice (some ⟨A2.nid, 0, none⟩) 1 1) (w := w4) (A1 := C4) rfl rfl rfl rfl rfl (by kernel_rfl) (by kernel_rfl) (by kernel_rfl) hC4 ?_
      have hO4 : OutV A.size C4 w4 (zc ++ [n / 256 % 256]) := hP4
      have hx4' := (hx.trans hxB4).ak hk4
      refine EO.run 9 [0, 1, 4, 5, 6, 8, 9, 10, 11, 14, 15, 16, 17, 23, 30] (S2 := [(0, vb), (1, .slice al ns.length capl), (4, .slice none 0 0), (5, .int .i64 0), (6, w4), (8, .int .u64 n), (9, .int .i64 1), (10, nI zc.length), (11, .int .i64 1), (14, .slice al ns.length capl), (15, nI ns.length), (16, nI i), (17, bLt i ns.length), (23, .bool false), (30, .bool true)]) (A2 := C4) rfl (by kernel_rfl) ?_
      refine EO.done rfl ?_
      refine blockQ_n ?_
      refine thenJ_n ?_
      refine J.region ?_
      refine EO.run 3 [0, 1, 4, 5, 6, 8, 9, 10, 11, 14, 15, 16, 17, 23, 30] (S2 := [(0, vb), (1, .slice al ns.length capl), (4, .slice none 0 0), (5, .int .i64 0), (6, w4), (8, .int .u64 n), (9, .int .i64 1), (10, nI zc.length), (11, .int .i64 0), (14, .slice al ns.length capl), (15, nI ns.length), (16, nI i), (17, bLt i ns.length), (23, .bool false), (30, .bool true)]) (A2 := C4) rfl (by kernel_rfl) ?_
      refine EO.done rfl ?_
      refine loopQ_n ?_
      refine JL.step ?_
      refine J.seq ?_
      refine J.sr ?_
      refine EO.run 2 [0, 1, 4, 5, 6, 8, 9, 10, 11, 14, 15, 16, 17, 23, 30] (S2 := [(0, vb), (1, .slice al ns.length capl), (4, .slice none 0 0), (5, .int .i64 0), (6, w4), (8, .int .u64 n), (9, .int .i64 1), (10, nI zc.length), (11, .int .i64 0), (14, .slice al ns.length capl), (15, nI ns.length), (16, nI i), (17, bLt i ns.length), (23, .bool false), (30, .bool true)]) (A2 := C4) rfl (by kernel_rfl) ?_
      refine EO.done rfl ?_
      refine J.cond true (by kernel_rfl) (fun _ => ?_) (fun h => Bool.noConfusion h)
      refine J.skip ?_
      refine thenJ_n ?_
      refine J.seq ?_
      refine J.block ?_
      refine J.region ?_
      refine EO.run 6 [0, 1, 4, 5, 6, 8, 9, 10, 11, 14, 15, 16, 17, 23, 30, 33, 38] (S2 := [(0, vb), (1, .slice al ns.length capl), (4, .slice none 0 0), (5, .int .i64 0), (6, w4), (8, .int .u64 n), (9, .int .i64 1), (10, nI zc.length), (11, .int .i64 0), (14, .slice al ns.length capl), (15, nI ns.length), (16, nI i), (17, bLt i ns.length), (23, .bool false), (30, .bool true), (33, w4), (38, .int .u8 (IntKind.wrap .u8 (sShr .u64 n 0)))]) (A2 := C4) rfl (by kernel_rfl) ?_
      refine EO.cast (S2 := [(0, vb), (1, .slice al ns.length capl), (4, .slice none 0 0), (5, .int .i64 0), (6, w4), (8, .int .u64 n), (9, .int .i64 1), (10, nI zc.length), (11, .int .i64 0), (14, .slice al ns.length capl), (15, nI ns.length), (16, nI i), (17, bLt i ns.length), (23, .bool false), (30, .bool true), (33, w4), (38, .int .u8 (n % 256))]) (by rw [shr_b0]) ?_
      obtain ⟨B5, hB5, hxB5, hnB5, hrB5⟩ := new_one (A := C4) hk4.nx (n % 256) (by omega)
      refine EO.run 7 [0, 1, 4, 5, 6, 8, 9, 10, 11, 14, 15, 16, 17, 23, 30, 33, 38, 39] (S2 := [(0, vb), (1, .slice al ns.length capl), (4, .slice none 0 0), (5, .int .i64 0), (6, w4), (8, .int .u64 n), (9, .int .i64 1), (10, nI zc.length), (11, .int .i64 0), (14, .slice al ns.length capl), (15, nI ns.length), (16, nI i), (17, bLt i ns.length), (23, .bool false), (30, .bool true), (33, w4), (38, .int .u8 (n % 256)), (39, .slice (some ⟨C4.nid, 0, none⟩) 1 1)]) (A2 := C4.push (.cells (u8s [n % 256]) false false 1)) rfl (by kernel_rfl) ?_
      rw [hB5]
      obtain ⟨w5, C5, hC5, hP5, hk5⟩ := OutV.app (P := Try.prog) (ats := #[22, 22]) (fun _ _ => by kernel_rfl) (hO4.ext hxB5) hrB5 (by simp) (by simp only [List.length_append, List.length_cons, List.length_nil] at *; omega) (hx4'.trans hxB5).size hnB5
      refine EO.append (v := w4) (u := .slice (some ⟨C4.nid, 0, none⟩) 1 1) (w := w5) (A1 := C5) rfl rfl rfl rfl rfl (by kernel_rfl) (by kernel_rfl) (by kernel_rfl) hC5 ?_
      have hO5 : OutV A.size C5 w5 (zc ++ [n / 256 % 256, n % 256]) := by have hq := hP5; rw [List.append_assoc] at hq; exact hq
      have hx5' := (hx4'.trans hxB5).ak hk5
      refine EO.run 9 [0, 1, 4, 5, 6, 8, 9, 10, 11, 14, 15, 16, 17, 23, 30] (S2 := [(0, vb), (1, .slice al ns.length capl), (4, .slice none 0 0), (5, .int .i64 0), (6, w5), (8, .int .u64 n), (9, .int .i64 1), (10, nI zc.length), (11, .int .i64 0), (14, .slice al ns.length capl), (15, nI ns.length), (16, nI i), (17, bLt i ns.length), (23, .bool false), (30, .bool true)]) (A2 := C5) rfl (by kernel_rfl) ?_
      refine EO.done rfl ?_
      refine blockQ_n ?_
      refine thenJ_n ?_
      refine J.region ?_
      refine EO.run 3 [0, 1, 4, 5, 6, 8, 9, 10, 11, 14, 15, 16, 17, 23, 30] (S2 := [(0, vb), (1, .slice al ns.length capl), (4, .slice none 0 0), (5, .int .i64 0), (6, w5), (8, .int .u64 n), (9, .int .i64 1), (10, nI zc.length), (11, .int .i64 (-1)), (14, .slice al ns.length capl), (15, nI ns.length), (16, nI i), (17, bLt i ns.length), (23, .bool false), (30, .bool true)]) (A2 := C5) rfl (by kernel_rfl) ?_
      refine EO.done rfl ?_
      refine loopQ_n ?_
      refine JL.step ?_
      refine J.seq ?_
      refine J.sr ?_
      refine EO.run 2 [0, 1, 4, 5, 6, 8, 9, 10, 11, 14, 15, 16, 17, 23, 30] (S2 := [(0, vb), (1, .slice al ns.length capl), (4, .slice none 0 0), (5, .int .i64 0), (6, w5), (8, .int .u64 n), (9, .int .i64 1), (10, nI zc.length), (11, .int .i64 (-1)), (14, .slice al ns.length capl), (15, nI ns.length), (16, nI i), (17, bLt i ns.length), (23, .bool false), (30, .bool false)]) (A2 := C5) rfl (by kernel_rfl) ?_
      refine EO.done rfl ?_
      refine J.cond false (by kernel_rfl) (fun h => Bool.noConfusion h) (fun _ => ?_)
      refine J.exit ?_
      refine thenJ_e ?_
      refine loopQ_e ?_
      refine blockQ_hit ?_
      refine thenJ_n ?_
      obtain ⟨b6, hw6, _, hOwn6⟩ := hO5.at_ (by simp)
      subst hw6
      refine J.region ?_
      refine EO.run 2 [0, 1, 4, 5, 6, 8, 9, 10, 11, 14, 15, 16, 17, 23, 30, 41, 42] (S2 := [(0, vb), (1, .slice al ns.length capl), (4, .slice none 0 0), (5, .int .i64 0), (6, .slice (some ⟨b6, 0, none⟩) ((zc ++ [n / 256 % 256, n % 256]).length) ((zc ++ [n / 256 % 256, n % 256]).length)), (8, .int .u64 n), (9, .int .i64 1), (10, nI zc.length), (11, .int .i64 (-1)), (14, .slice al ns.length capl), (15, nI ns.length), (16, nI i), (17, bLt i ns.length), (23, .bool false), (30, .bool false), (41, .slice (some ⟨b6, 0, none⟩) ((zc ++ [n / 256 % 256, n % 256]).length) ((zc ++ [n / 256 % 256, n % 256]).length)), (42, nI zc.length)]) (A2 := C5) rfl (by kernel_rfl) ?_
      refine EO.index (v := .slice (some ⟨b6, 0, none⟩) ((zc ++ [n / 256 % 256, n % 256]).length) ((zc ++ [n / 256 % 256, n % 256]).length)) (u := .int .i64 (Int.ofNat zc.length)) (w := .pointer (some ⟨b6, 0 + zc.length * 1, none⟩)) rfl rfl rfl (by kernel_rfl) (by kernel_rfl) (by kernel_rfl) (aindexAddr_slice (elem := 5) (size := 1) (by kernel_rfl) (by kernel_rfl) (by simp)) ?_
      refine EO.load (ad := ⟨b6, 0 + zc.length * 1, none⟩) (w := .int .u8 (n / 256 % 256)) rfl rfl rfl (by kernel_rfl) (by kernel_rfl) (hOwn6.row.load (by kernel_rfl) (by rw [List.getElem?_append_right (Nat.le_refl _)]; simp)) ?_
      refine EO.run 8 [0, 1, 4, 5, 6, 8, 9, 10, 11, 14, 15, 16, 17, 23, 30, 41, 42, 48] (S2 := [(0, vb), (1, .slice al ns.length capl), (4, .slice none 0 0), (5, .int .i64 0), (6, .slice (some ⟨b6, 0, none⟩) ((zc ++ [n / 256 % 256, n % 256]).length) ((zc ++ [n / 256 % 256, n % 256]).length)), (8, .int .u64 n), (9, .int .i64 1), (10, nI zc.length), (11, .int .i64 (-1)), (14, .slice al ns.length capl), (15, nI ns.length), (16, nI i), (17, bLt i ns.length), (23, .bool false), (30, .bool false), (41, .slice (some ⟨b6, 0, none⟩) ((zc ++ [n / 256 % 256, n % 256]).length) ((zc ++ [n / 256 % 256, n % 256]).length)), (42, nI zc.length), (48, .int .u8 (bOr .u8 (n / 256 % 256) 64))]) (A2 := C5) rfl (by kernel_rfl) ?_
      refine EO.cast (S2 := [(0, vb), (1, .slice al ns.length capl), (4, .slice none 0 0), (5, .int .i64 0), (6, .slice (some ⟨b6, 0, none⟩) ((zc ++ [n / 256 % 256, n % 256]).length) ((zc ++ [n / 256 % 256, n % 256]).length)), (8, .int .u64 n), (9, .int .i64 1), (10, nI zc.length), (11, .int .i64 (-1)), (14, .slice al ns.length capl), (15, nI ns.length), (16, nI i), (17, bLt i ns.length), (23, .bool false), (30, .bool false), (41, .slice (some ⟨b6, 0, none⟩) ((zc ++ [n / 256 % 256, n % 256]).length) ((zc ++ [n / 256 % 256, n % 256]).length)), (42, nI zc.length), (48, .int .u8 (n / 256 % 256 + 64))]) (by rw [show bOr .u8 (n / 256 % 256) 64 = n / 256 % 256 + 64 from or_top (by omega) (by omega) 1 (by decide)]) ?_
      refine EO.index (v := .slice (some ⟨b6, 0, none⟩) ((zc ++ [n / 256 % 256, n % 256]).length) ((zc ++ [n / 256 % 256, n % 256]).length)) (u := .int .i64 (Int.ofNat zc.length)) (w := .pointer (some ⟨b6, 0 + zc.length * 1, none⟩)) rfl rfl rfl (by kernel_rfl) (by kernel_rfl) (by kernel_rfl) (aindexAddr_slice (elem := 5) (size := 1) (by kernel_rfl) (by kernel_rfl) (by simp)) ?_
      obtain ⟨D7, hst7, hOs7, hks7⟩ := hO5.store (P := Try.prog) hk5.nx (t := 5) (by kernel_rfl) (y := n / 256 % 256 + 64) (by omega)
      refine EO.store (ad := ⟨b6, 0 + zc.length * 1, none⟩) (u := .int .u8 (n / 256 % 256 + 64)) (A1 := D7) rfl rfl rfl (by kernel_rfl) (by kernel_rfl) (by kernel_rfl) hst7 ?_
      refine EO.done rfl ?_
      refine blockQ_n ?_
      refine thenJ_n ?_
      refine J.region ?_
      refine EO.run 1 [0, 1, 4, 5, 6, 8, 9, 10, 11, 14, 15, 16, 17, 23, 30, 41, 42, 48, 49, 50] (S2 := [(0, vb), (1, .slice al ns.length capl), (4, .slice none 0 0), (5, .int .i64 0), (6, .slice (some ⟨b6, 0, none⟩) ((zc ++ [n / 256 % 256, n % 256]).length) ((zc ++ [n / 256 % 256, n % 256]).length)), (8, .int .u64 n), (9, .int .i64 1), (10, nI zc.length), (11, .int .i64 (-1)), (14, .slice al ns.length capl), (15, nI ns.length), (16, nI i), (17, bLt i ns.length), (23, .bool false), (30, .bool false), (41, .slice (some ⟨b6, 0, none⟩) ((zc ++ [n / 256 % 256, n % 256]).length) ((zc ++ [n / 256 % 256, n % 256]).length)), (42, nI zc.length), (48, .int .u8 (n / 256 % 256 + 64)), (49, .pointer (some ⟨b6, 0 + zc.length * 1, none⟩)), (50, .int .i64 (IntKind.wrap .i64 (((i : Nat) : Int) + 1)))]) (A2 := D7) rfl (by kernel_rfl) ?_
      refine EO.cast (S2 := [(0, vb), (1, .slice al ns.length capl), (4, .slice none 0 0), (5, .int .i64 0), (6, .slice (some ⟨b6, 0, none⟩) ((zc ++ [n / 256 % 256, n % 256]).length) ((zc ++ [n / 256 % 256, n % 256]).length)), (8, .int .u64 n), (9, .int .i64 1), (10, nI zc.length), (11, .int .i64 (-1)), (14, .slice al ns.length capl), (15, nI ns.length), (16, nI i), (17, bLt i ns.length), (23, .bool false), (30, .bool false), (41, .slice (some ⟨b6, 0, none⟩) ((zc ++ [n / 256 % 256, n % 256]).length) ((zc ++ [n / 256 % 256, n % 256]).length)), (42, nI zc.length), (48, .int .u8 (n / 256 % 256 + 64)), (49, .pointer (some ⟨b6, 0 + zc.length * 1, none⟩)), (50, .int .i64 ((i + 1 : Nat) : Int))]) (by rw [show (IntKind.wrap .i64 (((i : Nat) : Int) + 1) : Int) = ((i + 1 : Nat) : Int) from by rw [wrap_i64 (by omega) (by omega)]; omega]) ?_
      refine EO.run 2 [0, 1, 4, 5, 6, 14, 15, 16] (S2 := [(0, vb), (1, .slice al ns.length capl), (4, .slice none 0 0), (5, .int .i64 0), (6, .slice (some ⟨b6, 0, none⟩) ((zc ++ [n / 256 % 256, n % 256]).length) ((zc ++ [n / 256 % 256, n % 256]).length)), (14, .slice al ns.length capl), (15, nI ns.length), (16, .int .i64 ((i + 1 : Nat) : Int))]) (A2 := D7) rfl (by kernel_rfl) ?_
      refine EO.done rfl ?_
      refine loopI_n ?_
      exact ⟨i + 1, _, _, by omega, by omega, all_succ hnn (by rw [hc]; decide) q3, by rw [q4, encL_succ hnn, hsh, List.append_assoc], by simp only [List.length_append, List.length_cons, List.length_nil] at *; omega, hOs7, (hx5'.ak hks7), hks7.nx, rfl⟩
    · rw [hc] at e27
      have hsh : shortOf n = [n / 256 / 256 / 256 % 256 + 128, n / 256 / 256 % 256, n / 256 % 256, n % 256] := by unfold shortOf; rw [hc]; rfl
      have hin := (clsN_in hn0.1 hc (by decide)).2
      have hin2 : n < 1073741824 := hin
      refine EO.fcall (f := 27) (vs := [.int .u64 n]) (v := .int .i64 2) (A1 := A2) rfl rfl rfl rfl (by kernel_rfl) (by kernel_rfl) e27 ?_
      refine EO.run 3 [0, 1, 4, 5, 6, 8, 9, 14, 15, 16, 17] (S2 := [(0, vb), (1, .slice al ns.length capl), (4, .slice none 0 0), (5, .int .i64 0), (6, .slice aw zc.length capw), (8, .int .u64 n), (9, .int .i64 2), (14, .slice al ns.length capl), (15, nI ns.length), (16, nI i), (17, bLt i ns.length)]) (A2 := A2) rfl (by kernel_rfl) ?_
      refine EO.done rfl ?_
      refine J.seq ?_
      refine J.sr ?_
      refine EO.run 2 [0, 1, 4, 5, 6, 8, 9, 14, 15, 16, 17, 23] (S2 := [(0, vb), (1, .slice al ns.length capl), (4, .slice none 0 0), (5, .int .i64 0), (6, .slice aw zc.length capw), (8, .int .u64 n), (9, .int .i64 2), (14, .slice al ns.length capl), (15, nI ns.length), (16, nI i), (17, bLt i ns.length), (23, .bool false)]) (A2 := A2) rfl (by kernel_rfl) ?_
      refine EO.done rfl ?_
      refine J.cond false (by kernel_rfl) (fun h => Bool.noConfusion h) (fun _ => ?_)
      refine J.skip ?_
      refine thenJ_n ?_
      refine J.sr ?_
      refine EO.run 3 [0, 1, 4, 5, 6, 8, 9, 10, 14, 15, 16, 17, 23] (S2 := [(0, vb), (1, .slice al ns.length capl), (4, .slice none 0 0), (5, .int .i64 0), (6, .slice aw zc.length capw), (8, .int .u64 n), (9, .int .i64 2), (10, nI zc.length), (14, .slice al ns.length capl), (15, nI ns.length), (16, nI i), (17, bLt i ns.length), (23, .bool false)]) (A2 := A2) rfl (by kernel_rfl) ?_
      refine EO.done rfl ?_
      refine J.seq ?_
      refine J.sr ?_
      refine EO.run 1 [0, 1, 4, 5, 6, 8, 9, 10, 14, 15, 16, 17, 23, 26] (S2 := [(0, vb), (1, .slice al ns.length capl), (4, .slice none 0 0), (5, .int .i64 0), (6, .slice aw zc.length capw), (8, .int .u64 n), (9, .int .i64 2), (10, nI zc.length), (14, .slice al ns.length capl), (15, nI ns.length), (16, nI i), (17, bLt i ns.length), (23, .bool false), (26, .int .i64 2)]) (A2 := A2) rfl (by kernel_rfl) ?_
      refine EO.fcall (f := 25) (vs := [.int .i64 2]) (v := .int .i64 4) (A1 := A2) rfl rfl rfl rfl (by kernel_rfl) (by kernel_rfl) (f25_spec_eq hp25 2 (by decide)) ?_
      refine EO.run 4 [0, 1, 4, 5, 6, 8, 9, 10, 11, 14, 15, 16, 17, 23] (S2 := [(0, vb), (1, .slice al ns.length capl), (4, .slice none 0 0), (5, .int .i64 0), (6, .slice aw zc.length capw), (8, .int .u64 n), (9, .int .i64 2), (10, nI zc.length), (11, .int .i64 3), (14, .slice al ns.length capl), (15, nI ns.length), (16, nI i), (17, bLt i ns.length), (23, .bool false)]) (A2 := A2) rfl (by kernel_rfl) ?_
      refine EO.done rfl ?_
      refine J.block ?_
      refine J.unroll ?_
      refine JL.step ?_
      refine J.seq ?_
      refine J.sr ?_
      refine EO.run 2 [0, 1, 4, 5, 6, 8, 9, 10, 11, 14, 15, 16, 17, 23, 30] (S2 := [(0, vb), (1, .slice al ns.length capl), (4, .slice none 0 0), (5, .int .i64 0), (6, .slice aw zc.length capw), (8, .int .u64 n), (9, .int .i64 2), (10, nI zc.length), (11, .int .i64 3), (14, .slice al ns.length capl), (15, nI ns.length), (16, nI i), (17, bLt i ns.length), (23, .bool false), (30, .bool true)]) (A2 := A2) rfl (by kernel_rfl) ?_
      refine EO.done rfl ?_
      refine J.cond true (by kernel_rfl) (fun _ => ?_) (fun h => Bool.noConfusion h)
      refine J.skip ?_
      refine thenJ_n ?_
      refine J.seq ?_
      refine J.block ?_
      refine J.region ?_
      refine EO.run 6 [0, 1, 4, 5, 6, 8, 9, 10, 11, 14, 15, 16, 17, 23, 30, 33, 38] (S2 := [(0, vb), (1, .slice al ns.length capl), (4, .slice none 0 0), (5, .int .i64 0), (6, .slice aw zc.length capw), (8, .int .u64 n), (9, .int .i64 2), (10, nI zc.length), (11, .int .i64 3), (14, .slice al ns.length capl), (15, nI ns.length), (16, nI i), (17, bLt i ns.length), (23, .bool false), (30, .bool true), (33, .slice aw zc.length capw), (38, .int .u8 (IntKind.wrap .u8 (sShr .u64 n 24)))]) (A2 := A2) rfl (by kernel_rfl) ?_
      refine EO.cast (S2 := [(0, vb), (1, .slice al ns.length capl), (4, .slice none 0 0), (5, .int .i64 0), (6, .slice aw zc.length capw), (8, .int .u64 n), (9, .int .i64 2), (10, nI zc.length), (11, .int .i64 3), (14, .slice al ns.length capl), (15, nI ns.length), (16, nI i), (17, bLt i ns.length), (23, .bool false), (30, .bool true), (33, .slice aw zc.length capw), (38, .int .u8 (n / 256 / 256 / 256 % 256))]) (by rw [shr_b3]) ?_
      obtain ⟨B8, hB8, hxB8, hnB8, hrB8⟩ := new_one (A := A2) hn (n / 256 / 256 / 256 % 256) (by omega)
      refine EO.run 7 [0, 1, 4, 5, 6, 8, 9, 10, 11, 14, 15, 16, 17, 23, 30, 33, 38, 39] (S2 := [(0, vb), (1, .slice al ns.length capl), (4, .slice none 0 0), (5, .int .i64 0), (6, .slice aw zc.length capw), (8, .int .u64 n), (9, .int .i64 2), (10, nI zc.length), (11, .int .i64 3), (14, .slice al ns.length capl), (15, nI ns.length), (16, nI i), (17, bLt i ns.length), (23, .bool false), (30, .bool true), (33, .slice aw zc.length capw), (38, .int .u8 (n / 256 / 256 / 256 % 256)), (39, .slice (some ⟨A2.nid, 0, none⟩) 1 1)]) (A2 := A2.push (.cells (u8s [n / 256 / 256 / 256 % 256]) false false 1)) rfl (by kernel_rfl) ?_
      rw [hB8]
      obtain ⟨w8, C8, hC8, hP8, hk8⟩ := OutV.app (P := Try.prog) (ats := #[22, 22]) (fun _ _ => by kernel_rfl) (hO.ext hxB8) hrB8 (by simp) (by simp only [List.length_append, List.length_cons, List.length_nil] at *; omega) (hx.trans hxB8).size hnB8
      refine EO.append (v := .slice aw zc.length capw) (u := .slice (some ⟨A2.nid, 0, none⟩) 1 1) (w := w8) (A1 := C8) rfl rfl rfl rfl rfl (by kernel_rfl) (by kernel_rfl) (by kernel_rfl) hC8 ?_
      have hO8 : OutV A.size C8 w8 (zc ++ [n / 256 / 256 / 256 % 256]) := hP8
      have hx8' := (hx.trans hxB8).ak hk8
      refine EO.run 9 [0, 1, 4, 5, 6, 8, 9, 10, 11, 14, 15, 16, 17, 23, 30] (S2 := [(0, vb), (1, .slice al ns.length capl), (4, .slice none 0 0), (5, .int .i64 0), (6, w8), (8, .int .u64 n), (9, .int .i64 2), (10, nI zc.length), (11, .int .i64 3), (14, .slice al ns.length capl), (15, nI ns.length), (16, nI i), (17, bLt i ns.length), (23, .bool false), (30, .bool true)]) (A2 := C8) rfl (by kernel_rfl) ?_
      refine EO.done rfl ?_
      refine blockQ_n ?_
      refine thenJ_n ?_
      refine J.region ?_
      refine EO.run 3 [0, 1, 4, 5, 6, 8, 9, 10, 11, 14, 15, 16, 17, 23, 30] (S2 := [(0, vb), (1, .slice al ns.length capl), (4, .slice none 0 0), (5, .int .i64 0), (6, w8), (8, .int .u64 n), (9, .int .i64 2), (10, nI zc.length), (11, .int .i64 2), (14, .slice al ns.length capl), (15, nI ns.length), (16, nI i), (17, bLt i ns.length), (23, .bool false), (30, .bool true)]) (A2 := C8) rfl (by kernel_rfl) ?_
      refine EO.done rfl ?_
      refine loopQ_n ?_
      refine JL.step ?_
      refine J.seq ?_
      refine J.sr ?_
      refine EO.run 2 [0, 1, 4, 5, 6, 8, 9, 10, 11, 14, 15, 16, 17, 23, 30] (S2 := [(0, vb), (1, .slice al ns.length capl), (4, .slice none 0 0), (5, .int .i64 0), (6, w8), (8, .int .u64 n), (9, .int .i64 2), (10, nI zc.length), (11, .int .i64 2), (14, .slice al ns.length capl), (15, nI ns.length), (16, nI i), (17, bLt i ns.length), (23, .bool false), (30, .bool true)]) (A2 := C8) rfl (by kernel_rfl) ?_
      refine EO.done rfl ?_
      refine J.cond true (by kernel_rfl) (fun _ => ?_) (fun h => Bool.noConfusion h)
      refine J.skip ?_
      refine thenJ_n ?_
      refine J.seq ?_
      refine J.block ?_
      refine J.region ?_
      refine EO.run 6 [0, 1, 4, 5, 6, 8, 9, 10, 11, 14, 15, 16, 17, 23, 30, 33, 38] (S2 := [(0, vb), (1, .slice al ns.length capl), (4, .slice none 0 0), (5, .int .i64 0), (6, w8), (8, .int .u64 n), (9, .int .i64 2), (10, nI zc.length), (11, .int .i64 2), (14, .slice al ns.length capl), (15, nI ns.length), (16, nI i), (17, bLt i ns.length), (23, .bool false), (30, .bool true), (33, w8), (38, .int .u8 (IntKind.wrap .u8 (sShr .u64 n 16)))]) (A2 := C8) rfl (by kernel_rfl) ?_
      refine EO.cast (S2 := [(0, vb), (1, .slice al ns.length capl), (4, .slice none 0 0), (5, .int .i64 0), (6, w8), (8, .int .u64 n), (9, .int .i64 2), (10, nI zc.length), (11, .int .i64 2), (14, .slice al ns.length capl), (15, nI ns.length), (16, nI i), (17, bLt i ns.length), (23, .bool false), (30, .bool true), (33, w8), (38, .int .u8 (n / 256 / 256 % 256))]) (by rw [shr_b2]) ?_
      obtain ⟨B9, hB9, hxB9, hnB9, hrB9⟩ := new_one (A := C8) hk8.nx (n / 256 / 256 % 256) (by omega)
      refine EO.run 7 [0, 1, 4, 5, 6, 8, 9, 10, 11, 14, 15, 16, 17, 23, 30, 33, 38, 39] (S2 := [(0, vb), (1, .slice al ns.length capl), (4, .slice none 0 0), (5, .int .i64 0), (6, w8), (8, .int .u64 n), (9, .int .i64 2), (10, nI zc.length), (11, .int .i64 2), (14, .slice al ns.length capl), (15, nI ns.length), (16, nI i), (17, bLt i ns.length), (23, .bool false), (30, .bool true), (33, w8), (38, .int .u8 (n / 256 / 256 % 256)), (39, .slice (some ⟨C8.nid, 0, none⟩) 1 1)]) (A2 := C8.push (.cells (u8s [n / 256 / 256 % 256]) false false 1)) rfl (by kernel_rfl) ?_
      rw [hB9]
      obtain ⟨w9, C9, hC9, hP9, hk9⟩ := OutV.app (P := Try.prog) (ats := #[22, 22]) (fun _ _ => by kernel_rfl) (hO8.ext hxB9) hrB9 (by simp) (by simp only [List.length_append, List.length_cons, List.length_nil] at *; omega) (hx8'.trans hxB9).size hnB9
      refine EO.append (v := w8) (u := .slice (some ⟨C8.nid, 0, none⟩) 1 1) (w := w9) (A1 := C9) rfl rfl rfl rfl rfl (by kernel_rfl) (by kernel_rfl) (by kernel_rfl) hC9 ?_
      have hO9 : OutV A.size C9 w9 (zc ++ [n / 256 / 256 / 256 % 256, n / 256 / 256 % 256]) := by have hq := hP9; rw [List.append_assoc] at hq; exact hq
      have hx9' := (hx8'.trans hxB9).ak hk9
      refine EO.run 9 [0, 1, 4, 5, 6, 8, 9, 10, 11, 14, 15, 16, 17, 23, 30] (S2 := [(0, vb), (1, .slice al ns.length capl), (4, .slice none 0 0), (5, .int .i64 0), (6, w9), (8, .int .u64 n), (9, .int .i64 2), (10, nI zc.length), (11, .int .i64 2), (14, .slice al ns.length capl), (15, nI ns.length), (16, nI i), (17, bLt i ns.length), (23, .bool false), (30, .bool true)]) (A2 := C9) rfl (by kernel_rfl) ?_
      refine EO.done rfl ?_
      refine blockQ_n ?_
      refine thenJ_n ?_
      refine J.region ?_
      refine EO.run 3 [0, 1, 4, 5, 6, 8, 9, 10, 11, 14, 15, 16, 17, 23, 30] (S2 := [(0, vb), (1, .slice al ns.length capl), (4, .slice none 0 0), (5, .int .i64 0), (6, w9), (8, .int .u64 n), (9, .int .i64 2), (10, nI zc.length), (11, .int .i64 1), (14, .slice al ns.length capl), (15, nI ns.length), (16, nI i), (17, bLt i ns.length), (23, .bool false), (30, .bool true)]) (A2 := C9) rfl (by kernel_rfl) ?_
      refine EO.done rfl ?_
      refine loopQ_n ?_
      refine JL.step ?_
      refine J.seq ?_
      refine J.sr ?_
      refine EO.run 2 [0, 1, 4, 5, 6, 8, 9, 10, 11, 14, 15, 16, 17, 23, 30] (S2 := [(0, vb), (1, .slice al ns.length capl), (4, .slice none 0 0), (5, .int .i64 0), (6, w9), (8, .int .u64 n), (9, .int .i64 2), (10, nI zc.length), (11, .int .i64 1), (14, .slice al ns.length capl), (15, nI ns.length), (16, nI i), (17, bLt i ns.length), (23, .bool false), (30, .bool true)]) (A2 := C9) rfl (by kernel_rfl) ?_
      refine EO.done rfl ?_
      refine J.cond true (by kernel_rfl) (fun _ => ?_) (fun h => Bool.noConfusion h)
      refine J.skip ?_
      refine thenJ_n ?_
      refine J.seq ?_
      refine J.block ?_
      refine J.region ?_
      refine EO.run 6 [0, 1, 4, 5, 6, 8, 9, 10, 11, 14, 15, 16, 17, 23, 30, 33, 38] (S2 := [(0, vb), (1, .slice al ns.length capl), (4, .slice none 0 0), (5, .int .i64 0), (6, w9), (8, .int .u64 n), (9, .int .i64 2), (10, nI zc.length), (11, .int .i64 1), (14, .slice al ns.length capl), (15, nI ns.length), (16, nI i), (17, bLt i ns.length), (23, .bool false), (30, .bool true), (33, w9), (38, .int .u8 (IntKind.wrap .u8 (sShr .u64 n 8)))]) (A2 := C9) rfl (by kernel_rfl) ?_
      refine EO.cast (S2 := [(0, vb), (1, .slice al ns.length capl), (4, .slice none 0 0), (5, .int .i64 0), (6, w9), (8, .int .u64 n), (9, .int .i64 2), (10, nI zc.length), (11, .int .i64 1), (14, .slice al ns.length capl), (15, nI ns.length), (16, nI i), (17, bLt i ns.length), (23, .bool false), (30, .bool true), (33, w9), (38, .int .u8 (n / 256 % 256))]) (by rw [shr_b1]) ?_
      obtain ⟨B10, hB10, hxB10, hnB10, hrB10⟩ := new_one (A := C9) hk9.nx (n / 256 % 256) (by omega)
      refine EO.run 7 [0, 1, 4, 5, 6, 8, 9, 10, 11, 14, 15, 16, 17, 23, 30, 33, 38, 39] (S2 := [(0, vb), (1, .slice al ns.length capl), (4, .slice none 0 0), (5, .int .i64 0), (6, w9), (8, .int .u64 n), (9, .int .i64 2), (10, nI zc.length), (11, .int .i64 1), (14, .slice al ns.length capl), (15, nI ns.length), (16, nI i), (17, bLt i ns.length), (23, .bool false), (30, .bool true), (33, w9), (38, .int .u8 (n / 256 % 256)), (39, .slice (some ⟨C9.nid, 0, none⟩) 1 1)]) (A2 := C9.push (.cells (u8s [n / 256 % 256]) false false 1)) rfl (by kernel_rfl) ?_
      rw [hB10]
      obtain ⟨w10, C10, hC10, hP10, hk10⟩ := OutV.app (P := Try.prog) (ats := #[22, 22]) (fun _ _ => by kernel_rfl) (hO9.ext hxB10) hrB10 (by simp) (by simp only [List.length_append, List.length_cons, List.length_nil] at *; omega) (hx9'.trans hxB10).size hnB10
      refine EO.append (v := w9) (u := .slice (some ⟨C9.nid, 0, none⟩) 1 1) (w := w10) (A1 := C10) rfl rfl rfl rfl rfl (by kernel_rfl) (by kernel_rfl) (by kernel_rfl) hC10 ?_
      have hO10 : OutV A.size C10 w10 (zc ++ [n / 256 / 256 / 256 % 256, n / 256 / 256 % 256, n / 256 % 256]) := by have hq := hP10; rw [List.append_assoc] at hq; exact hq
      have hx10' := (hx9'.trans hxB10).ak hk10
      refine EO.run 9 [0, 1, 4, 5, 6, 8, 9, 10, 11, 14, 15, 16, 17, 23, 30] (S2 := [(0, vb), (1, .slice al ns.length capl), (4, .slice none 0 0), (5, .int .i64 0), (6, w10), (8, .int .u64 n), (9, .int .i64 2), (10, nI zc.length), (11, .int .i64 1), (14, .slice al ns.length capl), (15, nI ns.length), (16, nI i), (17, bLt i ns.length), (23, .bool false), (30, .bool true)]) (A2 := C10) rfl (by kernel_rfl) ?_
      refine EO.done rfl ?_
      refine blockQ_n ?_
      refine thenJ_n ?_
      refine J.region ?_
      refine EO.run 3 [0, 1, 4, 5, 6, 8, 9, 10, 11, 14, 15, 16, 17, 23, 30] (S2 := [(0, vb), (1, .slice al ns.length capl), (4, .slice none 0 0), (5, .int .i64 0), (6, w10), (8, .int .u64 n), (9, .int .i64 2), (10, nI zc.length), (11, .int .i64 0), (14, .slice al ns.length capl), (15, nI ns.length), (16, nI i), (17, bLt i ns.length), (23, .bool false), (30, .bool true)]) (A2 := C10) rfl (by kernel_rfl) ?_
      refine EO.done rfl ?_
      refine loopQ_n ?_
      refine JL.step ?_
      refine J.seq ?_
      refine J.sr ?_
      refine EO.run 2 [0, 1, 4, 5, 6, 8, 9, 10, 11, 14, 15, 16, 17, 23, 30] (S2 := [(0, vb), (1, .slice al ns.length capl), (4, .slice none 0 0), (5, .int .i64 0), (6, w10), (8, .int .u64 n), (9, .int .i64 2), (10, nI zc.length), (11, .int .i64 0), (14, .slice al ns.length capl), (15, nI ns.length), (16, nI i), (17, bLt i ns.length), (23, .bool false), (30, .bool true)]) (A2 := C10) rfl (by kernel_rfl) ?_
      refine EO.done rfl ?_
      refine J.cond true (by kernel_rfl) (fun _ => ?_) (fun h => Bool.noConfusion h)
      refine J.skip ?_
      refine thenJ_n ?_
      refine J.seq ?_
      refine J.block ?_
      refine J.region ?_
      refine EO.run 6 [0, 1, 4, 5, 6, 8, 9, 10, 11, 14, 15, 16, 17, 23, 30, 33, 38] (S2 := [(0, vb), (1, .slice al ns.length capl), (4, .slice none 0 0), (5, .int .i64 0), (6, w10), (8, .int .u64 n), (9, .int .i64 2), (10, nI zc.length), (11, .int .i64 0), (14, .slice al ns.length capl), (15, nI ns.length), (16, nI i), (17, bLt i ns.length), (23, .bool false), (30, .bool true), (33, w10), (38, .int .u8 (IntKind.wrap .u8 (sShr .u64 n 0)))]) (A2 := C10) rfl (by kernel_rfl) ?_
      refine EO.cast (S2 := [(0, vb), (1, .slice al ns.length capl), (4, .slice none 0 0), (5, .int .i64 0), (6, w10), (8, .int .u64 n), (9, .int .i64 2), (10, nI zc.length), (11, .int .i64 0), (14, .slice al ns.length capl), (15, nI ns.length), (16, nI i), (17, bLt i ns.length), (23, .bool false), (30, .bool true), (33, w10), (38, .int .u8 (n % 256))]) (by rw [shr_b0]) ?_
      obtain ⟨B11, hB11, hxB11, hnB11, hrB11⟩ := new_one (A := C10) hk10.nx (n % 256) (by omega)
      refine EO.run 7 [0, 1, 4, 5, 6, 8, 9, 10, 11, 14, 15, 16, 17, 23, 30, 33, 38, 39] (S2 := [(0, vb), (1, .slice al ns.length capl), (4, .slice none 0 0), (5, .int .i64 0), (6, w10), (8, .int .u64 n), (9, .int .i64 2), (10, nI zc.length), (11, .int .i64 0), (14, .slice al ns.length capl), (15, nI ns.length), (16, nI i), (17, bLt i ns.length), (23, .bool false), (30, .bool true), (33, w10), (38, .int .u8 (n % 256)), (39, .slice (some ⟨C10.nid, 0, none⟩) 1 1)]) (A2 := C10.push (.cells (u8s [n % 256]) false false 1)) rfl (by kernel_rfl) ?_
      rw [hB11]
      obtain ⟨w11, C11, hC11, hP11, hk11⟩ := OutV.app (P := Try.prog) (ats := #[22, 22]) (fun _ _ => by kernel_rfl) (hO10.ext hxB11) hrB11 (by simp) (by simp only [List.length_append, List.length_cons, List.length_nil] at *; omega) (hx10'.trans hxB11).size hnB11
      refine EO.append (v := w10) (u := .slice (some ⟨C10.nid, 0, none⟩) 1 1) (w := w11) (A1 := C11) rfl rfl rfl rfl rfl (by kernel_rfl) (by kernel_rfl) (by kernel_rfl) hC11 ?_
      have hO11 : OutV A.size C11 w11 (zc ++ [n / 256 / 256 / 256 % 256, n / 256 / 256 % 256, n / 256 % 256, n % 256]) := by have hq := hP11; rw [List.append_assoc] at hq; exact hq
      have hx11' := (hx10'.trans hxB11).ak hk11
      refine EO.run 9 [0, 1, 4, 5, 6, 8, 9, 10, 11, 14, 15, 16, 17, 23, 30] (S2 := [(0, vb), (1, .slice al ns.length capl), (4, .slice none 0 0), (5, .int .i64 0), (6, w11), (8, .int .u64 n), (9, .int .i64 2), (10, nI zc.length), (11, .int .i64 0), (14, .slice al ns.length capl), (15, nI ns.length), (16, nI i), (17, bLt i ns.length), (23, .bool false), (30, .bool true)]) (A2 := C11) rfl (by kernel_rfl) ?_
      refine EO.done rfl ?_
      refine blockQ_n ?_
      refine thenJ_n ?_
      refine J.region ?_
      refine EO.run 3 [0, 1, 4, 5, 6, 8, 9, 10, 11, 14, 15, 16, 17, 23, 30] (S2 := [(0, vb), (1, .slice al ns.length capl), (4, .slice none 0 0), (5, .int .i64 0), (6, w11), (8, .int .u64 n), (9, .int .i64 2), (10, nI zc.length), (11, .int .i64 (-1)), (14, .slice al ns.length capl), (15, nI ns.length), (16, nI i), (17, bLt i ns.length), (23, .bool false), (30, .bool true)]) (A2 := C11) rfl (by kernel_rfl) ?_
      refine EO.done rfl ?_
      refine loopQ_n ?_
      refine JL.step ?_
      refine J.seq ?_
      refine J.sr ?_
      refine EO.run 2 [0, 1, 4, 5, 6, 8, 9, 10, 11, 14, 15, 16, 17, 23, 30] (S2 := [(0, vb), (1, .slice al ns.length capl), (4, .slice none 0 0), (5, .int .i64 0), (6, w11), (8, .int .u64 n), (9, .int .i64 2), (10, nI zc.length), (11, .int .i64 (-1)), (14, .slice al ns.length capl), (15, nI ns.length), (16, nI i), (17, bLt i ns.length), (23, .bool false), (30, .bool false)]) (A2 := C11) rfl (by kernel_rfl) ?_
      refine EO.done rfl ?_
      refine J.cond false (by kernel_rfl) (fun h => Bool.noConfusion h) (fun _ => ?_)
      refine J.exit ?_
      refine thenJ_e ?_
      refine loopQ_e ?_
      refine blockQ_hit ?_
      refine thenJ_n ?_
      obtain ⟨b12, hw12, _, hOwn12⟩ := hO11.at_ (by simp)
      subst hw12
      refine J.region ?_
      refine EO.run 2 [0, 1, 4, 5, 6, 8, 9, 10, 11, 14, 15, 16, 17, 23, 30, 41, 42] (S2 := [(0, vb), (1, .slice al ns.length capl), (4, .slice none 0 0), (5, .int .i64 0), (6, .slice (some ⟨b12, 0, none⟩) ((zc ++ [n / 256 / 256 / 256 % 256, n / 256 / 256 % 256, n / 256 % 256, n % 256]).length) ((zc ++ [n / 256 / 256 / 256 % 256, n / 256 / 256 % 256, n / 256 % 256, n % 256]).length)), (8, .int .u64 n), (9, .int .i64 2), (10, nI zc.length), (11, .int .i64 (-1)), (14, .slice al ns.length capl), (15, nI ns.length), (16, nI i), (17, bLt i ns.length), (23, .bool false), (30, .bool false), (41, .slice (some ⟨b12, 0, none⟩) ((zc ++ [n / 256 / 256 / 256 % 256, n / 256 / 256 % 256, n / 256 % 256, n % 256]).length) ((zc ++ [n / 256 / 256 / 256 % 256, n / 256 / 256 % 256, n / 256 % 256, n % 256]).length)), (42, nI zc.length)]) (A2 := C11) rfl (by kernel_rfl) ?_
      refine EO.index (v := .slice (some ⟨b12, 0, none⟩) ((zc ++ [n / 256 / 256 / 256 % 256, n / 256 / 256 % 256, n / 256 % 256, n % 256]).length) ((zc ++ [n / 256 / 256 / 256 % 256, n / 256 / 256 % 256, n / 256 % 256, n % 256]).length)) (u := .int .i64 (Int.ofNat zc.length)) (w := .pointer (some ⟨b12, 0 + zc.length * 1, none⟩)) rfl rfl rfl (by kernel_rfl) (by kernel_rfl) (by kernel_rfl) (aindexAddr_slice (elem := 5) (size := 1) (by kernel_rfl) (by kernel_rfl) (by simp)) ?_
      refine EO.load (ad := ⟨b12, 0 + zc.length * 1, none⟩) (w := .int .u8 (n / 256 / 256 / 256 % 256)) rfl rfl rfl (by kernel_rfl) (by kernel_rfl) (hOwn12.row.load (by kernel_rfl) (by rw [List.getElem?_append_right (Nat.le_refl _)]; simp)) ?_
      refine EO.run 8 [0, 1, 4, 5, 6, 8, 9, 10, 11, 14, 15, 16, 17, 23, 30, 41, 42, 48] (S2 := [(0, vb), (1, .slice al ns.length capl), (4, .slice none 0 0), (5, .int .i64 0), (6, .slice (some ⟨b12, 0, none⟩) ((zc ++ [n / 256 / 256 / 256 % 256, n / 256 / 256 % 256, n / 256 % 256, n % 256]).length) ((zc ++ [n / 256 / 256 / 256 % 256, n / 256 / 256 % 256, n / 256 % 256, n % 256]).length)), (8, .int .u64 n), (9, .int .i64 2), (10, nI zc.length), (11, .int .i64 (-1)), (14, .slice al ns.length capl), (15, nI ns.length), (16, nI i), (17, bLt i ns.length), (23, .bool false), (30, .bool false), (41, .slice (some ⟨b12, 0, none⟩) ((zc ++ [n / 256 / 256 / 256 % 256, n / 256 / 256 % 256, n / 256 % 256, n % 256]).length) ((zc ++ [n / 256 / 256 / 256 % 256, n / 256 / 256 % 256, n / 256 % 256, n % 256]).length)), (42, nI zc.length), (48, .int .u8 (bOr .u8 (n / 256 / 256 / 256 % 256) 128))]) (A2 := C11) rfl (by kernel_rfl) ?_
      refine EO.cast (S2 := [(0, vb), (1, .slice al ns.length capl), (4, .slice none 0 0), (5, .int .i64 0), (6, .slice (some ⟨b12, 0, none⟩) ((zc ++ [n / 256 / 256 / 256 % 256, n / 256 / 256 % 256, n / 256 % 256, n % 256]).length) ((zc ++ [n / 256 / 256 / 256 % 256, n / 256 / 256 % 256, n / 256 % 256, n % 256]).length)), (8, .int .u64 n), (9, .int .i64 2), (10, nI zc.length), (11, .int .i64 (-1)), (14, .slice al ns.length capl), (15, nI ns.length), (16, nI i), (17, bLt i ns.length), (23, .bool false), (30, .bool false), (41, .slice (some ⟨b12, 0, none⟩) ((zc ++ [n / 256 / 256 / 256 % 256, n / 256 / 256 % 256, n / 256 % 256, n % 256]).length) ((zc ++ [n / 256 / 256 / 256 % 256, n / 256 / 256 % 256, n / 256 % 256, n % 256]).length)), (42, nI zc.length), (48, .int .u8 (n / 256 / 256 / 256 % 256 + 128))]) (by rw [show bOr .u8 (n / 256 / 256 / 256 % 256) 128 = n / 256 / 256 / 256 % 256 + 128 from or_top (by omega) (by omega) 2 (by decide)]) ?_
      refine EO.index (v := .slice (some ⟨b12, 0, none⟩) ((zc ++ [n / 256 / 256 / 256 % 256, n / 256 / 256 % 256, n / 256 % 256, n % 256]).length) ((zc ++ [n / 256 / 256 / 256 % 256, n / 256 / 256 % 256, n / 256 % 256, n % 256]).length)) (u := .int .i64 (Int.ofNat zc.length)) (w := .pointer (some ⟨b12, 0 + zc.length * 1, none⟩)) rfl rfl rfl (by kernel_rfl) (by kernel_rfl) (by kernel_rfl) (aindexAddr_slice (elem := 5) (size := 1) (by kernel_rfl) (by kernel_rfl) (by simp)) ?_
      obtain ⟨D13, hst13, hOs13, hks13⟩ := hO11.store (P := Try.prog) hk11.nx (t := 5) (by kernel_rfl) (y := n / 256 / 256 / 256 % 256 + 128) (by omega)
      refine EO.store (ad := ⟨b12, 0 + zc.length * 1, none⟩) (u := .int .u8 (n / 256 / 256 / 256 % 256 + 128)) (A1 := D13) rfl rfl rfl (by kernel_rfl) (by kernel_rfl) (by kernel_rfl) hst13 ?_
      refine EO.done rfl ?_
      refine blockQ_n ?_
      refine thenJ_n ?_
      refine J.region ?_
      refine EO.run 1 [0, 1, 4, 5, 6, 8, 9, 10, 11, 14, 15, 16, 17, 23, 30, 41, 42, 48, 49, 50] (S2 := [(0, vb), (1, .slice al ns.length capl), (4, .slice none 0 0), (5, .int .i64 0), (6, .slice (some ⟨b12, 0, none⟩) ((zc ++ [n / 256 / 256 / 256 % 256, n / 256 / 256 % 256, n / 256 % 256, n % 256]).length) ((zc ++ [n / 256 / 256 / 256 % 256, n / 256 / 256 % 256, n / 256 % 256, n % 256]).length)), (8, .int .u64 n), (9, .int .i64 2), (10, nI zc.length), (11, .int .i64 (-1)), (14, .slice al ns.length capl), (15, nI ns.length), (16, nI i), (17, bLt i ns.length), (23, .bool false), (30, .bool false), (41, .slice (some ⟨b12, 0, none⟩) ((zc ++ [n / 256 / 256 / 256 % 256, n / 256 / 256 % 256, n / 256 % 256, n % 256]).length) ((zc ++ [n / 256 / 256 / 256 % 256, n / 256 / 256 % 256, n / 256 % 256, n % 256]).length)), (42, nI zc.length), (48, .int .u8 (n / 256 / 256 / 256 % 256 + 128)), (49, .pointer (some ⟨b12, 0 + zc.length * 1, none⟩)), (50, .int .i64 (IntKind.wrap .i64 (((i : Nat) : Int) + 1)))]) (A2 := D13) rfl (by kernel_rfl) ?_
      refine EO.cast (S2 := [(0, vb), (1, .slice al ns.length capl), (4, .slice none 0 0), (5, .int .i64 0), (6, .slice (some ⟨b12, 0, none⟩) ((zc ++ [n / 256 / 256 / 256 % 256, n / 256 / 256 % 256, n / 256 % 256, n % 256]).length) ((zc ++ [n / 256 / 256 / 256 % 256, n / 256 / 256 % 256, n / 256 % 256, n % 256]).length)), (8, .int .u64 n), (9, .int .i64 2), (10, nI zc.length), (11, .int .i64 (-1)), (14, .slice al ns.length capl), (15, nI ns.length), (16, nI i), (17, bLt i ns.length), (23, .bool false), (30, .bool false), (41, .slice (some ⟨b12, 0, none⟩) ((zc ++ [n / 256 / 256 / 256 % 256, n / 256 / 256 % 256, n / 256 % 256, n % 256]).length) ((zc ++ [n / 256 / 256 / 256 % 256, n / 256 / 256 % 256, n / 256 % 256, n % 256]).length)), (42, nI zc.length), (48, .int .u8 (n / 256 / 256 / 256 % 256 + 128)), (49, .pointer (some ⟨b12, 0 + zc.length * 1, none⟩)), (50, .int .i64 ((i + 1 : Nat) : Int))]) (by rw [show (IntKind.wrap .i64 (((i : Nat) : Int) + 1) : Int) = ((i + 1 : Nat) : Int) from by rw [wrap_i64 (by omega) (by omega)]; omega]) ?_
      refine EO.run 2 [0, 1, 4, 5, 6, 14, 15, 16] (S2 := [(0, vb), (1, .slice al ns.length capl), (4, .slice none 0 0), (5, .int .i64 0), (6, .slice (some ⟨b12, 0, none⟩) ((zc ++ [n / 256 / 256 / 256 % 256, n / 256 / 256 % 256, n / 256 % 256, n % 256]).length) ((zc ++ [n / 256 / 256 / 256 % 256, n / 256 / 256 % 256, n / 256 % 256, n % 256]).length)), (14, .slice al ns.length capl), (15, nI ns.length), (16, .int .i64 ((i + 1 : Nat) : Int))]) (A2 := D13) rfl (by kernel_rfl) ?_
      refine EO.done rfl ?_
      refine loopI_n ?_
      exact ⟨i + 1, _, _, by omega, by omega, all_succ hnn (by rw [hc]; decide) q3, by rw [q4, encL_succ hnn, hsh, List.append_assoc], by simp only [List.length_append, List.length_cons, List.length_nil] at *; omega, hOs13, (hx11'.ak hks13), hks13.nx, rfl⟩
    · rw [hc] at e27
      have hsh : shortOf n = [n / 256 / 256 / 256 / 256 / 256 / 256 / 256 % 256 + 192, n / 256 / 256 / 256 / 256 / 256 / 256 % 256, n / 256 / 256 / 256 / 256 / 256 % 256, n / 256 / 256 / 256 / 256 % 256, n / 256 / 256 / 256 % 256, n / 256 / 256 % 256, n / 256 % 256, n % 256] := by unfold shortOf; rw [hc]; rfl
      have hin := (clsN_in hn0.1 hc (by decide)).2
      have hin2 : n < 4611686018427387904 := hin
      refine EO.fcall (f := 27) (vs := [.int .u64 n]) (v := .int .i64 3) (A1 := A2) rfl rfl rfl rfl (by kernel_rfl) (by kernel_rfl) e27 ?_
      refine EO.run 3 [0, 1, 4, 5, 6, 8, 9, 14, 15, 16, 17] (S2 := [(0, vb), (1, .slice al ns.length capl), (4, .slice none 0 0), (5, .int .i64 0), (6, .slice aw zc.length capw), (8, .int .u64 n), (9, .int .i64 3), (14, .slice al ns.length capl), (15, nI ns.length), (16, nI i), (17, bLt i ns.length)]) (A2 := A2) rfl (by kernel_rfl) ?_
      refine EO.done rfl ?_
      refine J.seq ?_
      refine J.sr ?_
      refine EO.run 2 [0, 1, 4, 5, 6, 8, 9, 14, 15, 16, 17, 23] (S2 := [(0, vb), (1, .slice al ns.length capl), (4, .slice none 0 0), (5, .int .i64 0), (6, .slice aw zc.length capw), (8, .int .u64 n), (9, .int .i64 3), (14, .slice al ns.length capl), (15, nI ns.length), (16, nI i), (17, bLt i ns.length), (23, .bool false)]) (A2 := A2) rfl (by kernel_rfl) ?_
      refine EO.done rfl ?_
      refine J.cond false (by kernel_rfl) (fun h => Bool.noConfusion h) (fun _ => ?_)
      refine J.skip ?_
      refine thenJ_n ?_
      refine J.sr ?_
      refine EO.run 3 [0, 1, 4, 5, 6, 8, 9, 10, 14, 15, 16, 17, 23] (S2 := [(0, vb), (1, .slice al ns.length capl), (4, .slice none 0 0), (5, .int .i64 0), (6, .slice aw zc.length capw), (8, .int .u64 n), (9, .int .i64 3), (10, nI zc.length), (14, .slice al ns.length capl), (15, nI ns.length), (16, nI i), (17, bLt i ns.length), (23, .bool false)]) (A2 := A2) rfl (by kernel_rfl) ?_
      refine EO.done rfl ?_
      refine J.seq ?_
      refine J.sr ?_
      refine EO.run 1 [0, 1, 4, 5, 6, 8, 9, 10, 14, 15, 16, 17, 23, 26] (S2 := [(0, vb), (1, .slice al ns.length capl), (4, .slice none 0 0), (5, .int .i64 0), (6, .slice aw zc.length capw), (8, .int .u64 n), (9, .int .i64 3), (10, nI zc.length), (14, .slice al ns.length capl), (15, nI ns.length), (16, nI i), (17, bLt i ns.length), (23, .bool false), (26, .int .i64 3)]) (A2 := A2) rfl (by kernel_rfl) ?_
      refine EO.fcall (f := 25) (vs := [.int .i64 3]) (v := .int .i64 8) (A1 := A2) rfl rfl rfl rfl (by kernel_rfl) (by kernel_rfl) (f25_spec_eq hp25 3 (by decide)) ?_
      refine EO.run 4 [0, 1, 4, 5, 6, 8, 9, 10, 11, 14, 15, 16, 17, 23] (S2 := [(0, vb), (1, .slice al ns.length capl), (4, .slice none 0 0), (5, .int .i64 0), (6, .slice aw zc.length capw), (8, .int .u64 n), (9, .int .i64 3), (10, nI zc.length), (11, .int .i64 7), (14, .slice al ns.length capl), (15, nI ns.length), (16, nI i), (17, bLt i ns.length), (23, .bool false)]) (A2 := A2) rfl (by kernel_rfl) ?_
      refine EO.done rfl ?_
      refine J.block ?_
      refine J.unroll ?_
      refine JL.step ?_
      refine J.seq ?_
      refine J.sr ?_
      refine EO.run 2 [0, 1, 4, 5, 6, 8, 9, 10, 11, 14, 15, 16, 17, 23, 30] (S2 := [(0, vb), (1, .slice al ns.length capl), (4, .slice none 0 0), (5, .int .i64 0), (6, .slice aw zc.length capw), (8, .int .u64 n), (9, .int .i64 3), (10, nI zc.length), (11, .int .i64 7), (14, .slice al ns.length capl), (15, nI ns.length), (16, nI i), (17, bLt i ns.length), (23, .bool false), (30, .bool true)]) (A2 := A2) rfl (by kernel_rfl) ?_
      refine EO.done rfl ?_
      refine J.cond true (by kernel_rfl) (fun _ => ?_) (fun h => Bool.noConfusion h)
      refine J.skip ?_
      refine thenJ_n ?_
      refine J.seq ?_
      refine J.block ?_
      refine J.region ?_
      refine EO.run 6 [0, 1, 4, 5, 6, 8, 9, 10, 11, 14, 15, 16, 17, 23, 30, 33, 38] (S2 := [(0, vb), (1, .slice al ns.length capl), (4, .slice none 0 0), (5, .int .i64 0), (6, .slice aw zc.length capw), (8, .int .u64 n), (9, .int .i64 3), (10, nI zc.length), (11, .int .i64 7), (14, .slice al ns.length capl), (15, nI ns.length), (16, nI i), (17, bLt i ns.length), (23, .bool false), (30, .bool true), (33, .slice aw zc.length capw), (38, .int .u8 (IntKind.wrap .u8 (sShr .u64 n 56)))]) (A2 := A2) rfl (by kernel_rfl) ?_
      refine EO.cast (S2 := [(0, vb), (1, .slice al ns.length capl), (4, .slice none 0 0), (5, .int .i64 0), (6, .slice aw zc.length capw), (8, .int .u64 n), (9, .int .i64 3), (10, nI zc.length), (11, .int .i64 7), (14, .slice al ns.length capl), (15, nI ns.length), (16, nI i), (17, bLt i ns.length), (23, .bool false), (30, .bool true), (33, .slice aw zc.length capw), (38, .int .u8 (n / 256 / 256 / 256 / 256 / 256 / 256 / 256 % 256))]) (by rw [shr_b7]) ?_
      obtain ⟨B14, hB14, hxB14, hnB14, hrB14⟩ := new_one (A := A2) hn (n / 256 / 256 / 256 / 256 / 256 / 256 / 256 % 256) (by omega)
      refine EO.run 7 [0, 1, 4, 5, 6, 8, 9, 10, 11, 14, 15, 16, 17, 23, 30, 33, 38, 39] (S2 := [(0, vb), (1, .slice al ns.length capl), (4, .slice none 0 0), (5, .int .i64 0), (6, .slice aw zc.length capw), (8, .int .u64 n), (9, .int .i64 3), (10, nI zc.length), (11, .int .i64 7), (14, .slice al ns.length capl), (15, nI ns.length), (16, nI i), (17, bLt i ns.length), (23, .bool false), (30, .bool true), (33, .slice aw zc.length capw), (38, .int .u8 (n / 256 / 256 / 256 / 256 / 256 / 256 / 256 % 256)), (39, .slice (some ⟨A2.nid, 0, none⟩) 1 1)]) (A2 := A2.push (.cells (u8s [n / 256 / 256 / 256 / 256 / 256 / 256 / 256 % 256]) false false 1)) rfl (by kernel_rfl) ?_
      rw [hB14]
      obtain ⟨w14, C14, hC14, hP14, hk14⟩ := OutV.app (P := Try.prog) (ats := #[22, 22]) (fun _ _ => by kernel_rfl) (hO.ext hxB14) hrB14 (by simp) (by simp only [List.length_append, List.length_cons, List.length_nil] at *; omega) (hx.trans hxB14).size hnB14
      refine EO.append (v := .slice aw zc.length capw) (u := .slice (some ⟨A2.nid, 0, none⟩) 1 1) (w := w14) (A1 := C14) rfl rfl rfl rfl rfl (by kernel_rfl) (by kernel_rfl) (by kernel_rfl) hC14 ?_
      have hO14 : OutV A.size C14 w14 (zc ++ [n / 256 / 256 / 256 / 256 / 256 / 256 / 256 % 256]) := hP14
      have hx14' := (hx.trans hxB14).ak hk14
      refine EO.run 9 [0, 1, 4, 5, 6, 8, 9, 10, 11, 14, 15, 16, 17, 23, 30] (S2 := [(0, vb), (1, .slice al ns.length capl), (4, .slice none 0 0), (5, .int .i64 0), (6, w14), (8, .int .u64 n), (9, .int .i64 3), (10, nI zc.length), (11, .int .i64 7), (14, .slice al ns.length capl), (15, nI ns.length), (16, nI i), (17, bLt i ns.length), (23, .bool false), (30, .bool true)]) (A2 := C14) rfl (by kernel_rfl) ?_
      refine EO.done rfl ?_
      refine blockQ_n ?_
      refine thenJ_n ?_
      refine J.region ?_
      refine EO.run 3 [0, 1, 4, 5, 6, 8, 9, 10, 11, 14, 15, 16, 17, 23, 30] (S2 := [(0, vb), (1, .slice al ns.length capl), (4, .slice none 0 0), (5, .int .i64 0), (6, w14), (8, .int .u64 n), (9, .int .i64 3), (10, nI zc.length), (11, .int .i64 6), (14, .slice al ns.length capl), (15, nI ns.length), (16, nI i), (17, bLt i ns.length), (23, .bool false), (30, .bool true)]) (A2 := C14) rfl (by kernel_rfl) ?_
      refine EO.done rfl ?_
      refine loopQ_n ?_
      refine JL.step ?_
      refine J.seq ?_
      refine J.sr ?_
      refine EO.run 2 [0, 1, 4, 5, 6, 8, 9, 10, 11, 14, 15, 16, 17, 23, 30] (S2 := [(0, vb), (1, .slice al ns.length capl), (4, .slice none 0 0), (5, .int .i64 0), (6, w14), (8, .int .u64 n), (9, .int .i64 3), (10, nI zc.length), (11, .int .i64 6), (14, .slice al ns.length capl), (15, nI ns.length), (16, nI i), (17, bLt i ns.length), (23, .bool false), (30, .bool true)]) (A2 := C14) rfl (by kernel_rfl) ?_
      refine EO.done rfl ?_
      refine J.cond true (by kernel_rfl) (fun _ => ?_) (fun h => Bool.noConfusion h)
      refine J.skip ?_
      refine thenJ_n ?_
      refine J.seq ?_
      refine J.block ?_
      refine J.region ?_
      refine EO.run 6 [0, 1, 4, 5, 6, 8, 9, 10, 11, 14, 15, 16, 17, 23, 30, 33, 38] (S2 := [(0, vb), (1, .slice al ns.length capl), (4, .slice none 0 0), (5, .int .i64 0), (6, w14), (8, .int .u64 n), (9, .int .i64 3), (10, nI zc.length), (11, .int .i64 6), (14, .slice al ns.length capl), (15, nI ns.length), (16, nI i), (17, bLt i ns.length), (23, .bool false), (30, .bool true), (33, w14), (38, .int .u8 (IntKind.wrap .u8 (sShr .u64 n 48)))]) (A2 := C14) rfl (by kernel_rfl) ?_
      refine EO.cast (S2 := [(0, vb), (1, .slice al ns.length capl), (4, .slice none 0 0), (5, .int .i64 0), (6, w14), (8, .int .u64 n), (9, .int .i64 3), (10, nI zc.length), (11, .int .i64 6), (14, .slice al ns.length capl), (15, nI ns.length), (16, nI i), (17, bLt i ns.length), (23, .bool false), (30, .bool true), (33, w14), (38, .int .u8 (n / 256 / 256 / 256 / 256 / 256 / 256 % 256))]) (by rw [shr_b6]) ?_
      obtain ⟨B15, hB15, hxB15, hnB15, hrB15⟩ := new_one (A := C14) hk14.nx (n / 256 / 256 / 256 / 256 / 256 / 256 % 256) (by omega)
      refine EO.run 7 [0, 1, 4, 5, 6, 8, 9, 10, 11, 14, 15, 16, 17, 23, 30, 33, 38, 39] (S2 := [(0, vb), (1, .slice al ns.length capl), (4, .slice none 0 0), (5, .int .i64 0), (6, w14), (8, .int .u64 n), (9, .int .i64 3), (10, nI zc.length), (11, .int .i64 6), (14, .slice al ns.length capl), (15, nI ns.length), (16, nI i), (17, bLt i ns.length), (23, .bool false), (30, .bool true), (33, w14), (38, .int .u8 (n / 256 / 256 / 256 / 256 / 256 / 256 % 256)), (39, .slice (some ⟨C14.nid, 0, none⟩) 1 1)]) (A2 := C14.push (.cells (u8s [n / 256 / 256 / 256 / 256 / 256 / 256 % 256]) false false 1)) rfl (by kernel_rfl) ?_
      rw [hB15]
      obtain ⟨w15, C15, hC15, hP15, hk15⟩ := OutV.app (P := Try.prog) (ats := #[22, 22]) (fun _ _ => by kernel_rfl) (hO14.ext hxB15) hrB15 (by simp) (by simp only [List.length_append, List.length_cons, List.length_nil] at *; omega) (hx14'.trans hxB15).size hnB15
      refine EO.append (v := w14) (u := .slice (some ⟨C14.nid, 0, none⟩) 1 1) (w := w15) (A1 := C15) rfl rfl rfl rfl rfl (by kernel_rfl) (by kernel_rfl) (by kernel_rfl) hC15 ?_
      have hO15 : OutV A.size C15 w15 (zc ++ [n / 256 / 256 / 256 / 256 / 256 / 256 / 256 % 256, n / 256 / 256 / 256 / 256 / 256 / 256 % 256]) := by have hq := hP15; rw [List.append_assoc] at hq; exact hq
      have hx15' := (hx14'.trans hxB15).ak hk15
      refine EO.run 9 [0, 1, 4, 5, 6, 8, 9, 10, 11, 14, 15, 16, 17, 23, 30] (S2 := [(0, vb), (1, .slice al ns.length capl), (4, .slice none 0 0), (5, .int .i64 0), (6, w15), (8, .int .u64 n), (9, .int .i64 3), (10, nI zc.length), (11, .int .i64 6), (14, .slice al ns.length capl), (15, nI ns.length), (16, nI i), (17, bLt i ns.length), (23, .bool false), (30, .bool true)]) (A2 := C15) rfl (by kernel_rfl) ?_
      refine EO.done rfl ?_
      refine blockQ_n ?_
      refine thenJ_n ?_
      refine J.region ?_
      refine EO.run 3 [0, 1, 4, 5, 6, 8, 9, 10, 11, 14, 15, 16, 17, 23, 30] (S2 := [(0, vb), (1, .slice al ns.length capl), (4, .slice none 0 0), (5, .int .i64 0), (6, w15), (8, .int .u64 n), (9, .int .i64 3), (10, nI zc.length), (11, .int .i64 5), (14, .slice al ns.length capl), (15, nI ns.length), (16, nI i), (17, bLt i ns.length), (23, .bool false), (30, .bool true)]) (A2 := C15) rfl (by kernel_rfl) ?_
      refine EO.done rfl ?_
      refine loopQ_n ?_
      refine JL.step ?_
      refine J.seq ?_
      refine J.sr ?_
      refine EO.run 2 [0, 1, 4, 5, 6, 8, 9, 10, 11, 14, 15, 16, 17, 23, 30] (S2 := [(0, vb), (1, .slice al ns.length capl), (4, .slice none 0 0), (5, .int .i64 0), (6, w15), (8, .int .u64 n), (9, .int .i64 3), (10, nI zc.length), (11, .int .i64 5), (14, .slice al ns.length capl), (15, nI ns.length), (16, nI i), (17, bLt i ns.length), (23, .bool false), (30, .bool true)]) (A2 := C15) rfl (by kernel_rfl) ?_
      refine EO.done rfl ?_
      refine J.cond true (by kernel_rfl) (fun _ => ?_) (fun h => Bool.noConfusion h)
      refine J.skip ?_
      refine thenJ_n ?_
      refine J.seq ?_
      refine J.block ?_
      refine J.region ?_
      refine EO.run 6 [0, 1, 4, 5, 6, 8, 9, 10, 11, 14, 15, 16, 17, 23, 30, 33, 38] (S2 := [(0, vb), (1, .slice al ns.length capl), (4, .slice none 0 0), (5, .int .i64 0), (6, w15), (8, .int .u64 n), (9, .int .i64 3), (10, nI zc.length), (11, .int .i64 5), (14, .slice al ns.length capl), (15, nI ns.length), (16, nI i), (17, bLt i ns.length), (23, .bool false), (30, .bool true), (33, w15), (38, .int .u8 (IntKind.wrap .u8 (sShr .u64 n 40)))]) (A2 := C15) rfl (by kernel_rfl) ?_
      refine EO.cast (S2 := [(0, vb), (1, .slice al ns.length capl), (4, .slice none 0 0), (5, .int .i64 0), (6, w15), (8, .int .u64 n), (9, .int .i64 3), (10, nI zc.length), (11, .int .i64 5), (14, .slice al ns.length capl), (15, nI ns.length), (16, nI i), (17, bLt i ns.length), (23, .bool false), (30, .bool true), (33, w15), (38, .int .u8 (n / 256 / 256 / 256 / 256 / 256 % 256))]) (by rw [shr_b5]) ?_
      obtain ⟨B16, hB16, hxB16, hnB16, hrB16⟩ := new_one (A := C15) hk15.nx (n / 256 / 256 / 256 / 256 / 256 % 256) (by omega)
      refine EO.run 7 [0, 1, 4, 5, 6, 8, 9, 10, 11, 14, 15, 16, 17, 23, 30, 33, 38, 39] (S2 := [(0, vb), (1, .slice al ns.length capl), (4, .slice none 0 0), (5, .int .i64 0), (6, w15), (8, .int .u64 n), (9, .int .i64 3), (10, nI zc.length), (11, .int .i64 5), (14, .slice al ns.length capl), (15, nI ns.length), (16, nI i), (17, bLt i ns.length), (23, .bool false), (30, .bool true), (33, w15), (38, .int .u8 (n / 256 / 256 / 256 / 256 / 256 % 256)), (39, .slice (some ⟨C15.nid, 0, none⟩) 1 1)]) (A2 := C15.push (.cells (u8s [n / 256 / 256 / 256 / 256 / 256 % 256]) false false 1)) rfl (by kernel_rfl) ?_
      rw [hB16]
      obtain ⟨w16, C16, hC16, hP16, hk16⟩ := OutV.app (P := Try.prog) (ats := #[22, 22]) (fun _ _ => by kernel_rfl) (hO15.ext hxB16) hrB16 (by simp) (by simp only [List.length_append, List.length_cons, List.length_nil] at *; omega) (hx15'.trans hxB16).size hnB16
      refine EO.append (v := w15) (u := .slice (some ⟨C15.nid, 0, none⟩) 1 1) (w := w16) (A1 := C16) rfl rfl rfl rfl rfl (by kernel_rfl) (by kernel_rfl) (by kernel_rfl) hC16 ?_
      have hO16 : OutV A.size C16 w16 (zc ++ [n / 256 / 256 / 256 / 256 / 256 / 256 / 256 % 256, n / 256 / 256 / 256 / 256 / 256 / 256 % 256, n / 256 / 256 / 256 / 256 / 256 % 256]) := by have hq := hP16; rw [List.append_assoc] at hq; exact hq
      have hx16' := (hx15'.trans hxB16).ak hk16
      refine EO.run 9 [0, 1, 4, 5, 6, 8, 9, 10, 11, 14, 15, 16, 17, 23, 30] (S2 := [(0, vb), (1, .slice al ns.length capl), (4, .slice none 0 0), (5, .int .i64 0), (6, w16), (8, .int .u64 n), (9, .int .i64 3), (10, nI zc.length), (11, .int .i64 5), (14, .slice al ns.length capl), (15, nI ns.length), (16, nI i), (17, bLt i ns.length), (23, .bool false), (30, .bool true)]) (A2 := C16) rfl (by kernel_rfl) ?_
      refine EO.done rfl ?_
      refine blockQ_n ?_
      refine thenJ_n ?_
      refine J.region ?_
      refine EO.run 3 [0, 1, 4, 5, 6, 8, 9, 10, 11, 14, 15, 16, 17, 23, 30] (S2 := [(0, vb), (1, .slice al ns.length capl), (4, .slice none 0 0), (5, .int .i64 0), (6, w16), (8, .int .u64 n), (9, .int .i64 3), (10, nI zc.length), (11, .int .i64 4), (14, .slice al ns.length capl), (15, nI ns.length), (16, nI i), (17, bLt i ns.length), (23, .bool false), (30, .bool true)]) (A2 := C16) rfl (by kernel_rfl) ?_
      refine EO.done rfl ?_
      refine loopQ_n ?_
      refine JL.step ?_
      refine J.seq ?_
      refine J.sr ?_
      refine EO.run 2 [0, 1, 4, 5, 6, 8, 9, 10, 11, 14, 15, 16, 17, 23, 30] (S2 := [(0, vb), (1, .slice al ns.length capl), (4, .slice none 0 0), (5, .int .i64 0), (6, w16), (8, .int .u64 n), (9, .int .i64 3), (10, nI zc.length), (11, .int .i64 4), (14, .slice al ns.length capl), (15, nI ns.length), (16, nI i), (17, bLt i ns.length), (23, .bool false), (30, .bool true)]) (A2 := C16) rfl (by kernel_rfl) ?_
      refine EO.done rfl ?_
      refine J.cond true (by kernel_rfl) (fun _ => ?_) (fun h => Bool.noConfusion h)
      refine J.skip ?_
      refine thenJ_n ?_
      refine J.seq ?_
      refine J.block ?_
      refine J.region ?_
      refine EO.run 6 [0, 1, 4, 5, 6, 8, 9, 10, 11, 14, 15, 16, 17, 23, 30, 33, 38] (S2 := [(0, vb), (1, .slice al ns.length capl), (4, .slice none 0 0), (5, .int .i64 0), (6, w16), (8, .int .u64 n), (9, .int .i64 3), (10, nI zc.length), (11, .int .i64 4), (14, .slice al ns.length capl), (15, nI ns.length), (16, nI i), (17, bLt i ns.length), (23, .bool false), (30, .bool true), (33, w16), (38, .int .u8 (IntKind.wrap .u8 (sShr .u64 n 32)))]) (A2 := C16) rfl (by kernel_rfl) ?_
      refine EO.cast (S2 := [(0, vb), (1, .slice al ns.length capl), (4, .slice none 0 0), (5, .int .i64 0), (6, w16), (8, .int .u64 n), (9, .int .i64 3), (10, nI zc.length), (11, .int .i64 4), (14, .slice al ns.length capl), (15, nI ns.length), (16, nI i), (17, bLt i ns.length), (23, .bool false), (30, .bool true), (33, w16), (38, .int .u8 (n / 256 / 256 / 256 / 256 % 256))]) (by rw [shr_b4]) ?_
      obtain ⟨B17, hB17, hxB17, hnB17, hrB17⟩ := new_one (A := C16) hk16.nx (n / 256 / 256 / 256 / 256 % 256) (by omega)
      refine EO.run 7 [0, 1, 4, 5, 6, 8, 9, 10, 11, 14, 15, 16, 17, 23, 30, 33, 38, 39] (S2 := [(0, vb), (1, .slice al ns.length capl), (4, .slice none 0 0), (5, .int .i64 0), (6, w16), (8, .int .u64 n), (9, .int .i64 3), (10, nI zc.length), (11, .int .i64 4), (14, .slice al ns.length capl), (15, nI ns.length), (16, nI i), (17, bLt i ns.length), (23, .bool false), (30, .bool true), (33, w16), (38, .int .u8 (n / 256 / 256 / 256 / 256 % 256)), (39, .slice (some ⟨C16.nid, 0, none⟩) 1 1)]) (A2 := C16.push (.cells (u8s [n / 256 / 256 / 256 / 256 % 256]) false false 1)) rfl (by kernel_rfl) ?_
      rw [hB17]
      obtain ⟨w17, C17, hC17, hP17, hk17⟩ := OutV.app (P := Try.prog) (ats := #[22, 22]) (fun _ _ => by kernel_rfl) (hO16.ext hxB17) hrB17 (by simp) (by simp only [List.length_append, List.length_cons, List.length_nil] at *; omega) (hx16'.trans hxB17).size hnB17
      refine EO.append (v := w16) (u := .slice (some ⟨C16.nid, 0, none⟩) 1 1) (w := w17) (A1 := C17) rfl rfl rfl rfl rfl (by kernel_rfl) (by kernel_rfl) (by kernel_rfl) hC17 ?_
      have hO17 : OutV A.size C17 w17 (zc ++ [n / 256 / 256 / 256 / 256 / 256 / 256 / 256 % 256, n / 256 / 256 / 256 / 256 / 256 / 256 % 256, n / 256 / 256 / 256 / 256 / 256 % 256, n / 256 / 256 / 256 / 256 % 256]) := by have hq := hP17; rw [List.append_assoc] at hq; exact hq
      have hx17' := (hx16'.trans hxB17).ak hk17
      refine EO.run 9 [0, 1, 4, 5, 6, 8, 9, 10, 11, 14, 15, 16, 17, 23, 30] (S2 := [(0, vb), (1, .slice al ns.length capl), (4, .slice none 0 0), (5, .int .i64 0), (6, w17), (8, .int .u64 n), (9, .int .i64 3), (10, nI zc.length), (11, .int .i64 4), (14, .slice al ns.length capl), (15, nI ns.length), (16, nI i), (17, bLt i ns.length), (23, .bool false), (30, .bool true)]) (A2 := C17) rfl (by kernel_rfl) ?_
      refine EO.done rfl ?_
      refine blockQ_n ?_
      refine thenJ_n ?_
      refine J.region ?_
      refine EO.run 3 [0, 1, 4, 5, 6, 8, 9, 10, 11, 14, 15, 16, 17, 23, 30] (S2 := [(0, vb), (1, .slice al ns.length capl), (4, .slice none 0 0), (5, .int .i64 0), (6, w17), (8, .int .u64 n), (9, .int .i64 3), (10, nI zc.length), (11, .int .i64 3), (14, .slice al ns.length capl), (15, nI ns.length), (16, nI i), (17, bLt i ns.length), (23, .bool false), (30, .bool true)]) (A2 := C17) rfl (by kernel_rfl) ?_
      refine EO.done rfl ?_
      refine loopQ_n ?_
      refine JL.step ?_
      refine J.seq ?_
      refine J.sr ?_
      refine EO.run 2 [0, 1, 4, 5, 6, 8, 9, 10, 11, 14, 15, 16, 17, 23, 30] (S2 := [(0, vb), (1, .slice al ns.length capl), (4, .slice none 0 0), (5, .int .i64 0), (6, w17), (8, .int .u64 n), (9, .int .i64 3), (10, nI zc.length), (11, .int .i64 3), (14, .slice al ns.length capl), (15, nI ns.length), (16, nI i), (17, bLt i ns.length), (23, .bool false), (30, .bool true)]) (A2 := C17) rfl (by kernel_rfl) ?_
      refine EO.done rfl ?_
      refine J.cond true (by kernel_rfl) (fun _ => ?_) (fun h => Bool.noConfusion h)
      refine J.skip ?_
      refine thenJ_n ?_
      refine J.seq ?_
      refine J.block ?_
      refine J.region ?_
      refine EO.run 6 [0, 1, 4, 5, 6, 8, 9, 10, 11, 14, 15, 16, 17, 23, 30, 33, 38] (S2 := [(0, vb), (1, .slice al ns.length capl), (4, .slice none 0 0), (5, .int .i64 0), (6, w17), (8, .int .u64 n), (9, .int .i64 3), (10, nI zc.length), (11, .int .i64 3), (14, .slice al ns.length capl), (15, nI ns.length), (16, nI i), (17, bLt i ns.length), (23, .bool false), (30, .bool true), (33, w17), (38, .int .u8 (IntKind.wrap .u8 (sShr .u64 n 24)))]) (A2 := C17) rfl (by kernel_rfl) ?_
      refine EO.cast (S2 := [(0, vb), (1, .slice al ns.length capl), (4, .slice none 0 0), (5, .int .i64 0), (6, w17), (8, .int .u64 n), (9, .int .i64 3), (10, nI zc.length), (11, .int .i64 3), (14, .slice al ns.length capl), (15, nI ns.length), (16, nI i), (17, bLt i ns.length), (23, .bool false), (30, .bool true), (33, w17), (38, .int .u8 (n / 256 / 256 / 256 % 256))]) (by rw [shr_b3]) ?_
      obtain ⟨B18, hB18, hxB18, hnB18, hrB18⟩ := new_one (A := C17) hk17.nx (n / 256 / 256 / 256 % 256) (by omega)
      refine EO.run 7 [0, 1, 4, 5, 6, 8, 9, 10, 11, 14, 15, 16, 17, 23, 30, 33, 38, 39] (S2 := [(0, vb), (1, .slice al ns.length capl), (4, .slice none 0 0), (5, .int .i64 0), (6, w17), (8, .int .u64 n), (9, .int .i64 3), (10, nI zc.length), (11, .int .i64 3), (14, .slice al ns.length capl), (15, nI ns.length), (16, nI i), (17, bLt i ns.length), (23, .bool false), (30, .bool true), (33, w17), (38, .int .u8 (n / 256 / 256 / 256 % 256)), (39, .slice (some ⟨C17.nid, 0, none⟩) 1 1)]) (A2 := C17.push (.cells (u8s [n / 256 / 256 / 256 % 256]) false false 1)) rfl (by kernel_rfl) ?_
      rw [hB18]
      obtain ⟨w18, C18, hC18, hP18, hk18⟩ := OutV.app (P := Try.prog) (ats := #[22, 22]) (fun _ _ => by kernel_rfl) (hO17.ext hxB18) hrB18 (by simp) (by simp only [List.length_append, List.length_cons, List.length_nil] at *; omega) (hx17'.trans hxB18).size hnB18
      refine EO.append (v := w17) (u := .slice (some ⟨C17.nid, 0, none⟩) 1 1) (w := w18) (A1 := C18) rfl rfl rfl rfl rfl (by kernel_rfl) (by kernel_rfl) (by kernel_rfl) hC18 ?_
      have hO18 : OutV A.size C18 w18 (zc ++ [n / 256 / 256 / 256 / 256 / 256 / 256 / 256 % 256, n / 256 / 256 / 256 / 256 / 256 / 256 % 256, n / 256 / 256 / 256 / 256 / 256 % 256, n / 256 / 256 / 256 / 256 % 256, n / 256 / 256 / 256 % 256]) := by have hq := hP18; rw [List.append_assoc] at hq; exact hq
      have hx18' := (hx17'.trans hxB18).ak hk18
      refine EO.run 9 [0, 1, 4, 5, 6, 8, 9, 10, 11, 14, 15, 16, 17, 23, 30] (S2 := [(0, vb), (1, .slice al ns.length capl), (4, .slice none 0 0), (5, .int .i64 0), (6, w18), (8, .int .u64 n), (9, .int .i64 3), (10, nI zc.length), (11, .int .i64 3), (14, .slice al ns.length capl), (15, nI ns.length), (16, nI i), (17, bLt i ns.length), (23, .bool false), (30, .bool true)]) (A2 := C18) rfl (by kernel_rfl) ?_
      refine EO.done rfl ?_
      refine blockQ_n ?_
      refine thenJ_n ?_
      refine J.region ?_
      refine EO.run 3 [0, 1, 4, 5, 6, 8, 9, 10, 11, 14, 15, 16, 17, 23, 30] (S2 := [(0, vb), (1, .slice al ns.length capl), (4, .slice none 0 0), (5, .int .i64 0), (6, w18), (8, .int .u64 n), (9, .int .i64 3), (10, nI zc.length), (11, .int .i64 2), (14, .slice al ns.length capl), (15, nI ns.length), (16, nI i), (17, bLt i ns.length), (23, .bool false), (30, .bool true)]) (A2 := C18) rfl (by kernel_rfl) ?_
      refine EO.done rfl ?_
      refine loopQ_n ?_
      refine JL.step ?_
      refine J.seq ?_
      refine J.sr ?_
      refine EO.run 2 [0, 1, 4, 5, 6, 8, 9, 10, 11, 14, 15, 16, 17, 23, 30] (S2 := [(0, vb), (1, .slice al ns.length capl), (4, .slice none 0 0), (5, .int .i64 0), (6, w18), (8, .int .u64 n), (9, .int .i64 3), (10, nI zc.length), (11, .int .i64 2), (14, .slice al ns.length capl), (15, nI ns.length), (16, nI i), (17, bLt i ns.length), (23, .bool false), (30, .bool true)]) (A2 := C18) rfl (by kernel_rfl) ?_
      refine EO.done rfl ?_
      refine J.cond true (by kernel_rfl) (fun _ => ?_) (fun h => Bool.noConfusion h)
      refine J.skip ?_
      refine thenJ_n ?_
      refine J.seq ?_
      refine J.block ?_
      refine J.region ?_
      refine EO.run 6 [0, 1, 4, 5, 6, 8, 9, 10, 11, 14, 15, 16, 17, 23, 30, 33, 38] (S2 := [(0, vb), (1, .slice al ns.length capl), (4, .slice none 0 0), (5, .int .i64 0), (6, w18), (8, .int .u64 n), (9, .int .i64 3), (10, nI zc.length), (11, .int .i64 2), (14, .slice al ns.length capl), (15, nI ns.length), (16, nI i), (17, bLt i ns.length), (23, .bool false), (30, .bool true), (33, w18), (38, .int .u8 (IntKind.wrap .u8 (sShr .u64 n 16)))]) (A2 := C18) rfl (by kernel_rfl) ?_
      refine EO.cast (S2 := [(0, vb), (1, .slice al ns.length capl), (4, .slice none 0 0), (5, .int .i64 0), (6, w18), (8, .int .u64 n), (9, .int .i64 3), (10, nI zc.length), (11, .int .i64 2), (14, .slice al ns.length capl), (15, nI ns.length), (16, nI i), (17, bLt i ns.length), (23, .bool false), (30, .bool true), (33, w18), (38, .int .u8 (n / 256 / 256 % 256))]) (by rw [shr_b2]) ?_
      obtain ⟨B19, hB19, hxB19, hnB19, hrB19⟩ := new_one (A := C18) hk18.nx (n / 256 / 256 % 256) (by omega)
      refine EO.run 7 [0, 1, 4, 5, 6, 8, 9, 10, 11, 14, 15, 16, 17, 23, 30, 33, 38, 39] (S2 := [(0, vb), (1, .slice al ns.length capl), (4, .slice none 0 0), (5, .int .i64 0), (6, w18), (8, .int .u64 n), (9, .int .i64 3), (10, nI zc.length), (11, .int .i64 2), (14, .slice al ns.length capl), (15, nI ns.length), (16, nI i), (17, bLt i ns.length), (23, .bool false), (30, .bool true), (33, w18), (38, .int .u8 (n / 256 / 256 % 256)), (39, .slice (some ⟨C18.nid, 0, none⟩) 1 1)]) (A2 := C18.push (.cells (u8s [n / 256 / 256 % 256]) false false 1)) rfl (by kernel_rfl) ?_
      rw [hB19]
      obtain ⟨w19, C19, hC19, hP19, hk19⟩ := OutV.app (P := Try.prog) (ats := #[22, 22]) (fun _ _ => by kernel_rfl) (hO18.ext hxB19) hrB19 (by simp) (by simp only [List.length_append, List.length_cons, List.length_nil] at *; omega) (hx18'.trans hxB19).size hnB19
      refine EO.append (v := w18) (u := .slice (some ⟨C18.nid, 0, none⟩) 1 1) (w := w19) (A1 := C19) rfl rfl rfl rfl rfl (by kernel_rfl) (by kernel_rfl) (by kernel_rfl) hC19 ?_
      have hO19 : OutV A.size C19 w19 (zc ++ [n / 256 / 256 / 256 / 256 / 256 / 256 / 256 % 256, n / 256 / 256 / 256 / 256 / 256 / 256 % 256, n / 256 / 256 / 256 / 256 / 256 % 256, n / 256 / 256 / 256 / 256 % 256, n / 256 / 256 / 256 % 256, n / 256 / 256 % 256]) := by have hq := hP19; rw [List.append_assoc] at hq; exact hq
      have hx19' := (hx18'.trans hxB19).ak hk19
      refine EO.run 9 [0, 1, 4, 5, 6, 8, 9, 10, 11, 14, 15, 16, 17, 23, 30] (S2 := [(0, vb), (1, .slice al ns.length capl), (4, .slice none 0 0), (5, .int .i64 0), (6, w19), (8, .int .u64 n), (9, .int .i64 3), (10, nI zc.length), (11, .int .i64 2), (14, .slice al ns.length capl), (15, nI ns.length), (16, nI i), (17, bLt i ns.length), (23, .bool false), (30, .bool true)]) (A2 := C19) rfl (by kernel_rfl) ?_
      refine EO.done rfl ?_
      refine blockQ_n ?_
      refine thenJ_n ?_
      refine J.region ?_
      refine EO.run 3 [0, 1, 4, 5, 6, 8, 9, 10, 11, 14, 15, 16, 17, 23, 30] (S2 := [(0, vb), (1, .slice al ns.length capl), (4, .slice none 0 0), (5, .int .i64 0), (6, w19), (8, .int .u64 n), (9, .int .i64 3), (10, nI zc.length), (11, .int .i64 1), (14, .slice al ns.length capl), (15, nI ns.length), (16, nI i), (17, bLt i ns.length), (23, .bool false), (30, .bool true)]) (A2 := C19) rfl (by kernel_rfl) ?_
      refine EO.done rfl ?_
      refine loopQ_n ?_
      refine JL.step ?_
      refine J.seq ?_
      refine J.sr ?_
      refine EO.run 2 [0, 1, 4, 5, 6, 8, 9, 10, 11, 14, 15, 16, 17, 23, 30] (S2 := [(0, vb), (1, .slice al ns.length capl), (4, .slice none 0 0), (5, .int .i64 0), (6, w19), (8, .int .u64 n), (9, .int .i64 3), (10, nI zc.length), (11, .int .i64 1), (14, .slice al ns.length capl), (15, nI ns.length), (16, nI i), (17, bLt i ns.length), (23, .bool false), (30, .bool true)]) (A2 := C19) rfl (by kernel_rfl) ?_
      refine EO.done rfl ?_
      refine J.cond true (by kernel_rfl) (fun _ => ?_) (fun h => Bool.noConfusion h)
      refine J.skip ?_
      refine thenJ_n ?_
      refine J.seq ?_
      refine J.block ?_
      refine J.region ?_
      refine EO.run 6 [0, 1, 4, 5, 6, 8, 9, 10, 11, 14, 15, 16, 17, 23, 30, 33, 38] (S2 := [(0, vb), (1, .slice al ns.length capl), (4, .slice none 0 0), (5, .int .i64 0), (6, w19), (8, .int .u64 n), (9, .int .i64 3), (10, nI zc.length), (11, .int .i64 1), (14, .slice al ns.length capl), (15, nI ns.length), (16, nI i), (17, bLt i ns.length), (23, .bool false), (30, .bool true), (33, w19), (38, .int .u8 (IntKind.wrap .u8 (sShr .u64 n 8)))]) (A2 := C19) rfl (by kernel_rfl) ?_
      refine EO.cast (S2 := [(0, vb), (1, .slice al ns.length capl), (4, .slice none 0 0), (5, .int .i64 0), (6, w19), (8, .int .u64 n), (9, .int .i64 3), (10, nI zc.length), (11, .int .i64 1), (14, .slice al ns.length capl), (15, nI ns.length), (16, nI i), (17, bLt i ns.length), (23, .bool false), (30, .bool true), (33, w19), (38, .int .u8 (n / 256 % 256))]) (by rw [shr_b1]) ?_
      obtain ⟨B20, hB20, hxB20, hnB20, hrB20⟩ := new_one (A := C19) hk19.nx (n / 256 % 256) (by omega)
      refine EO.run 7 [0, 1, 4, 5, 6, 8, 9, 10, 11, 14, 15, 16, 17, 23, 30, 33, 38, 39] (S2 := [(0, vb), (1, .slice al ns.length capl), (4, .slice none 0 0), (5, .int .i64 0), (6, w19), (8, .int .u64 n), (9, .int .i64 3), (10, nI zc.length), (11, .int .i64 1), (14, .slice al ns.length capl), (15, nI ns.length), (16, nI i), (17, bLt i ns.length), (23, .bool false), (30, .bool true), (33, w19), (38, .int .u8 (n / 256 % 256)), (39, .slice (some ⟨C19.nid, 0, none⟩) 1 1)]) (A2 := C19.push (.cells (u8s [n / 256 % 256]) false false 1)) rfl (by kernel_rfl) ?_
      rw [hB20]
      obtain ⟨w20, C20, hC20, hP20, hk20⟩ := OutV.app (P := Try.prog) (ats := #[22, 22]) (fun _ _ => by kernel_rfl) (hO19.ext hxB20) hrB20 (by simp) (by simp only [List.length_append, List.length_cons, List.length_nil] at *; omega) (hx19'.trans hxB20).size hnB20
      refine EO.append (v := w19) (u := .slice (some ⟨C19.nid, 0, none⟩) 1 1) (w := w20) (A1 := C20) rfl rfl rfl rfl rfl (by kernel_rfl) (by kernel_rfl) (by kernel_rfl) hC20 ?_
      have hO20 : OutV A.size C20 w20 (zc ++ [n / 256 / 256 / 256 / 256 / 256 / 256 / 256 % 256, n / 256 / 256 / 256 / 256 / 256 / 256 % 256, n / 256 / 256 / 256 / 256 / 256 % 256, n / 256 / 256 / 256 / 256 % 256, n / 256 / 256 / 256 % 256, n / 256 / 256 % 256, n / 256 % 256]) := by have hq := hP20; rw [List.append_assoc] at hq; exact hq
      have hx20' := (hx19'.trans hxB20).ak hk20
      refine EO.run 9 [0, 1, 4, 5, 6, 8, 9, 10, 11, 14, 15, 16, 17, 23, 30] (S2 := [(0, vb), (1, .slice al ns.length capl), (4, .slice none 0 0), (5, .int .i64 0), (6, w20), (8, .int .u64 n), (9, .int .i64 3), (10, nI zc.length), (11, .int .i64 1), (14, .slice al ns.length capl), (15, nI ns.length), (16, nI i), (17, bLt i ns.length), (23, .bool false), (30, .bool true)]) (A2 := C20) rfl (by kernel_rfl) ?_
      refine EO.done rfl ?_
      refine blockQ_n ?_
      refine thenJ_n ?_
      refine J.region ?_
      refine EO.run 3 [0, 1, 4, 5, 6, 8, 9, 10, 11, 14, 15, 16, 17, 23, 30] (S2 := [(0, vb), (1, .slice al ns.length capl), (4, .slice none 0 0), (5, .int .i64 0), (6, w20), (8, .int .u64 n), (9, .int .i64 3), (10, nI zc.length), (11, .int .i64 0), (14, .slice al ns.length capl), (15, nI ns.length), (16, nI i), (17, bLt i ns.length), (23, .bool false), (30, .bool true)]) (A2 := C20) rfl (by kernel_rfl) ?_
      refine EO.done rfl ?_
      refine loopQ_n ?_
      refine JL.step ?_
      refine J.seq ?_
      refine J.sr ?_
      refine EO.run 2 [0, 1, 4, 5, 6, 8, 9, 10, 11, 14, 15, 16, 17, 23, 30] (S2 := [(0, vb), (1, .slice al ns.length capl), (4, .slice none 0 0), (5, .int .i64 0), (6, w20), (8, .int .u64 n), (9, .int .i64 3), (10, nI zc.length), (11, .int .i64 0), (14, .slice al ns.length capl), (15, nI ns.length), (16, nI i), (17, bLt i ns.length), (23, .bool false), (30, .bool true)]) (A2 := C20) rfl (by kernel_rfl) ?_
      refine EO.done rfl ?_
      refine J.cond true (by kernel_rfl) (fun _ => ?_) (fun h => Bool.noConfusion h)
      refine J.skip ?_
      refine thenJ_n ?_
      refine J.seq ?_
      refine J.block ?_
      refine J.region ?_
      refine EO.run 6 [0, 1, 4, 5, 6, 8, 9, 10, 11, 14, 15, 16, 17, 23, 30, 33, 38] (S2 := [(0, vb), (1, .slice al ns.length capl), (4, .slice none 0 0), (5, .int .i64 0), (6, w20), (8, .int .u64 n), (9, .int .i64 3), (10, nI zc.length), (11, .int .i64 0), (14, .slice al ns.length capl), (15, nI ns.length), (16, nI i), (17, bLt i ns.length), (23, .bool false), (30, .bool true), (33, w20), (38, .int .u8 (IntKind.wrap .u8 (sShr .u64 n 0)))]) (A2 := C20) rfl (by kernel_rfl) ?_
      refine EO.cast (S2 := [(0, vb), (1, .slice al ns.length capl), (4, .slice none 0 0), (5, .int .i64 0), (6, w20), (8, .int .u64 n), (9, .int .i64 3), (10, nI zc.length), (11, .int .i64 0), (14, .slice al ns.length capl), (15, nI ns.length), (16, nI i), (17, bLt i ns.length), (23, .bool false), (30, .bool true), (33, w20), (38, .int .u8 (n % 256))]) (by rw [shr_b0]) ?_
      obtain ⟨B21, hB21, hxB21, hnB21, hrB21⟩ := new_one (A := C20) hk20.nx (n % 256) (by omega)
      refine EO.run 7 [0, 1, 4, 5, 6, 8, 9, 10, 11, 14, 15, 16, 17, 23, 30, 33, 38, 39] (S2 := [(0, vb), (1, .slice al ns.length capl), (4, .slice none 0 0), (5, .int .i64 0), (6, w20), (8, .int .u64 n), (9, .int .i64 3), (10, nI zc.length), (11, .int .i64 0), (14, .slice al ns.length capl), (15, nI ns.length), (16, nI i), (17, bLt i ns.length), (23, .bool false), (30, .bool true), (33, w20), (38, .int .u8 (n % 256)), (39, .slice (some ⟨C20.nid, 0, none⟩) 1 1)]) (A2 := C20.push (.cells (u8s [n % 256]) false false 1)) rfl (by kernel_rfl) ?_
      rw [hB21]
      obtain ⟨w21, C21, hC21, hP21, hk21⟩ := OutV.app (P := Try.prog) (ats := #[22, 22]) (fun _ _ => by kernel_rfl) (hO20.ext hxB21) hrB21 (by simp) (by simp only [List.length_append, List.length_cons, List.length_nil] at *; omega) (hx20'.trans hxB21).size hnB21
      refine EO.append (v := w20) (u := .slice (some ⟨C20.nid, 0, none⟩) 1 1) (w := w21) (A1 := C21) rfl rfl rfl rfl rfl (by kernel_rfl) (by kernel_rfl) (by kernel_rfl) hC21 ?_
      have hO21 : OutV A.size C21 w21 (zc ++ [n / 256 / 256 / 256 / 256 / 256 / 256 / 256 % 256, n / 256 / 256 / 256 / 256 / 256 / 256 % 256, n / 256 / 256 / 256 / 256 / 256 % 256, n / 256 / 256 / 256 / 256 % 256, n / 256 / 256 / 256 % 256, n / 256 / 256 % 256, n / 256 % 256, n % 256]) := by have hq := hP21; rw [List.append_assoc] at hq; exact hq
      have hx21' := (hx20'.trans hxB21).ak hk21
      refine EO.run 9 [0, 1, 4, 5, 6, 8, 9, 10, 11, 14, 15, 16, 17, 23, 30] (S2 := [(0, vb), (1, .slice al ns.length capl), (4, .slice none 0 0), (5, .int .i64 0), (6, w21), (8, .int .u64 n), (9, .int .i64 3), (10, nI zc.length), (11, .int .i64 0), (14, .slice al ns.length capl), (15, nI ns.length), (16, nI i), (17, bLt i ns.length), (23, .bool false), (30, .bool true)]) (A2 := C21) rfl (by kernel_rfl) ?_
      refine EO.done rfl ?_
      refine blockQ_n ?_
      refine thenJ_n ?_
      refine J.region ?_
      refine EO.run 3 [0, 1, 4, 5, 6, 8, 9, 10, 11, 14, 15, 16, 17, 23, 30] (S2 := [(0, vb), (1, .slice al ns.length capl), (4, .slice none 0 0), (5, .int .i64 0), (6, w21), (8, .int .u64 n), (9, .int .i64 3), (10, nI zc.length), (11, .int .i64 (-1)), (14, .slice al ns.length capl), (15, nI ns.length), (16, nI i), (17, bLt i ns.length), (23, .bool false), (30, .bool true)]) (A2 := C21) rfl (by kernel_rfl) ?_
      refine EO.done rfl ?_
      refine loopQ_n ?_
      refine JL.step ?_
      refine J.seq ?_
      refine J.sr ?_
      refine EO.run 2 [0, 1, 4, 5, 6, 8, 9, 10, 11, 14, 15, 16, 17, 23, 30] (S2 := [(0, vb), (1, .slice al ns.length capl), (4, .slice none 0 0), (5, .int .i64 0), (6, w21), (8, .int .u64 n), (9, .int .i64 3), (10, nI zc.length), (11, .int .i64 (-1)), (14, .slice al ns.length capl), (15, nI ns.length), (16, nI i), (17, bLt i ns.length), (23, .bool false), (30, .bool false)]) (A2 := C21) rfl (by kernel_rfl) ?_
      refine EO.done rfl ?_
      refine J.cond false (by kernel_rfl) (fun h => Bool.noConfusion h) (fun _ => ?_)
      refine J.exit ?_
      refine thenJ_e ?_
      refine loopQ_e ?_
      refine blockQ_hit ?_
      refine thenJ_n ?_
      obtain ⟨b22, hw22, _, hOwn22⟩ := hO21.at_ (by simp)
      subst hw22
      refine J.region ?_
      refine EO.run 2 [0, 1, 4, 5, 6, 8, 9, 10, 11, 14, 15, 16, 17, 23, 30, 41, 42] (S2 := [(0, vb), (1, .slice al ns.length capl), (4, .slice none 0 0), (5, .int .i64 0), (6, .slice (some ⟨b22, 0, none⟩) ((zc ++ [n / 256 / 256 / 256 / 256 / 256 / 256 / 256 % 256, n / 256 / 256 / 256 / 256 / 256 / 256 % 256, n / 256 / 256 / 256 / 256 / 256 % 256, n / 256 / 256 / 256 / 256 % 256, n / 256 / 256 / 256 % 256, n / 256 / 256 % 256, n / 256 % 256, n % 256]).length) ((zc ++ [n / 256 / 256 / 256 / 256 / 256 / 256 / 256 % 256, n / 256 / 256 / 256 / 256 / 256 / 256 % 256, n / 256 / 256 / 256 / 256 / 256 % 256, n / 256 / 256 / 256 / 256 % 256, n / 256 / 256 / 256 % 256, n / 256 / 256 % 256, n / 256 % 256, n % 256]).length)), (8, .int .u64 n), (9, .int .i64 3), (10, nI zc.length), (11, .int .i64 (-1)), (14, .slice al ns.length capl), (15, nI ns.length), (16, nI i), (17, bLt i ns.length), (23, .bool false), (30, .bool false), (41, .slice (some ⟨b22, 0, none⟩) ((zc ++ [n / 256 / 256 / 256 / 256 / 256 / 256 / 256 % 256, n / 256 / 256 / 256 / 256 / 256 / 256 % 256, n / 256 / 256 / 256 / 256 / 256 % 256, n / 256 / 256 / 256 / 256 % 256, n / 256 / 256 / 256 % 256, n / 256 / 256 % 256, n / 256 % 256, n % 256]).length) ((zc ++ [n / 256 / 256 / 256 / 256 / 256 / 256 / 256 % 256, n / 256 / 256 / 256 / 256 / 256 / 256 % 256, n / 256 / 256 / 256 / 256 / 256 % 256, n / 256 / 256 / 256 / 256 % 256, n / 256 / 256 / 256 % 256, n / 256 / 256 % 256, n / 256 % 256, n % 256]).length)), (42, nI zc.length)]) (A2 := C21) rfl (by kernel_rfl) ?_
      refine EO.index (v := .slice (some ⟨b22, 0, none⟩) ((zc ++ [n / 256 / 256 / 256 / 256 / 256 / 256 / 256 % 256, n / 256 / 256 / 256 / 256 / 256 / 256 % 256, n / 256 / 256 / 256 / 256 / 256 % 256, n / 256 / 256 / 256 / 256 % 256, n / 256 / 256 / 256 % 256, n / 256 / 256 % 256, n / 256 % 256, n % 256]).length) ((zc ++ [n / 256 / 256 / 256 / 256 / 256 / 256 / 256 % 256, n / 256 / 256 / 256 / 256 / 256 / 256 % 256, n / 256 / 256 / 256 / 256 / 256 % 256, n / 256 / 256 / 256 / 256 % 256, n / 256 / 256 / 256 % 256, n / 256 / 256 % 256, n / 256 % 256, n % 256]).length)) (u := .int .i64 (Int.ofNat zc.length)) (w := .pointer (some ⟨b22, 0 + zc.length * 1, none⟩)) rfl rfl rfl (by kernel_rfl) (by kernel_rfl) (by kernel_rfl) (aindexAddr_slice (elem := 5) (size := 1) (by kernel_rfl) (by kernel_rfl) (by simp)) ?_
      refine EO.load (ad := ⟨b22, 0 + zc.length * 1, none⟩) (w := .int .u8 (n / 256 / 256 / 256 / 256 / 256 / 256 / 256 % 256)) rfl rfl rfl (by kernel_rfl) (by kernel_rfl) (hOwn22.row.load (by kernel_rfl) (by rw [List.getElem?_append_right (Nat.le_refl _)]; simp)) ?_
      refine EO.run 8 [0, 1, 4, 5, 6, 8, 9, 10, 11, 14, 15, 16, 17, 23, 30, 41, 42, 48] (S2 := [(0, vb), (1, .slice al ns.length capl), (4, .slice none 0 0), (5, .int .i64 0), (6, .slice (some ⟨b22, 0, none⟩) ((zc ++ [n / 256 / 256 / 256 / 256 / 256 / 256 / 256 % 256, n / 256 / 256 / 256 / 256 / 256 / 256 % 256, n / 256 / 256 / 256 / 256 / 256 % 256, n / 256 / 256 / 256 / 256 % 256, n / 256 / 256 / 256 % 256, n / 256 / 256 % 256, n / 256 % 256, n % 256]).length) ((zc ++ [n / 256 / 256 / 256 / 256 / 256 / 256 / 256 % 256, n / 256 / 256 / 256 / 256 / 256 / 256 % 256, n / 256 / 256 / 256 / 256 / 256 % 256, n / 256 / 256 / 256 / 256 % 256, n / 256 / 256 / 256 % 256, n / 256 / 256 % 256, n / 256 % 256, n % 256]).length)), (8, .int .u64 n), (9, .int .i64 3), (10, nI zc.length), (11, .int .i64 (-1)), (14, .slice al ns.length capl), (15, nI ns.length), (16, nI i), (17, bLt i ns.length), (23, .bool false), (30, .bool false), (41, .slice (some ⟨b22, 0, none⟩) ((zc ++ [n / 256 / 256 / 256 / 256 / 256 / 256 / 256 % 256, n / 256 / 256 / 256 / 256 / 256 / 256 % 256, n / 256 / 256 / 256 / 256 / 256 % 256, n / 256 / 256 / 256 / 256 % 256, n / 256 / 256 / 256 % 256, n / 256 / 256 % 256, n / 256 % 256, n % 256]).length) ((zc ++ [n / 256 / 256 / 256 / 256 / 256 / 256 / 256 % 256, n / 256 / 256 / 256 / 256 / 256 / 256 % 256, n / 256 / 256 / 256 / 256 / 256 % 256, n / 256 / 256 / 256 / 256 % 256, n / 256 / 256 / 256 % 256, n / 256 / 256 % 256, n / 256 % 256, n % 256]).length)), (42, nI zc.length), (48, .int .u8 (bOr .u8 (n / 256 / 256 / 256 / 256 / 256 / 256 / 256 % 256) 192))]) (A2 := C21) rfl (by kernel_rfl) ?_
      refine EO.cast (S2 := [(0, vb), (1, .slice al ns.length capl), (4, .slice none 0 0), (5, .int .i64 0), (6, .slice (some ⟨b22, 0, none⟩) ((zc ++ [n / 256 / 256 / 256 / 256 / 256 / 256 / 256 % 256, n / 256 / 256 / 256 / 256 / 256 / 256 % 256, n / 256 / 256 / 256 / 256 / 256 % 256, n / 256 / 256 / 256 / 256 % 256, n / 256 / 256 / 256 % 256, n / 256 / 256 % 256, n / 256 % 256, n % 256]).length) ((zc ++ [n / 256 / 256 / 256 / 256 / 256 / 256 / 256 % 256, n / 256 / 256 / 256 / 256 / 256 / 256 % 256, n / 256 / 256 / 256 / 256 / 256 % 256, n / 256 / 256 / 256 / 256 % 256, n / 256 / 256 / 256 % 256, n / 256 / 256 % 256, n / 256 % 256, n % 256]).length)), (8, .int .u64 n), (9, .int .i64 3), (10, nI zc.length), (11, .int .i64 (-1)), (14, .slice al ns.length capl), (15, nI ns.length), (16, nI i), (17, bLt i ns.length), (23, .bool false), (30, .bool false), (41, .slice (some ⟨b22, 0, none⟩) ((zc ++ [n / 256 / 256 / 256 / 256 / 256 / 256 / 256 % 256, n / 256 / 256 / 256 / 256 / 256 / 256 % 256, n / 256 / 256 / 256 / 256 / 256 % 256, n / 256 / 256 / 256 / 256 % 256, n / 256 / 256 / 256 % 256, n / 256 / 256 % 256, n / 256 % 256, n % 256]).length) ((zc ++ [n / 256 / 256 / 256 / 256 / 256 / 256 / 256 % 256, n / 256 / 256 / 256 / 256 / 256 / 256 % 256, n / 256 / 256 / 256 / 256 / 256 % 256, n / 256 / 256 / 256 / 256 % 256, n / 256 / 256 / 256 % 256, n / 256 / 256 % 256, n / 256 % 256, n % 256]).length)), (42, nI zc.length), (48, .int .u8 (n / 256 / 256 / 256 / 256 / 256 / 256 / 256 % 256 + 192))]) (by rw [show bOr .u8 (n / 256 / 256 / 256 / 256 / 256 / 256 / 256 % 256) 192 = n / 256 / 256 / 256 / 256 / 256 / 256 / 256 % 256 + 192 from or_top (by omega) (by omega) 3 (by decide)]) ?_
      refine EO.index (v := .slice (some ⟨b22, 0, none⟩) ((zc ++ [n / 256 / 256 / 256 / 256 / 256 / 256 / 256 % 256, n / 256 / 256 / 256 / 256 / 256 / 256 % 256, n / 256 / 256 / 256 / 256 / 256 % 256, n / 256 / 256 / 256 / 256 % 256, n / 256 / 256 / 256 % 256, n / 256 / 256 % 256, n / 256 % 256, n % 256]).length) ((zc ++ [n / 256 / 256 / 256 / 256 / 256 / 256 / 256 % 256, n / 256 / 256 / 256 / 256 / 256 / 256 % 256, n / 256 / 256 / 256 / 256 / 256 % 256, n / 256 / 256 / 256 / 256 % 256, n / 256 / 256 / 256 % 256, n / 256 / 256 % 256, n / 256 % 256, n % 256]).length)) (u := .int .i64 (Int.ofNat zc.length)) (w := .pointer (some ⟨b22, 0 + zc.length * 1, none⟩)) rfl rfl rfl (by kernel_rfl) (by kernel_rfl) (by kernel_rfl) (aindexAddr_slice (elem := 5) (size := 1) (by kernel_rfl) (by kernel_rfl) (by simp)) ?_
      obtain ⟨D23, hst23, hOs23, hks23⟩ := hO21.store (P := Try.prog) hk21.nx (t := 5) (by kernel_rfl) (y := n / 256 / 256 / 256 / 256 / 256 / 256 / 256 % 256 + 192) (by omega)
      refine EO.store (ad := ⟨b22, 0 + zc.length * 1, none⟩) (u := .int .u8 (n / 256 / 256 / 256 / 256 / 256 / 256 / 256 % 256 + 192)) (A1 := D23) rfl rfl rfl (by kernel_rfl) (by kernel_rfl) (by kernel_rfl) hst23 ?_
      refine EO.done rfl ?_
      refine blockQ_n ?_
      refine thenJ_n ?_
      refine J.region ?_
      refine EO.run 1 [0, 1, 4, 5, 6, 8, 9, 10, 11, 14, 15, 16, 17, 23, 30, 41, 42, 48, 49, 50] (S2 := [(0, vb), (1, .slice al ns.length capl), (4, .slice none 0 0), (5, .int .i64 0), (6, .slice (some ⟨b22, 0, none⟩) ((zc ++ [n / 256 / 256 / 256 / 256 / 256 / 256 / 256 % 256, n / 256 / 256 / 256 / 256 / 256 / 256 % 256, n / 256 / 256 / 256 / 256 / 256 % 256, n / 256 / 256 / 256 / 256 % 256, n / 256 / 256 / 256 % 256, n / 256 / 256 % 256, n / 256 % 256, n % 256]).length) ((zc ++ [n / 256 / 256 / 256 / 256 / 256 / 256 / 256 % 256, n / 256 / 256 / 256 / 256 / 256 / 256 % 256, n / 256 / 256 / 256 / 256 / 256 % 256, n / 256 / 256 / 256 / 256 % 256, n / 256 / 256 / 256 % 256, n / 256 / 256 % 256, n / 256 % 256, n % 256]).length)), (8, .int .u64 n), (9, .int .i64 3), (10, nI zc.length), (11, .int .i64 (-1)), (14, .slice al ns.length capl), (15, nI ns.length), (16, nI i), (17, bLt i ns.length), (23, .bool false), (30, .bool false), (41, .slice (some ⟨b22, 0, none⟩) ((zc ++ [n / 256 / 256 / 256 / 256 / 256 / 256 / 256 % 256, n / 256 / 256 / 256 / 256 / 256 / 256 % 256, n / 256 / 256 / 256 / 256 / 256 % 256, n / 256 / 256 / 256 / 256 % 256, n / 256 / 256 / 256 % 256, n / 256 / 256 % 256, n / 256 % 256, n % 256]).length) ((zc ++ [n / 256 / 256 / 256 / 256 / 256 / 256 / 256 % 256, n / 256 / 256 / 256 / 256 / 256 / 256 % 256, n / 256 / 256 / 256 / 256 / 256 % 256, n / 256 / 256 / 256 / 256 % 256, n / 256 / 256 / 256 % 256, n / 256 / 256 % 256, n / 256 % 256, n % 256]).length)), (42, nI zc.length), (48, .int .u8 (n / 256 / 256 / 256 / 256 / 256 / 256 / 256 % 256 + 192)), (49, .pointer (some ⟨b22, 0 + zc.length * 1, none⟩)), (50, .int .i64 (IntKind.wrap .i64 (((i : Nat) : Int) + 1)))]) (A2 := D23) rfl (by kernel_rfl) ?_
      refine EO.cast (S2 := [(0, vb), (1, .slice al ns.length capl), (4, .slice none 0 0), (5, .int .i64 0), (6, .slice (some ⟨b22, 0, none⟩) ((zc ++ [n / 256 / 256 / 256 / 256 / 256 / 256 / 256 % 256, n / 256 / 256 / 256 / 256 / 256 / 256 % 256, n / 256 / 256 / 256 / 256 / 256 % 256, n / 256 / 256 / 256 / 256 % 256, n / 256 / 256 / 256 % 256, n / 256 / 256 % 256, n / 256 % 256, n % 256]).length) ((zc ++ [n / 256 / 256 / 256 / 256 / 256 / 256 / 256 % 256, n / 256 / 256 / 256 / 256 / 256 / 256 % 256, n / 256 / 256 / 256 / 256 / 256 % 256, n / 256 / 256 / 256 / 256 % 256, n / 256 / 256 / 256 % 256, n / 256 / 256 % 256, n / 256 % 256, n % 256]).length)), (8, .int .u64 n), (9, .int .i64 3), (10, nI zc.length), (11, .int .i64 (-1)), (14, .slice al ns.length capl), (15, nI ns.length), (16, nI i), (17, bLt i ns.length), (23, .bool false), (30, .bool false), (41, .slice (some ⟨b22, 0, none⟩) ((zc ++ [n / 256 / 256 / 256 / 256 / 256 / 256 / 256 % 256, n / 256 / 256 / 256 / 256 / 256 / 256 % 256, n / 256 / 256 / 256 / 256 / 256 % 256, n / 256 / 256 / 256 / 256 % 256, n / 256 / 256 / 256 % 256, n / 256 / 256 % 256, n / 256 % 256, n % 256]).length) ((zc ++ [n / 256 / 256 / 256 / 256 / 256 / 256 / 256 % 256, n / 256 / 256 / 256 / 256 / 256 / 256 % 256, n / 256 / 256 / 256 / 256 / 256 % 256, n / 256 / 256 / 256 / 256 % 256, n / 256 / 256 / 256 % 256, n / 256 / 256 % 256, n / 256 % 256, n % 256]).length)), (42, nI zc.length), (48, .int .u8 (n / 256 / 256 / 256 / 256 / 256 / 256 / 256 % 256 + 192)), (49, .pointer (some ⟨b22, 0 + zc.length * 1, none⟩)), (50, .int .i64 ((i + 1 : Nat) : Int))]) (by rw [show (IntKind.wrap .i64 (((i : Nat) : Int) + 1) : Int) = ((i + 1 : Nat) : Int) from by rw [wrap_i64 (by omega) (by omega)]; omega]) ?_
      refine EO.run 2 [0, 1, 4, 5, 6, 14, 15, 16] (S2 := [(0, vb), (1, .slice al ns.length capl), (4, .slice none 0 0), (5, .int .i64 0), (6, .slice (some ⟨b22, 0, none⟩) ((zc ++ [n / 256 / 256 / 256 / 256 / 256 / 256 / 256 % 256, n / 256 / 256 / 256 / 256 / 256 / 256 % 256, n / 256 / 256 / 256 / 256 / 256 % 256, n / 256 / 256 / 256 / 256 % 256, n / 256 / 256 / 256 % 256, n / 256 / 256 % 256, n / 256 % 256, n % 256]).length) ((zc ++ [n / 256 / 256 / 256 / 256 / 256 / 256 / 256 % 256, n / 256 / 256 / 256 / 256 / 256 / 256 % 256, n / 256 / 256 / 256 / 256 / 256 % 256, n / 256 / 256 / 256 / 256 % 256, n / 256 / 256 / 256 % 256, n / 256 / 256 % 256, n / 256 % 256, n % 256]).length)), (14, .slice al ns.length capl), (15, nI ns.length), (16, .int .i64 ((i + 1 : Nat) : Int))]) (A2 := D23) rfl (by kernel_rfl) ?_
      refine EO.done rfl ?_
      refine loopI_n ?_
      exact ⟨i + 1, _, _, by omega, by omega, all_succ hnn (by rw [hc]; decide) q3, by rw [q4, encL_succ hnn, hsh, List.append_assoc], by simp only [List.length_append, List.length_cons, List.length_nil] at *; omega, hOs23, (hx21'.ak hks23), hks23.nx, rfl⟩
    · rw [hc] at e27
      refine EO.fcall (f := 27) (vs := [.int .u64 n]) (v := .int .i64 4) (A1 := A2) rfl rfl rfl rfl (by kernel_rfl) (by kernel_rfl) e27 ?_
      refine EO.run 3 [0, 1, 4, 5, 6, 8, 9, 14, 15, 16, 17] (S2 := [(0, vb), (1, .slice al ns.length capl), (4, .slice none 0 0), (5, .int .i64 0), (6, .slice aw zc.length capw), (8, .int .u64 n), (9, .int .i64 4), (14, .slice al ns.length capl), (15, nI ns.length), (16, nI i), (17, bLt i ns.length)]) (A2 := A2) rfl (by kernel_rfl) ?_
      refine EO.done rfl ?_
      refine J.seq ?_
      refine J.sr ?_
      refine EO.run 2 [0, 1, 4, 5, 6, 8, 9, 14, 15, 16, 17, 23] (S2 := [(0, vb), (1, .slice al ns.length capl), (4, .slice none 0 0), (5, .int .i64 0), (6, .slice aw zc.length capw), (8, .int .u64 n), (9, .int .i64 4), (14, .slice al ns.length capl), (15, nI ns.length), (16, nI i), (17, bLt i ns.length), (23, .bool true)]) (A2 := A2) rfl (by kernel_rfl) ?_
      refine EO.done rfl ?_
      refine J.cond true (by kernel_rfl) (fun _ => ?_) (fun h => Bool.noConfusion h)
      refine J.sr ?_
      refine EO.run 2 [0, 1, 4, 5, 6, 8, 9, 14, 15, 16, 17, 23] (S2 := [(0, vb), (1, .slice al ns.length capl), (4, .slice none 0 0), (5, .int .i64 5), (6, .slice aw zc.length capw), (8, .int .u64 n), (9, .int .i64 4), (14, .slice al ns.length capl), (15, nI ns.length), (16, nI i), (17, bLt i ns.length), (23, .bool true)]) (A2 := A2) rfl (by kernel_rfl) ?_
      refine EO.done rfl ?_
      refine J.ret ?_
      refine thenJ_r ?_
      refine blockQ_r ?_
      refine thenJ_r ?_
      refine loopI_r ?_
      refine blockQ_r ?_
      refine thenJ_r ?_
      refine Ends_r (vs := [.slice none 0 0, .int .i64 5]) (by kernel_rfl) ?_
      exact ⟨hx, hn, .inr ⟨⟨n, List.mem_of_getElem? hnn, by rw [hc]; decide⟩, rfl⟩⟩
  ·
    refine J.exit ?_
    refine thenJ_e ?_
    refine loopI_e ?_
    refine blockQ_hit ?_
    refine thenJ_n ?_
    refine J.sr ?_
    refine EO.run 3 [0, 1, 4, 5, 6, 14, 15, 16, 17] (S2 := [(0, vb), (1, .slice al ns.length capl), (4, .slice aw zc.length capw), (5, .int .i64 0), (6, .slice aw zc.length capw), (14, .slice al ns.length capl), (15, nI ns.length), (16, nI i), (17, bLt i ns.length)]) (A2 := A2) rfl (by kernel_rfl) ?_
    refine EO.done rfl ?_
    refine J.ret ?_
    refine Ends_r (vs := [.slice aw zc.length capw, .int .i64 0]) (by kernel_rfl) ?_
    have q7 : ns.take i = ns := List.take_of_length_le (by simp only [decide_eq_false_iff_not] at *; omega)
    rw [q7] at q3 q4
    exact ⟨hx, hn, .inl ⟨q3, _, rfl, by rw [q4] at hO; rw [q4]; exact hO⟩⟩
end
end Go.Proofs.Ytioggedadamoaaa
